/- The walk of gunnylaw22.EntryPlays. -/
import Derived.Test.YteifdbfaclpcdaaREntH
namespace Go.Proofs.YteifdbfaclpcdaaR
open Go.RowKit

set_option maxRecDepth 100000 in
set_option maxHeartbeats 4000000 in
theorem eplays_any (w : World) (M : Nat) (hM : M ≤ 65535) (A : Option Addr) (c : Nat) (L : List Ls) (hA : LsAt w w.heap.size A L) (hl : L.length ≤ 60) (hz : ∀ d ∈ L, ∀ z ∈ d.ks, z ≤ 9223372036854775807) (hn : ∀ d ∈ L, d.ks.length ≤ 9223372036854775807) (kk : Int) (hkk : kk ≤ 9223372036854775807) :
    Calls Try.prog 7 #[.int .u16 M, .slice A L.length c, .int .i64 kk] w fun x w' => x = .returned (.bool true) ∧ Below w.heap.size w w' := by
  have HA := Lib.hid hA
  have HZ := Lib.hid hz
  have HN := Lib.hid hn
  have hRl : RdI (w.alloc (.cells #[.int .i64 1] 3)) (w.heap.size + 1) (some ⟨w.heap.size, 0, none⟩) [1] := rd_lit w [1] rfl
  have HRl := Lib.hid hRl
  have HB0 : Hid (Below w.heap.size w (w.alloc (.cells #[.int .i64 1] 3))) := (Below.refl _ _).alloc (Nat.le_refl _) _
  obtain ⟨m, hm⟩ : ∃ m, M % 520 = m := ⟨_, rfl⟩
  have hmm : (M : Int) % 520 = (m : Int) := by omega
  have hm520 : m < 520 := by omega
  clear hA hz hn hRl hm
  go_enter Try.func7, Try.ntmps7
  go_wp2_with (first
    | (go_at_call 32; refine (zNext _).mono ?_; rintro x w2 ⟨rfl, rfl⟩)
    | (go_at_call 33; refine (zTake _).mono ?_; rintro x w2 ⟨rfl, rfl⟩)
    | (go_at_call 34; refine (zIn _ _).mono ?_; rintro x w2 ⟨rfl, rfl⟩)
    | (go_at_call 35; refine (zDrop HRl.out).mono ?_; rintro x w2 ⟨rfl, rfl⟩)
    | (go_at_call 36; refine (zLen _).mono ?_; rintro x w2 ⟨rfl, rfl⟩)
    | (go_at_call 38; refine (eNew_any _).mono ?_; rintro x w1 ⟨e, g, gw, rfl, h1, hB1, b1, b2, b3⟩)
    | ((with_reducible refine wpList_dst 68 ?_); refine wpList_build_ref rfl rfl ?_)
    | ((with_reducible refine wpList_dst 13 ?_); refine wpList_alloc_abs rfl 62 rfl (refCells (refOf fun _ => false) 0) refZV ?_; intro W2 z hz hz2 hB2)
    | ((with_reducible refine wpList_sto 13 68 ?_); refine wpList_store_abs rfl 62 (.tmp 13) (.tmp 68) rfl z rfl 62 (refCells (refOf fun _ => false) 0) (refCells (refOf fun _ => false) 0) rfl hz2 (ref_size _ _) (by rw [refCells_size]) (refCells_one _ _) ?_; intro w4 hz4 hF4 hs4))
  have hR : EpRun w w4 e g gw z (fun _ => false) 0 := by
    have hs0 : w.heap.size + 1 ≤ e ∧ w.heap.size + 1 ≤ g ∧ w.heap.size + 1 ≤ gw := by simp at b1 b2 b3; omega
    have t1 := h1.top.lt
    have t2 := h1.set.lt
    have hF1 : Fr (fun b => b = z) w1 w4 := (Fr.of_below (S := fun b => b = z) hB2 fun _ h1 h2 => by omega).trans hF4 fun _ _ h => h
    have hB1' : Below w.heap.size w w1 := HB0.out.trans (hB1.mono HB0.out.size)
    exact ⟨h1.fr hF1 (by omega) (by omega) (by omega), hz4, by omega, by have := hB1'.size; omega, hB1'.trans (hF1.below hB1'.size fun k hk h => by have := hB1'.size; omega)⟩
  clear h1 hB1 b1 b2 b3 hz hz2 hB2 hz4 hF4 hs4 HRl HB0
  go_loopw [14] (fun i wr => ∃ (k : Nat) (f : Nat → Bool) (last : Nat), k ≤ m + L.length ∧ i = .int .i64 k ∧ EpRun w wr e g gw z f last) (fun i _ => m + L.length - (intOf i).toNat)
  case atStart => exact ⟨0, _, _, Nat.zero_le _, rfl, hR⟩
  case round =>
    clear hR
    obtain ⟨k, f, last, hk', rfl, hR⟩ := hrel
    rcases Nat.lt_or_ge k (m + L.length) with hlt | hge
    · obtain ⟨T, HT⟩ : ∃ T : Bool, Hid (T = (decide (k < m) || decide ((L.getD (k - m) default).ks.length = 0))) := ⟨_, rfl⟩
      obtain ⟨at_, hat⟩ : ∃ z : Int, (k : Int) - m = z := ⟨_, rfl⟩
      have hwr : IntKind.i64.wrap ((k : Int) - (m : Int)) = at_ := (IntWalk.i64_in _ (by omega)).trans hat
      have hlti : (k : Int) < (m : Int) + (L.length : Int) := by omega
      have HAt := Lib.hid hat
      have HGet : Hid (∀ j : Nat, at_ = j → j < L.length → ∃ d, L[j]? = some d ∧ d ∈ L ∧ L.getD (k - m) default = d) := fun j hj hjl => by
        obtain rfl : j = k - m := by omega
        exact ⟨L[k - m], by simp [hjl], List.getElem_mem hjl, by simp [hjl]⟩
      clear hat
      go_upto_region 14 with fail
      go_cut [93] (fun s wx => s = .bool T ∧ wr = wx)
      case first => as_aux_lemma =>
        by_cases h3 : k < m
        · have hat0 : at_ < 0 := by have := HAt.out; omega
          have HV : Hid (T = true) := by show _ = _; rw [HT.out, decide_eq_true h3, Bool.true_or]
          clear h3
          go_wp2
          go_meet
          exact ⟨by rw [HV.out], rfl⟩
        · have hat0 : ¬ at_ < 0 := by have := HAt.out; omega
          obtain ⟨j, hj⟩ : ∃ j : Nat, at_ = j := ⟨at_.toNat, by omega⟩
          subst hj
          have hjl : j < L.length := by have := HAt.out; omega
          obtain ⟨d, hd, hdm, hde⟩ := HGet.out j rfl hjl
          obtain ⟨b, o, rfl, hb, hc, hr⟩ := (HA.out.below hR.below) j d hd
          have hdn := HN.out d hdm
          have e0 : decide (d.ks.length = 0) = ((d.ks.length : Int) == 0) := by rw [Bool.eq_iff_iff]; simp
          have HV : Hid (T = ((d.ks.length : Int) == 0)) := by show _ = _; rw [HT.out, decide_eq_false h3, Bool.false_or, hde, e0]
          clear e0
          clear hde hd
          go_wp2
          go_meet
          exact ⟨by rw [HV.out], rfl⟩
      case rest =>
        obtain ⟨rfl, rfl⟩ := hcut
        go_upto_if 93 with fail
        go_cut [12] (fun p wx => p = .pointer (some ⟨e, 0, none⟩) ∧ ∃ (f : Nat → Bool) (last : Nat), EpRun w wx e g gw z f last)
        case first => as_aux_lemma =>
          cases hTv : T
          · have h2 : ¬ k < m ∧ ¬ (L.getD (k - m) default).ks.length = 0 := by
              have := HT.out
              rw [hTv] at this
              simpa using this.symm
            obtain ⟨j, hj⟩ : ∃ j : Nat, at_ = j := ⟨at_.toNat, by have := HAt.out; omega⟩
            subst hj
            have hjl : j < L.length := by have := HAt.out; omega
            obtain ⟨d, hd, hdm, hde⟩ := HGet.out j rfl hjl
            obtain ⟨b, o, rfl, hb, hc, hr⟩ := (HA.out.below hR.below) j d hd
            have hdn := HN.out d hdm
            have hdp : ¬ d.ks.length = 0 := by rw [← hde]; exact h2.2
            have hd' := Lib.hid hd
            clear hde hd h2 HT HGet hTv
            rcases Nat.lt_or_ge 600 d.ks.length with h6 | h6
            · have h6i : (600 : Int) < d.ks.length := by omega
              go_wp2_with (go_at_call 37; refine (entLives _).mono ?_; rintro x w7 ⟨rfl, hB7⟩)
              go_ret
              exact ⟨rfl, hR.below.trans (hB7.mono hR.below.size)⟩
            · have h6i : ¬ (600 : Int) < d.ks.length := by omega
              have HR := Lib.hid hR
              go_upto_region 22 with fail
              have HI1 := Lib.hid (ref_size (refOf f) last)
              have HI3 := Lib.hid (ref_size (refOf (dropE f d.ks)) last)
              have HRd : Hid (∀ W, EpRun w W e g gw z f last → Calls Try.prog 40 #[.agg (refCells (refOf f) last), .slice d.A d.ks.length d.c] W fun x w' => x = .returned (.tuple #[.agg (refCells (refOf (dropE f d.ks)) last), .int .i64 (dropN f d.ks)]) ∧ Below W.heap.size W w') := fun W hW => by
                obtain ⟨b', o', e1, _, _, hr'⟩ := (HA.out.below hW.below) j d hd'.out
                exact refDrop_any hr' hW.below.size (by omega)
              have hz0 := hR.lts
              have hz1 := hR.b
              go_cut [20, 21] (fun p n wx => ∃ y, p = .pointer (some ⟨y, 0, none⟩) ∧ n = .int .i64 (dropN f d.ks) ∧ EpRun w wx e g gw z f last ∧ Bk wx y 62 (refCells (refOf (dropE f d.ks)) last) ∧ wr.heap.size ≤ y)
              case first => as_aux_lemma =>
                refine wp_region_held_drew (S := fun W => EpRun w W e g gw z f last ∧ W.cell? ⟨b, o + j, none⟩ = some (.slice d.A d.ks.length d.c)) (by kernel_rfl) ⟨hR.below' ((Below.refl _ _).drew), hc⟩ (fun hHeld => ?_)
                refine wpAnyH_take (i := 0) (v := .agg (refCells (refOf f) last)) rfl (by kernel_rfl) (by kernel_rfl) (by kernel_rfl) (fun _ _ _ h => h) (Or.inl ⟨by rfl, fun W hW => run_load_row W 62 (.tmp 13) rfl z rfl 62 _ _ hW.1.bk Try.underlying62 rfl HI1.out⟩) hHeld ?_
                simp only [Act.put, List.getElem_toArray, List.getElem_cons_zero, List.setIfInBounds_toArray, List.set_cons_zero, List.set_cons_succ]
                refine wpAnyH_take (i := 1) (v := .slice (some ⟨b, o, none⟩) L.length c) rfl (by kernel_rfl) (by kernel_rfl) (by kernel_rfl) (fun _ _ _ h => h) (Or.inl ⟨by rfl, fun W hW => rfl⟩) hHeld ?_
                simp only [Act.put, List.getElem_toArray, List.getElem_cons_zero, List.getElem_cons_succ, List.setIfInBounds_toArray, List.set_cons_zero, List.set_cons_succ]
                refine wpAnyH_take (i := 2) (v := .int .i64 j) rfl (by kernel_rfl) (by kernel_rfl) (by kernel_rfl) (fun _ _ _ h => h) (Or.inl ⟨by rfl, fun W hW => rfl⟩) hHeld ?_
                simp only [Act.put, List.getElem_toArray, List.getElem_cons_zero, List.getElem_cons_succ, List.setIfInBounds_toArray, List.set_cons_zero, List.set_cons_succ]
                refine wpAnyH_take (i := 3) (v := .pointer (some ⟨b, o + j, none⟩)) rfl (by kernel_rfl) (by kernel_rfl) (by kernel_rfl) (fun _ _ _ h => h) (Or.inl ⟨by rfl, fun W hW => by go_simp⟩) hHeld ?_
                simp only [Act.put, List.getElem_toArray, List.getElem_cons_zero, List.getElem_cons_succ, List.setIfInBounds_toArray, List.set_cons_zero, List.set_cons_succ]
                refine wpAnyH_take (i := 4) (v := .slice d.A d.ks.length d.c) rfl (by kernel_rfl) (by kernel_rfl) (by kernel_rfl) (fun _ _ _ h => h) (Or.inl ⟨by rfl, fun W hW => by have hcW := hW.2; go_simp⟩) hHeld ?_
                simp only [Act.put, List.getElem_toArray, List.getElem_cons_zero, List.getElem_cons_succ, List.setIfInBounds_toArray, List.set_cons_zero, List.set_cons_succ]
                refine wpAnyH_ready (rs := [5, 9]) (by kernel_rfl) (by simp) ?_
                refine AllReadyH.cons rfl (fun K hK => ?_) (AllReadyH.cons rfl (fun K hK => ?_) AllReadyH.nil)
                · rw [if_pos (by rfl)]
                  go_simp
                  refine (HRd.out _ hHeld.1).mono ?_
                  rintro x w2 ⟨rfl, hB2⟩
                  go_wp2_with fail
                  have hs2 : wr.heap.size ≤ w2.heap.size := hB2.size
                  have hHeld2 : EpRun w w2 e g gw z f last ∧ w2.cell? ⟨b, o + j, none⟩ = some (.slice d.A d.ks.length d.c) := ⟨hHeld.1.below' hB2, (hB2.cell (p := ⟨b, o + j, none⟩) (Nat.lt_of_lt_of_le hb hHeld.1.below.size)).trans hHeld.2⟩
                  refine hK.out _ _ hHeld2 (fun hHeld => ?_)
                  clear hHeld2 hK
                  try simp only [Act.put, List.getElem_toArray, List.getElem_cons_zero, List.getElem_cons_succ, List.setIfInBounds_toArray, List.set_cons_zero, List.set_cons_succ]
                  refine wpAnyH_take (i := 6) (v := .tuple #[.agg (refCells (refOf (dropE f d.ks)) last), .int .i64 (dropN f d.ks)]) rfl (by kernel_rfl) (by kernel_rfl) (by kernel_rfl) (fun _ _ _ h => h) (Or.inl ⟨by rfl, fun W hW => rfl⟩) hHeld ?_
                  simp only [Act.put, List.getElem_toArray, List.getElem_cons_zero, List.getElem_cons_succ, List.setIfInBounds_toArray, List.set_cons_zero, List.set_cons_succ]
                  refine wpAnyH_take (i := 7) (v := .agg (refCells (refOf (dropE f d.ks)) last)) rfl (by kernel_rfl) (by kernel_rfl) (by kernel_rfl) (fun _ _ _ h => h) (Or.inl ⟨by rfl, fun W hW => by go_simp⟩) hHeld ?_
                  simp only [Act.put, List.getElem_toArray, List.getElem_cons_zero, List.getElem_cons_succ, List.setIfInBounds_toArray, List.set_cons_zero, List.set_cons_succ]
                  refine wpAnyH_take (i := 8) (v := .int .i64 (dropN f d.ks)) rfl (by kernel_rfl) (by kernel_rfl) (by kernel_rfl) (fun _ _ _ h => h) (Or.inl ⟨by rfl, fun W hW => by go_simp⟩) hHeld ?_
                  simp only [Act.put, List.getElem_toArray, List.getElem_cons_zero, List.getElem_cons_succ, List.setIfInBounds_toArray, List.set_cons_zero, List.set_cons_succ]
                  refine wpAnyH_ready (rs := [9]) (by kernel_rfl) (by simp) ?_
                  refine AllReadyH.cons rfl (fun K hK => ?_) AllReadyH.nil
                  rw [if_pos (by rfl)]
                  refine wp_alloc_abs 62 rfl (refCells (refOf fun _ => false) 0) refZV ?_
                  intro W3 y hy hy3 hB3
                  have hy0 : wr.heap.size ≤ y := Nat.le_trans hs2 hy
                  have hyb : w.heap.size ≤ y := by omega
                  have hHeld2 : EpRun w W3 e g gw z f last ∧ W3.cell? ⟨b, o + j, none⟩ = some (.slice d.A d.ks.length d.c) := ⟨hHeld.1.below' hB3, (hB3.cell (p := ⟨b, o + j, none⟩) (Nat.lt_of_lt_of_le hb hHeld.1.below.size)).trans hHeld.2⟩
                  refine hK.out _ _ hHeld2 (fun hHeld => ?_)
                  clear hHeld2 hK
                  try simp only [Act.put, List.getElem_toArray, List.getElem_cons_zero, List.getElem_cons_succ, List.setIfInBounds_toArray, List.set_cons_zero, List.set_cons_succ]
                  obtain ⟨W5, e5⟩ : ∃ W, W = W3 := ⟨_, rfl⟩
                  rw [← e5] at hHeld hy3 ⊢
                  refine wpAnyH_ready (rs := [10]) (by kernel_rfl) (by simp) ?_
                  refine AllReadyH.cons rfl (fun K hK => ?_) AllReadyH.nil
                  rw [if_pos (by rfl)]
                  refine wp_store_row 62 (.tmp 20) (.tmp 137) rfl y rfl 62 (refCells (refOf fun _ => false) 0) (refCells (refOf (dropE f d.ks)) last) rfl hy3 HI3.out (by rw [refCells_size, refCells_size]) (refCells_one _ _) ?_
                  have hy5 := Bk.setRow hy3 (refCells (refOf (dropE f d.ks)) last)
                  have hF5 : Fr (fun x => x = y) W5 (W5.setRow y (refCells (refOf (dropE f d.ks)) last)) := (Fr.refl _ W5).setRow y _ fun _ => rfl
                  generalize W5.setRow y (refCells (refOf (dropE f d.ks)) last) = W6 at *
                  have hHeld2 : EpRun w W6 e g gw z f last ∧ W6.cell? ⟨b, o + j, none⟩ = some (.slice d.A d.ks.length d.c) := ⟨hHeld.1.far hF5 (by omega) (by omega), (hF5.cell (a := ⟨b, o + j, none⟩) (Nat.lt_of_lt_of_le hb hHeld.1.below.size) (fun e => by have e : b = y := e; omega)).trans hHeld.2⟩
                  refine hK.out _ _ hHeld2 (fun hHeld => ?_)
                  clear hHeld2 hK
                  try simp only [Act.put, List.getElem_toArray, List.getElem_cons_zero, List.getElem_cons_succ]
                  refine wpAnyH_take (i := 11) (v := .int .i64 (dropN f d.ks)) rfl (by kernel_rfl) (by kernel_rfl) (by kernel_rfl) (fun _ _ _ h => h) (Or.inl ⟨by rfl, fun W hW => rfl⟩) hHeld ?_
                  simp only [Act.put, List.getElem_toArray, List.getElem_cons_zero, List.getElem_cons_succ, List.setIfInBounds_toArray, List.set_cons_zero, List.set_cons_succ]
                  refine wpAnyH_done (by kernel_rfl) ?_ _
                  go_wp2
                  go_meet
                  exact ⟨y, rfl, rfl, hHeld.1, hy5, by omega⟩
                · rw [if_pos (by rfl)]
                  refine wp_alloc_abs 62 rfl (refCells (refOf fun _ => false) 0) refZV ?_
                  intro W3 y hy hy3 hB3
                  have hy0 : wr.heap.size ≤ y := hy
                  have hyb : w.heap.size ≤ y := by omega
                  have hHeld2 : EpRun w W3 e g gw z f last ∧ W3.cell? ⟨b, o + j, none⟩ = some (.slice d.A d.ks.length d.c) := ⟨hHeld.1.below' hB3, (hB3.cell (p := ⟨b, o + j, none⟩) (Nat.lt_of_lt_of_le hb hHeld.1.below.size)).trans hHeld.2⟩
                  refine hK.out _ _ hHeld2 (fun hHeld => ?_)
                  clear hHeld2 hK
                  try simp only [Act.put, List.getElem_toArray, List.getElem_cons_zero, List.getElem_cons_succ, List.setIfInBounds_toArray, List.set_cons_zero, List.set_cons_succ]
                  refine wpAnyH_ready (rs := [5]) (by kernel_rfl) (by simp) ?_
                  refine AllReadyH.cons rfl (fun K hK => ?_) AllReadyH.nil
                  rw [if_pos (by rfl)]
                  go_simp
                  refine (HRd.out _ hHeld.1).mono ?_
                  rintro x w2 ⟨rfl, hB2⟩
                  go_wp2_with fail
                  have hy4 := hy3.below' hB2
                  have hHeld2 : EpRun w w2 e g gw z f last ∧ w2.cell? ⟨b, o + j, none⟩ = some (.slice d.A d.ks.length d.c) := ⟨hHeld.1.below' hB2, (hB2.cell (p := ⟨b, o + j, none⟩) (Nat.lt_of_lt_of_le hb hHeld.1.below.size)).trans hHeld.2⟩
                  refine hK.out _ _ hHeld2 (fun hHeld => ?_)
                  clear hHeld2 hK
                  try simp only [Act.put, List.getElem_toArray, List.getElem_cons_zero, List.getElem_cons_succ, List.setIfInBounds_toArray, List.set_cons_zero, List.set_cons_succ]
                  refine wpAnyH_take (i := 6) (v := .tuple #[.agg (refCells (refOf (dropE f d.ks)) last), .int .i64 (dropN f d.ks)]) rfl (by kernel_rfl) (by kernel_rfl) (by kernel_rfl) (fun _ _ _ h => h) (Or.inl ⟨by rfl, fun W hW => rfl⟩) hHeld ?_
                  simp only [Act.put, List.getElem_toArray, List.getElem_cons_zero, List.getElem_cons_succ, List.setIfInBounds_toArray, List.set_cons_zero, List.set_cons_succ]
                  refine wpAnyH_take (i := 7) (v := .agg (refCells (refOf (dropE f d.ks)) last)) rfl (by kernel_rfl) (by kernel_rfl) (by kernel_rfl) (fun _ _ _ h => h) (Or.inl ⟨by rfl, fun W hW => by go_simp⟩) hHeld ?_
                  simp only [Act.put, List.getElem_toArray, List.getElem_cons_zero, List.getElem_cons_succ, List.setIfInBounds_toArray, List.set_cons_zero, List.set_cons_succ]
                  refine wpAnyH_take (i := 8) (v := .int .i64 (dropN f d.ks)) rfl (by kernel_rfl) (by kernel_rfl) (by kernel_rfl) (fun _ _ _ h => h) (Or.inl ⟨by rfl, fun W hW => by go_simp⟩) hHeld ?_
                  simp only [Act.put, List.getElem_toArray, List.getElem_cons_zero, List.getElem_cons_succ, List.setIfInBounds_toArray, List.set_cons_zero, List.set_cons_succ]
                  obtain ⟨W5, e5⟩ : ∃ W, W = w2 := ⟨_, rfl⟩
                  rw [← e5] at hHeld hy4 ⊢
                  refine wpAnyH_ready (rs := [10]) (by kernel_rfl) (by simp) ?_
                  refine AllReadyH.cons rfl (fun K hK => ?_) AllReadyH.nil
                  rw [if_pos (by rfl)]
                  refine wp_store_row 62 (.tmp 20) (.tmp 137) rfl y rfl 62 (refCells (refOf fun _ => false) 0) (refCells (refOf (dropE f d.ks)) last) rfl hy4 HI3.out (by rw [refCells_size, refCells_size]) (refCells_one _ _) ?_
                  have hy5 := Bk.setRow hy4 (refCells (refOf (dropE f d.ks)) last)
                  have hF5 : Fr (fun x => x = y) W5 (W5.setRow y (refCells (refOf (dropE f d.ks)) last)) := (Fr.refl _ W5).setRow y _ fun _ => rfl
                  generalize W5.setRow y (refCells (refOf (dropE f d.ks)) last) = W6 at *
                  have hHeld2 : EpRun w W6 e g gw z f last ∧ W6.cell? ⟨b, o + j, none⟩ = some (.slice d.A d.ks.length d.c) := ⟨hHeld.1.far hF5 (by omega) (by omega), (hF5.cell (a := ⟨b, o + j, none⟩) (Nat.lt_of_lt_of_le hb hHeld.1.below.size) (fun e => by have e : b = y := e; omega)).trans hHeld.2⟩
                  refine hK.out _ _ hHeld2 (fun hHeld => ?_)
                  clear hHeld2 hK
                  try simp only [Act.put, List.getElem_toArray, List.getElem_cons_zero, List.getElem_cons_succ]
                  refine wpAnyH_take (i := 11) (v := .int .i64 (dropN f d.ks)) rfl (by kernel_rfl) (by kernel_rfl) (by kernel_rfl) (fun _ _ _ h => h) (Or.inl ⟨by rfl, fun W hW => rfl⟩) hHeld ?_
                  simp only [Act.put, List.getElem_toArray, List.getElem_cons_zero, List.getElem_cons_succ, List.setIfInBounds_toArray, List.set_cons_zero, List.set_cons_succ]
                  refine wpAnyH_done (by kernel_rfl) ?_ _
                  go_wp2
                  go_meet
                  exact ⟨y, rfl, rfl, hHeld.1, hy5, by omega⟩
              case rest =>
                obtain ⟨y, rfl, rfl, hR2, hy2, hyb⟩ := hcut
                have HR2 := Lib.hid hR2
                have HDr : Hid (∀ W, EntAt W e g gw f last → Below w.heap.size w W → Calls Try.prog 35 #[.pointer (some ⟨e, 0, none⟩), .slice d.A d.ks.length d.c] W fun x w' => x = .returned (.int .i64 (dropN f d.ks)) ∧ EntAt w' e g gw (dropE f d.ks) last ∧ Fr (fun b => b = e ∨ b = g ∨ b = gw) W w') := fun W hE hB => by
                  obtain ⟨b', o', _, _, _, hr'⟩ := (HA.out.below hB) j d hd'.out
                  exact eDrop_any hE hr' hB.size (fun ad e1 h0 hh => by
                    obtain ⟨ad', e2, hb', _⟩ := hr'.at_ h0
                    rw [e1] at e2
                    injection e2 with e2
                    subst e2
                    omega) (fun z hz => HZ.out d hdm z hz) (by omega)
                have HCc : Hid (∀ W, Below w.heap.size w W → W.cell? ⟨b, o + j, none⟩ = some (.slice d.A d.ks.length d.c)) := fun W hB => by
                  obtain ⟨b', o', e1, _, h3, _⟩ := (HA.out.below hB) j d hd'.out
                  injection e1 with e1
                  injection e1 with e1 e2
                  subst e1 e2
                  exact h3
                clear hR hR2 HR HRd hc hr
                go_wp2_with (first
                  | ((with_reducible refine wpList_dst 139 ?_); refine wpList_load_row rfl 62 (.tmp 20) rfl y rfl 62 (refCells (refOf (dropE f d.ks)) last) (0, 0) _ hy2 Try.underlying62 rfl HI3.out ?_)
                  | ((with_reducible refine wpList_sto 13 139 ?_); refine wpList_store_abs rfl 62 (.tmp 13) (.tmp 139) rfl z rfl 62 (refCells (refOf f) last) (refCells (refOf (dropE f d.ks)) last) rfl HR2.out.bk HI3.out (by rw [refCells_size, refCells_size]) (refCells_one _ _) ?_; intro w5 hz5 hF5 hs5; have h5 := HR2.out.ent' hF5; have hb5 : Below w.heap.size w w5 := HR2.out.below.trans (hF5.below HR2.out.below.size fun q hq e => by omega); have hc5 := HCc.out _ hb5)
                  | (go_at_call 35; refine (HDr.out _ h5 hb5).mono ?_; rintro x w6 ⟨rfl, hE6, hF6⟩))
                go_meet
                exact ⟨rfl, _, _, HR2.out.put hz5 hF5 hE6 hF6⟩
          · have HE := Lib.hid (fun W (hW : EntAt W e g gw f last) => eTake_all hW)
            have HR := Lib.hid hR
            have HRf := Lib.hid (fun W => refTake_all W f last hR.ent.last_le)
            have HI1 := Lib.hid (ref_size (refOf f) last)
            have HI2 := Lib.hid (ref_size (refOf (tkF f last)) (tkL f last))
            have HZV := Lib.hid refZV
            have HEn : Hid (tkE (nextOf f last) = if 0 < nextOf f last then 0 else 11) := rfl
            clear HT HGet hTv
            generalize nextOf f last = nx at *
            generalize tkF f last = f2 at *
            generalize tkL f last = last2 at *
            generalize tkE nx = er at *
            clear hR
            have hcase : (nx = 0 ∧ er = 11) ∨ ((0 : Int) < nx ∧ ((nx : Int) == 0) = false ∧ er = 0) := by
              have he := HEn.out
              rcases Nat.eq_zero_or_pos nx with h | h
              · exact .inl ⟨h, by rw [he, if_neg (by omega)]⟩
              · exact .inr ⟨by omega, beq_eq_false_iff_ne.2 (by omega), by rw [he, if_pos h]⟩
            clear HEn
            rcases hcase with ⟨rfl, rfl⟩ | ⟨hp, hne, rfl⟩
            all_goals
              go_wp2_with (first
                | ((with_reducible refine wpList_dst 95 ?_); refine wpList_load_row rfl 62 (.tmp 13) rfl z rfl 62 (refCells (refOf f) last) (0, 0) _ HR.out.bk Try.underlying62 rfl HI1.out ?_)
                | (go_at_call 39; refine (HRf.out _).mono ?_; rintro x w2 ⟨rfl, hB2⟩; have HR2 := Lib.hid (HR.out.below' hB2))
                | ((with_reducible refine wpList_dst 16 ?_); refine wpList_alloc_abs rfl 62 rfl (refCells (refOf fun _ => false) 0) HZV.out ?_; intro W3 y hy hy3 hB3; have HR3 := Lib.hid (HR2.out.below' hB3); have hy0 := HR2.out.lts; have hy1 := HR2.out.b)
                | ((with_reducible refine wpList_sto 16 97 ?_); refine wpList_store_abs rfl 62 (.tmp 16) (.tmp 97) rfl y rfl 62 (refCells (refOf fun _ => false) 0) (refCells (refOf f2) last2) rfl hy3 HI2.out (by rw [refCells_size, refCells_size]) (refCells_one _ _) ?_; intro w4 hy4 hF4 hs4; have HR4 := Lib.hid (HR3.out.far hF4 (by omega) (by omega)))
                | ((with_reducible refine wpList_dst 99 ?_); refine wpList_load_row rfl 62 (.tmp 16) rfl y rfl 62 (refCells (refOf f2) last2) (0, 0) _ hy4 Try.underlying62 rfl HI2.out ?_)
                | ((with_reducible refine wpList_sto 13 99 ?_); refine wpList_store_abs rfl 62 (.tmp 13) (.tmp 99) rfl z rfl 62 (refCells (refOf f) last) (refCells (refOf f2) last2) rfl HR4.out.bk HI2.out (by rw [refCells_size, refCells_size]) (refCells_one _ _) ?_; intro w5 hz5 hF5 hs5; have h5 := HR4.out.ent' hF5)
                | (go_at_call 33; refine (HE.out _ h5).mono ?_; rintro x w6 ⟨rfl, hE6, hF6⟩))
              go_meet
              exact ⟨rfl, f2, last2, HR4.out.put hz5 hF5 hE6 hF6⟩
        case rest =>
          clear hR HT
          obtain ⟨rfl, f, last, hR⟩ := hcut
          have HN1 := Lib.hid (eNext_any hR.ent)
          have HN2 := Lib.hid (fun W => refNext_any W f last hR.ent.last_le)
          have HI1 := Lib.hid (ref_size (refOf f) last)
          have HR := Lib.hid hR
          obtain ⟨nx, hnx⟩ : ∃ nx, nextOf f last = nx := ⟨_, rfl⟩
          rw [hnx] at HN1 HN2
          obtain ⟨bp, hbp⟩ : ∃ bp, decide (0 < nx) = bp := ⟨_, rfl⟩
          have hbp2 : decide ((0 : Int) < (nx : Int)) = bp := by rw [← hbp]; simp
          rw [hbp] at HN1
          have hbp3 := hbp
          clear hnx hbp
          go_wp2_with (first
            | (go_at_call 32; refine HN1.out.mono ?_; rintro x w6 ⟨rfl, rfl⟩)
            | ((with_reducible refine wpList_dst 153 ?_); refine wpList_load_row rfl 62 (.tmp 13) rfl z rfl 62 (refCells (refOf f) last) (0, 0) _ HR.out.bk Try.underlying62 rfl HI1.out ?_)
            | (go_at_call 41; refine (HN2.out _).mono ?_; rintro x w7 ⟨rfl, hB7⟩; have HR7 := Lib.hid (HR.out.below' hB7)))
          by_cases h0 : 0 ≤ at_
          · rcases (show kk < 1 ∨ 512 < kk ∨ ∃ n : Nat, kk = (n : Int) + 1 ∧ n < 512 by
              rcases Int.lt_or_le kk 1 with h | h
              · exact .inl h
              · rcases Int.lt_or_le 512 kk with h2 | h2
                · exact .inr (.inl h2)
                · exact .inr (.inr ⟨(kk - 1).toNat, by omega, by omega⟩)) with hk1 | hk1 | ⟨n, hkz, hn5⟩
            · have hin : inB f kk = false := inB_no hk1
              have hk2 : ¬ (1 : Int) ≤ kk := by omega
              refine wp_region_class (fun W => EpRun w W e g gw z f last) (by kernel_rfl) (by kernel_rfl) (HR7.out.below' ((Below.refl _ _).drew)) ?_
              repeat (first
                | (go_big_quiet_want; refine quiet_load_row 62 (.tmp 13) rfl z rfl 62 (refCells (refOf f) last) _ (fun W hW => hW.bk) Try.underlying62 rfl HI1.out ?_; go_big_quiet_on; simp only [Act.put, List.setIfInBounds_toArray, List.set_cons_zero, List.set_cons_succ])
                | go_big_quiet_step ((intro hC; first
                  | (go_at_call 36; refine (eLen_any hC.ent).mono ?_; rintro x w'' ⟨rfl, rfl⟩; exact ⟨rfl, hC⟩)
                  | (go_at_call 42; refine (refLen_any _ f last).mono ?_; rintro x w'' ⟨rfl, hB⟩; exact ⟨rfl, hC.below' hB⟩)
                  | (go_at_call 34; refine (eIn_any hC.ent kk hkk).mono ?_; rintro x w'' ⟨rfl, rfl⟩; exact ⟨rfl, hC⟩)
                  | exact rfl)))
              refine wpQuiet_nil ?_
              intro w8 hR8
              go_wp2
              go_roundw
              case rel => exact ⟨k + 1, f, last, by omega, by go_num, hR8⟩
              case measure => simp [intOf]; omega
            · have hin : inB f kk = false := by
                cases hb : inB f kk
                · rfl
                · obtain ⟨n, h1, h2, _⟩ := inB_true hb
                  omega
              have hk2 : (1 : Int) ≤ kk := by omega
              have hk3 : ¬ kk ≤ 512 := by omega
              refine wp_region_class (fun W => EpRun w W e g gw z f last) (by kernel_rfl) (by kernel_rfl) (HR7.out.below' ((Below.refl _ _).drew)) ?_
              repeat (first
                | (go_big_quiet_want; refine quiet_load_row 62 (.tmp 13) rfl z rfl 62 (refCells (refOf f) last) _ (fun W hW => hW.bk) Try.underlying62 rfl HI1.out ?_; go_big_quiet_on; simp only [Act.put, List.setIfInBounds_toArray, List.set_cons_zero, List.set_cons_succ])
                | go_big_quiet_step ((intro hC; first
                  | (go_at_call 36; refine (eLen_any hC.ent).mono ?_; rintro x w'' ⟨rfl, rfl⟩; exact ⟨rfl, hC⟩)
                  | (go_at_call 42; refine (refLen_any _ f last).mono ?_; rintro x w'' ⟨rfl, hB⟩; exact ⟨rfl, hC.below' hB⟩)
                  | (go_at_call 34; refine (eIn_any hC.ent kk hkk).mono ?_; rintro x w'' ⟨rfl, rfl⟩; exact ⟨rfl, hC⟩)
                  | exact rfl)))
              refine wpQuiet_nil ?_
              intro w8 hR8
              go_wp2
              go_roundw
              case rel => exact ⟨k + 1, f, last, by omega, by go_num, hR8⟩
              case measure => simp [intOf]; omega
            · obtain ⟨bn, hbn⟩ : ∃ bn, f n = bn := ⟨_, rfl⟩
              have hin : inB f kk = bn := by rw [hkz, inB_succ f hn5, hbn]
              have HCl : Hid (∀ W, EpRun w W e g gw z f last → W.cell? ⟨z, n + 1, none⟩ = some (.bool bn)) := fun W hW => by
                rw [Bk.cell hW.bk (n + 1), refCells_bit _ _ (by omega)]
                simp [refOf, hbn]
              obtain ⟨n1, hn1⟩ : ∃ n1, n + 1 = n1 := ⟨_, rfl⟩
              rw [hn1] at HCl
              have hk2 : (1 : Int) ≤ kk := by omega
              have hk3 : kk ≤ 512 := by omega
              have hk4 : max 0 kk = kk := by omega
              have hk5 : kk % 513 = kk := by omega
              have hk6 : (0 : Int) ≤ kk := by omega
              have hk7 : kk < 513 := by omega
              have hk8 : kk.toNat = n1 := by omega
              clear hkz hn1 hbn
              refine wp_region_class (fun W => EpRun w W e g gw z f last) (by kernel_rfl) (by kernel_rfl) (HR7.out.below' ((Below.refl _ _).drew)) ?_
              repeat (first
                | (go_big_quiet_want; refine quiet_load_row 62 (.tmp 13) rfl z rfl 62 (refCells (refOf f) last) _ (fun W hW => hW.bk) Try.underlying62 rfl HI1.out ?_; go_big_quiet_on; simp only [Act.put, List.setIfInBounds_toArray, List.set_cons_zero, List.set_cons_succ])
                | go_big_quiet_step ((intro hC; first
                  | (go_at_call 36; refine (eLen_any hC.ent).mono ?_; rintro x w'' ⟨rfl, rfl⟩; exact ⟨rfl, hC⟩)
                  | (go_at_call 42; refine (refLen_any _ f last).mono ?_; rintro x w'' ⟨rfl, hB⟩; exact ⟨rfl, hC.below' hB⟩)
                  | (go_at_call 34; refine (eIn_any hC.ent kk hkk).mono ?_; rintro x w'' ⟨rfl, rfl⟩; exact ⟨rfl, hC⟩)
                  | exact rfl
                  | (refine ⟨?_, ?_⟩ <;> first | rfl | (simp [HCl.out _ hC]; done))
                  | (simp [HCl.out _ hC]; rfl))))
              refine wpQuiet_nil ?_
              intro w8 hR8
              go_wp2
              go_roundw
              case rel => exact ⟨k + 1, f, last, by omega, by go_num, hR8⟩
              case measure => simp [intOf]; omega
          · refine wp_region_class (fun W => EpRun w W e g gw z f last) (by kernel_rfl) (by kernel_rfl) (HR7.out.below' ((Below.refl _ _).drew)) ?_
            repeat (first
                | (go_big_quiet_want; refine quiet_load_row 62 (.tmp 13) rfl z rfl 62 (refCells (refOf f) last) _ (fun W hW => hW.bk) Try.underlying62 rfl HI1.out ?_; go_big_quiet_on; simp only [Act.put, List.setIfInBounds_toArray, List.set_cons_zero, List.set_cons_succ])
                | go_big_quiet_step ((intro hC; first
                  | (go_at_call 36; refine (eLen_any hC.ent).mono ?_; rintro x w'' ⟨rfl, rfl⟩; exact ⟨rfl, hC⟩)
                  | (go_at_call 42; refine (refLen_any _ f last).mono ?_; rintro x w'' ⟨rfl, hB⟩; exact ⟨rfl, hC.below' hB⟩)
                  | (go_at_call 34; refine (eIn_any hC.ent kk hkk).mono ?_; rintro x w'' ⟨rfl, rfl⟩; exact ⟨rfl, hC⟩)
                  | exact rfl)))
            refine wpQuiet_nil ?_
            intro w8 hR8
            go_wp2
            go_roundw
            case rel => exact ⟨k + 1, f, last, by omega, by go_num, hR8⟩
            case measure => simp [intOf]; omega
    · have HR := Lib.hid hR
      have HI1 := Lib.hid (ref_size (refOf f) last)
      clear hR
      obtain rfl : k = m + L.length := by omega
      go_upto_region 30 with fail
      refine wp_region_class (fun W => EpRun w W e g gw z f last) (by kernel_rfl) (by kernel_rfl) (HR.out.below' ((Below.refl _ _).drew)) ?_
      repeat (first
                | (go_big_quiet_want; refine quiet_load_row 62 (.tmp 13) rfl z rfl 62 (refCells (refOf f) last) _ (fun W hW => hW.bk) Try.underlying62 rfl HI1.out ?_; go_big_quiet_on; simp only [Act.put, List.setIfInBounds_toArray, List.set_cons_zero, List.set_cons_succ])
                | go_big_quiet_step ((intro hC; first
                  | (go_at_call 36; refine (eLen_any hC.ent).mono ?_; rintro x w'' ⟨rfl, rfl⟩; exact ⟨rfl, hC⟩)
                  | (go_at_call 42; refine (refLen_any _ f last).mono ?_; rintro x w'' ⟨rfl, hB⟩; exact ⟨rfl, hC.below' hB⟩)
                  | (go_at_call 34; refine (eIn_any hC.ent kk hkk).mono ?_; rintro x w'' ⟨rfl, rfl⟩; exact ⟨rfl, hC⟩)
                  | (go_at_call 37; refine (entLives _).mono ?_; rintro x w'' ⟨rfl, hB⟩; exact ⟨rfl, hC.below' hB⟩)
                  | exact rfl)))
      refine wpQuiet_nil ?_
      intro w8 hR8
      go_wp2
      go_ret
      exact ⟨rfl, hR8.below⟩

set_option maxRecDepth 100000 in
set_option maxHeartbeats 1000000 in
theorem eplays_great (w : World) (M kk : Value) (A : Option Addr) (c n : Nat) (hl : 60 < n) (_hn : n ≤ 9223372036854775807) :
    Calls Try.prog 7 #[M, .slice A n c, kk] w fun x w' => x = .returned (.bool true) ∧ Below w.heap.size w w' := by
  have hRl : RdI (w.alloc (.cells #[.int .i64 1] 3)) (w.heap.size + 1) (some ⟨w.heap.size, 0, none⟩) [1] := rd_lit w [1] rfl
  have HRl := Lib.hid hRl
  have HB0 : Hid (Below w.heap.size w (w.alloc (.cells #[.int .i64 1] 3))) := (Below.refl _ _).alloc (Nat.le_refl _) _
  have hli : (60 : Int) < n := by omega
  clear hRl
  go_enter Try.func7, Try.ntmps7
  go_wp2_with (first
    | (go_at_call 32; refine (zNext _).mono ?_; rintro x w2 ⟨rfl, rfl⟩)
    | (go_at_call 33; refine (zTake _).mono ?_; rintro x w2 ⟨rfl, rfl⟩)
    | (go_at_call 34; refine (zIn _ _).mono ?_; rintro x w2 ⟨rfl, rfl⟩)
    | (go_at_call 35; refine (zDrop HRl.out).mono ?_; rintro x w2 ⟨rfl, rfl⟩)
    | (go_at_call 36; refine (zLen _).mono ?_; rintro x w2 ⟨rfl, rfl⟩)
    | (go_at_call 37; refine (entLives _).mono ?_; rintro x w7 ⟨rfl, hB7⟩))
  go_ret
  exact ⟨rfl, HB0.out.trans (hB7.mono HB0.out.size)⟩
end Go.Proofs.YteifdbfaclpcdaaR
