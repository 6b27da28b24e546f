/- The walk of gunnylaw27.CountSums. -/
import Derived.Test.YteifdbfaclpcdaaRCntSumA
namespace Go.Proofs.YteifdbfaclpcdaaR
open Go.RowKit

set_option maxRecDepth 100000 in
set_option maxHeartbeats 1000000 in
theorem csums_great (w : World) (A : Option Addr) (c : Nat) (L : List Dd) (hA : DeedsAt w w.heap.size A L) (hl : L.length ≤ 9223372036854775807) (hb : greatB L = true) :
    Calls Try.prog 4 #[.slice A L.length c] w fun e w' => e = .returned (.bool true) ∧ Below w.heap.size w w' := by
  have HG := Lib.hid (great_any (c := c) hA hl)
  rw [hb] at HG
  clear hA hb
  go_enter Try.func4, Try.ntmps4
  go_wp2_with (first
    | (go_at_call 19; refine HG.out.mono ?_; rintro e w2 ⟨rfl, rfl⟩)
    | (go_at_call 20; refine (cntLives _).mono ?_; rintro e w1 ⟨rfl, hb⟩))
  go_ret
  exact ⟨rfl, hb⟩

theorem tot_zero (n : Nat) : tot (fun _ => 0) n = 0 := Nat.le_zero.1 (tot_le (M := 0) (fun _ => Nat.le_refl _) n)
theorem CntAt.range {W : World} {h : Nat} {f : Nat → Nat} (hb : Bk W h 27 (cntCells f)) {k : Nat} (hk : k < 16) : W.cell? ⟨h, k, none⟩ = some (.int .i64 (f k)) := (Bk.cell hb k).trans (cntCells_get f hk)

set_option maxRecDepth 100000 in
set_option maxHeartbeats 4000000 in
theorem csums_any (w : World) (A : Option Addr) (c : Nat) (L : List Dd) (hA : DeedsAt w w.heap.size A L) (hb : greatB L = false) :
    Calls Try.prog 4 #[.slice A L.length c] w fun e w' => e = .returned (.bool true) ∧ Below w.heap.size w w' := by
  obtain ⟨hl, hd30⟩ := greatB_false hb
  have HG := Lib.hid (great_any (c := c) hA (by omega))
  rw [hb] at HG
  have HA := Lib.hid hA
  have H30 := Lib.hid hd30
  clear hA hd30 hb
  go_enter Try.func4, Try.ntmps4
  go_wp2_with (first
    | (go_at_call 19; refine HG.out.mono ?_; rintro e w2 ⟨rfl, rfl⟩)
    | (go_at_call 21; refine (cNew_any _).mono ?_; rintro e w1 ⟨rfl, hw1⟩; have hR : CntRun w w1 w.heap.size (fun _ => 0) 0 := ⟨hw1 ▸ cntAt_new w, fun _ => Nat.le_refl _, Nat.le_refl _, hw1 ▸ (Below.refl _ _).alloc (Nat.le_refl _) _⟩; clear hw1))
  generalize hgg : w.heap.size = g at hR ⊢
  have HGG := Lib.hid hgg
  clear hgg
  go_loopw [4, 5] (fun s i wr => ∃ (k : Nat) (f : Nat → Nat), k ≤ L.length ∧ i = .int .i64 k ∧ s = .int .i64 (tot f 16) ∧ CntRun w wr g f (30 * k)) (fun _ i _ => L.length - (intOf i).toNat)
  case atStart => exact ⟨0, fun _ => 0, Nat.zero_le _, rfl, by rw [tot_zero]; rfl, hR⟩
  case round =>
    clear hR
    obtain ⟨k, f, hk', rfl, rfl, hR⟩ := hrel
    have htf := tot_le hR.le 16
    rcases Nat.lt_or_ge k L.length with hlt | hge
    · obtain ⟨d, b, o, hd, rfl, hbb, h1, h2, h3⟩ := (HA.out.below hR.below).get hlt
      have hd30 := H30.out d (List.mem_of_getElem? hd)
      have H3 := Lib.hid h3
      clear hd h3
      obtain ⟨q, A3, c3, ks⟩ := d
      simp only at h1 h2 H3 hd30
      have HAI := Lib.hid arr_info
      by_cases hk0 : q = 0
      · subst hk0
        have HI := Lib.hid (cIn_any (c := c3) hR.at_ H3.out hR.below.size (H3.out.ne hR.new) (30 * k) hR.le (by omega))
        have hvl := valid_le ks
        have hT : (tot f 16 : Int) + (valid ks : Int) = (tot (putN f ks) 16 : Nat) := by rw [tot_putN]; simp
        have hR2 : Hid (∀ w2, CntAt w2 g (putN f ks) → Fr (· = g) wr w2 → CntRun w w2 g (putN f ks) (30 * (k + 1))) := fun w2 hc2 hF2 => hR.fr hc2 (fun i => by have := putN_le hR.le ks i; omega) hF2
        generalize putN f ks = f2 at *
        go_wp2_with (first
          | (go_at_call 14; refine HI.out.mono ?_; rintro e w2 ⟨rfl, hc2, hF2⟩)
          | (go_at_call 18; have hR3 := hR2.out _ hc2 hF2; have HAll := Lib.hid (cAll_any hc2); refine HAll.out.mono ?_; rintro e w3 ⟨rfl, hb3⟩)
          | (refine wpList_store_row_abs rfl 27 (.tmp 6) (.tmp 70) rfl w3 rfl 27 _ (cntCells f2) rfl rfl (HAI.out.trans (by rw [cells_size])) ((cells_size f2).symm ▸ rfl) (cells_one f2) ?_; intro W2 hbk hB2 hsz2))
        clear HAll hc2 hF2 HI hR2
        have hR4 : CntRun w W2 g f2 (30 * (k + 1)) := (hR3.more hb3).more hB2
        have hhg : w3.heap.size ≠ g := by have := hR3.at_.lt; have := hb3.size; omega
        generalize w3.heap.size = h at *
        clear hR3 hb3 hB2 hsz2 hR htf hT
        go_loopw [7, 8] (fun m j wi => ∃ n : Nat, n ≤ 16 ∧ j = .int .i64 n ∧ m = .int .i64 (tot f2 n) ∧ CntRun w wi g f2 (30 * (k + 1)) ∧ Bk wi h 27 (cntCells f2)) (fun _ j _ => 16 - (intOf j).toNat)
        case atStart => exact ⟨0, by omega, rfl, rfl, hR4, hbk⟩
        case round =>
          clear hR4 hbk
          obtain ⟨n, hn, rfl, rfl, hR4, hbk⟩ := hrel
          have htf : tot f2 n ≤ 100000 := Nat.le_trans (tot_le (M := 1830) (fun i => Nat.le_trans (hR4.le i) (by omega)) n) (by omega)
          have hT : (tot f2 n : Int) + (f2 n : Int) = (tot f2 (n + 1) : Nat) := by rw [tot_succ]; simp
          have hfn := hR4.le n
          have hT1 : tot f2 (n + 1) ≤ 100000 := Nat.le_trans (tot_le (M := 1830) (fun i => Nat.le_trans (hR4.le i) (by omega)) (n + 1)) (by omega)
          rcases Nat.lt_or_ge n 16 with hn16 | hge
          · have hc := CntAt.range hbk hn16
            have HOf : Hid (∀ W, W = (wr.alloc (.cells #[.int .i64 n] 3)).drewN 1 → Calls Try.prog 17 #[.pointer (some ⟨g, 0, none⟩), .slice (some ⟨wr.heap.size, 0, none⟩) 1 1] W fun e w' => e = .returned (.int .i64 (f2 n)) ∧ W = w') := fun W hW => by
              subst hW
              refine (cOf_any (w := (wr.alloc (.cells #[.int .i64 n] 3)).drewN 1) (c := 1) (ks := [(n : Int)]) ((hR4.at_.fr ((Fr.refl (fun _ => False) wr).alloc _) id).drewN 1) (show RdI ((wr.alloc (.cells #[.int .i64 n] 3)).drewN 1) (wr.heap.size + 1) (some ⟨wr.heap.size, 0, none⟩) [(n : Int)] from rd_lit wr [(n : Int)] rfl) (30 * (k + 1)) hR4.le (by omega) (by simp)).mono ?_
              rintro e w' ⟨he, hw⟩
              rw [of_one f2 hn16] at he
              exact ⟨he, hw⟩
            have HKA : Hid ((wr.alloc (.cells #[.int .i64 n] 3)).cell? ⟨h, n, none⟩ = some (.int .i64 (f2 n))) := CntAt.range (hbk.fr ((Fr.refl (fun _ => False) wr).alloc _) id) hn16
            have HKB : Hid (((wr.alloc (.cells #[.int .i64 n] 3)).drewN 1).cell? ⟨h, n, none⟩ = some (.int .i64 (f2 n))) := HKA.out
            generalize f2 n = y at *
            generalize tot f2 n = t at *
            generalize hgt : tot f2 (n + 1) = t1 at *
            have HGT := Lib.hid hgt
            clear hgt
            go_wp2
            go_region_held3 (fun W => W.cell? ⟨h, n, none⟩ = some (.int .i64 y)) (first | exact hc | exact HKA.out | (trace_state; fail)) (first
              | (go_at_call 17; refine (HOf.out _ rfl).mono ?_; rintro e w5 ⟨rfl, rfl⟩))
            all_goals
              clear HOf HKA
              have hBw : Below wr.heap.size wr ((wr.alloc (.cells #[.int .i64 n] 3)).drewN 1) := ((Below.refl wr.heap.size wr).alloc (Nat.le_refl _) _).trans ⟨rfl, rfl, rfl, Nat.le_refl _, fun _ _ => rfl⟩
              have hR5 := hR4.more hBw
              have hbk5 := Bk.below' hbk hBw
              have hc5 : ((wr.alloc (.cells #[.int .i64 n] 3)).drewN 1).cell? ⟨h, n, none⟩ = some (.int .i64 y) := HKB.out
              clear HKB hBw hc
              generalize (wr.alloc (.cells #[.int .i64 n] 3)).drewN 1 = w5 at *
              go_wp2
              exact ⟨⟨n + 1, by omega, by go_num, by rw [HGT.out], hR5, hbk5⟩, by simp [intOf]; omega⟩
          · obtain rfl : n = 16 := by omega
            go_wp2
            go_roundw
            case rel => exact ⟨k + 1, f2, by omega, by go_num, rfl, hR4⟩
            case measure => simp [intOf]; omega
      · have HQ0 : (q == 0) = false := by simp [hk0]
        clear hk0
        by_cases hk1 : q = 1
        · subst hk1
          clear HQ0
          have HI := Lib.hid (cOut_any (c := c3) hR.at_ H3.out hR.below.size (H3.out.ne hR.new) (30 * k) hR.le (by omega) (by omega))
          have hvl := hits_le f ks
          have hT : (tot f 16 : Int) - (hits f ks : Int) = (tot (outN f ks) 16 : Nat) := by have := tot_outN f ks; omega
          have hR2 : Hid (∀ w2, CntAt w2 g (outN f ks) → Fr (· = g) wr w2 → CntRun w w2 g (outN f ks) (30 * (k + 1))) := fun w2 hc2 hF2 => hR.fr hc2 (fun i => by have := outN_le hR.le ks i; omega) hF2
          generalize outN f ks = f2 at *
          go_wp2_with (first
            | (go_at_call 15; refine HI.out.mono ?_; rintro e w2 ⟨rfl, hc2, hF2⟩)
            | (go_at_call 18; have hR3 := hR2.out _ hc2 hF2; have HAll := Lib.hid (cAll_any hc2); refine HAll.out.mono ?_; rintro e w3 ⟨rfl, hb3⟩)
            | (refine wpList_store_row_abs rfl 27 (.tmp 6) (.tmp 70) rfl w3 rfl 27 _ (cntCells f2) rfl rfl (HAI.out.trans (by rw [cells_size])) ((cells_size f2).symm ▸ rfl) (cells_one f2) ?_; intro W2 hbk hB2 hsz2))
          clear HAll hc2 hF2 HI hR2
          have hR4 : CntRun w W2 g f2 (30 * (k + 1)) := (hR3.more hb3).more hB2
          have hhg : w3.heap.size ≠ g := by have := hR3.at_.lt; have := hb3.size; omega
          generalize w3.heap.size = h at *
          clear hR3 hb3 hB2 hsz2 hR htf hT
          go_loopw [7, 8] (fun m j wi => ∃ n : Nat, n ≤ 16 ∧ j = .int .i64 n ∧ m = .int .i64 (tot f2 n) ∧ CntRun w wi g f2 (30 * (k + 1)) ∧ Bk wi h 27 (cntCells f2)) (fun _ j _ => 16 - (intOf j).toNat)
          case atStart => exact ⟨0, by omega, rfl, rfl, hR4, hbk⟩
          case round =>
            clear hR4 hbk
            obtain ⟨n, hn, rfl, rfl, hR4, hbk⟩ := hrel
            have htf : tot f2 n ≤ 100000 := Nat.le_trans (tot_le (M := 1830) (fun i => Nat.le_trans (hR4.le i) (by omega)) n) (by omega)
            have hT : (tot f2 n : Int) + (f2 n : Int) = (tot f2 (n + 1) : Nat) := by rw [tot_succ]; simp
            have hfn := hR4.le n
            have hT1 : tot f2 (n + 1) ≤ 100000 := Nat.le_trans (tot_le (M := 1830) (fun i => Nat.le_trans (hR4.le i) (by omega)) (n + 1)) (by omega)
            rcases Nat.lt_or_ge n 16 with hn16 | hge
            · have hc := CntAt.range hbk hn16
              have HOf : Hid (∀ W, W = (wr.alloc (.cells #[.int .i64 n] 3)).drewN 1 → Calls Try.prog 17 #[.pointer (some ⟨g, 0, none⟩), .slice (some ⟨wr.heap.size, 0, none⟩) 1 1] W fun e w' => e = .returned (.int .i64 (f2 n)) ∧ W = w') := fun W hW => by
                subst hW
                refine (cOf_any (w := (wr.alloc (.cells #[.int .i64 n] 3)).drewN 1) (c := 1) (ks := [(n : Int)]) ((hR4.at_.fr ((Fr.refl (fun _ => False) wr).alloc _) id).drewN 1) (show RdI ((wr.alloc (.cells #[.int .i64 n] 3)).drewN 1) (wr.heap.size + 1) (some ⟨wr.heap.size, 0, none⟩) [(n : Int)] from rd_lit wr [(n : Int)] rfl) (30 * (k + 1)) hR4.le (by omega) (by simp)).mono ?_
                rintro e w' ⟨he, hw⟩
                rw [of_one f2 hn16] at he
                exact ⟨he, hw⟩
              have HKA : Hid ((wr.alloc (.cells #[.int .i64 n] 3)).cell? ⟨h, n, none⟩ = some (.int .i64 (f2 n))) := CntAt.range (hbk.fr ((Fr.refl (fun _ => False) wr).alloc _) id) hn16
              have HKB : Hid (((wr.alloc (.cells #[.int .i64 n] 3)).drewN 1).cell? ⟨h, n, none⟩ = some (.int .i64 (f2 n))) := HKA.out
              generalize f2 n = y at *
              generalize tot f2 n = t at *
              generalize hgt : tot f2 (n + 1) = t1 at *
              have HGT := Lib.hid hgt
              clear hgt
              go_wp2
              go_region_held3 (fun W => W.cell? ⟨h, n, none⟩ = some (.int .i64 y)) (first | exact hc | exact HKA.out | (trace_state; fail)) (first
                | (go_at_call 17; refine (HOf.out _ rfl).mono ?_; rintro e w5 ⟨rfl, rfl⟩))
              all_goals
                clear HOf HKA
                have hBw : Below wr.heap.size wr ((wr.alloc (.cells #[.int .i64 n] 3)).drewN 1) := ((Below.refl wr.heap.size wr).alloc (Nat.le_refl _) _).trans ⟨rfl, rfl, rfl, Nat.le_refl _, fun _ _ => rfl⟩
                have hR5 := hR4.more hBw
                have hbk5 := Bk.below' hbk hBw
                have hc5 : ((wr.alloc (.cells #[.int .i64 n] 3)).drewN 1).cell? ⟨h, n, none⟩ = some (.int .i64 y) := HKB.out
                clear HKB hBw hc
                generalize (wr.alloc (.cells #[.int .i64 n] 3)).drewN 1 = w5 at *
                go_wp2
                exact ⟨⟨n + 1, by omega, by go_num, by rw [HGT.out], hR5, hbk5⟩, by simp [intOf]; omega⟩
            · obtain rfl : n = 16 := by omega
              go_wp2
              go_roundw
              case rel => exact ⟨k + 1, f2, by omega, by go_num, rfl, hR4⟩
              case measure => simp [intOf]; omega
        · have HQ1 : (q == 1) = false := by simp [hk1]
          clear hk1
          rcases Nat.lt_or_ge 1 ks.length with h1l | h1l
          · obtain ⟨ad, rfl, hab, hc0⟩ := H3.out.at_ (show 0 < ks.length by omega)
            obtain ⟨ad', e', _, hc1⟩ := H3.out.at_ h1l
            injection e' with e'
            subst e'
            generalize ks[0]?.getD 0 = x0 at *
            generalize ks[1]?.getD 0 = x1 at *
            have HI : Hid (∀ W, W = wr.drewN 1 → Calls Try.prog 16 #[.pointer (some ⟨g, 0, none⟩), .int .i64 x0, .int .i64 x1] W fun e w' => e = .returned (.bool (turnOk f x0 x1)) ∧ CntAt w' g (turned f x0 x1) ∧ Fr (· = g) wr w') := fun W hW => by
              subst hW
              refine (cTurn_any (hR.at_.drewN 1) (30 * k) hR.le (by omega) x0 x1).mono ?_
              rintro e w' ⟨he, h1, h2⟩
              exact ⟨he, h1, ⟨h2.os, h2.tape, h2.output, h2.size, h2.block⟩⟩
            have hT : tot f 16 = tot (turned f x0 x1) 16 := (tot_turned f x0 x1).symm
            have hR2 : Hid (∀ w2, CntAt w2 g (turned f x0 x1) → Fr (· = g) wr w2 → CntRun w w2 g (turned f x0 x1) (30 * (k + 1))) := fun w2 hc2 hF2 => hR.fr hc2 (fun i => by have := turned_le hR.le x0 x1 i; omega) hF2
            rw [hT]
            clear hT
            generalize turned f x0 x1 = f2 at *
            generalize turnOk f x0 x1 = tb at *
            have hc0' : wr.cell? ad = some (.int .i64 x0) := by rw [← hc0]; simp [Addr.add]
            have hc1' : wr.cell? ⟨ad.block, ad.off + 1, none⟩ = some (.int .i64 x1) := hc1
            have HS : Hid (∀ W, Fr (· = g) wr W → W.cell? ⟨b, o + k * 2 + 1, none⟩ = some (.slice (some ad) ks.length c3) ∧ W.cell? ad = some (.int .i64 x0) ∧ W.cell? ⟨ad.block, ad.off + 1, none⟩ = some (.int .i64 x1)) := fun W hF => by
              have hB : Below w.heap.size wr W := hF.below hR.below.size (fun k hk e => by have := hR.new; omega)
              exact ⟨(hB.cell (p := ⟨b, _, none⟩) hbb).trans h2, (hB.cell hab).trans hc0', (hB.cell (p := ⟨ad.block, ad.off + 1, none⟩) hab).trans hc1'⟩
            clear hc0 hc1
            have hl0 : 0 < ks.length := by omega
            have hl0i : (0 : Int) < ks.length := by omega
            have hl1i : (1 : Int) < ks.length := by omega
            have hki : (0 : Int) ≤ k := by omega
            have hki2 : (k : Int) < L.length := by omega
            go_wp2
            go_region_held3 (fun W => W.cell? ⟨b, o + k * 2 + 1, none⟩ = some (.slice (some ad) ks.length c3) ∧ W.cell? ad = some (.int .i64 x0) ∧ W.cell? ⟨ad.block, ad.off + 1, none⟩ = some (.int .i64 x1)) (first | exact ⟨h2, hc0', hc1'⟩ | exact HS.out _ hF2) (first
              | (go_at_call 16; refine (HI.out _ rfl).mono ?_; rintro e w2 ⟨rfl, hc2, hF2⟩))
            all_goals
              clear HI HS
              go_wp2_with (first
                | (go_at_call 18; have hR3 := hR2.out _ hc2 hF2; have HAll := Lib.hid (cAll_any hc2); refine HAll.out.mono ?_; rintro e w3 ⟨rfl, hb3⟩)
                | (refine wpList_store_row_abs rfl 27 (.tmp 6) (.tmp 70) rfl w3 rfl 27 _ (cntCells f2) rfl rfl (HAI.out.trans (by rw [cells_size])) ((cells_size f2).symm ▸ rfl) (cells_one f2) ?_; intro W2 hbk hB2 hsz2))
              clear HAll hc2 hF2 hR2
              have hR4 : CntRun w W2 g f2 (30 * (k + 1)) := (hR3.more hb3).more hB2
              have hhg : w3.heap.size ≠ g := by have := hR3.at_.lt; have := hb3.size; omega
              generalize w3.heap.size = h at *
              clear hR3 hb3 hB2 hsz2 hR htf
              go_loopw [7, 8] (fun m j wi => ∃ n : Nat, n ≤ 16 ∧ j = .int .i64 n ∧ m = .int .i64 (tot f2 n) ∧ CntRun w wi g f2 (30 * (k + 1)) ∧ Bk wi h 27 (cntCells f2)) (fun _ j _ => 16 - (intOf j).toNat)
              case atStart => exact ⟨0, by omega, rfl, rfl, hR4, hbk⟩
              case round =>
                clear hR4 hbk
                obtain ⟨n, hn, rfl, rfl, hR4, hbk⟩ := hrel
                have htf : tot f2 n ≤ 100000 := Nat.le_trans (tot_le (M := 1830) (fun i => Nat.le_trans (hR4.le i) (by omega)) n) (by omega)
                have hT : (tot f2 n : Int) + (f2 n : Int) = (tot f2 (n + 1) : Nat) := by rw [tot_succ]; simp
                have hfn := hR4.le n
                have hT1 : tot f2 (n + 1) ≤ 100000 := Nat.le_trans (tot_le (M := 1830) (fun i => Nat.le_trans (hR4.le i) (by omega)) (n + 1)) (by omega)
                rcases Nat.lt_or_ge n 16 with hn16 | hge
                · have hc := CntAt.range hbk hn16
                  have HOf : Hid (∀ W, W = (wr.alloc (.cells #[.int .i64 n] 3)).drewN 1 → Calls Try.prog 17 #[.pointer (some ⟨g, 0, none⟩), .slice (some ⟨wr.heap.size, 0, none⟩) 1 1] W fun e w' => e = .returned (.int .i64 (f2 n)) ∧ W = w') := fun W hW => by
                    subst hW
                    refine (cOf_any (w := (wr.alloc (.cells #[.int .i64 n] 3)).drewN 1) (c := 1) (ks := [(n : Int)]) ((hR4.at_.fr ((Fr.refl (fun _ => False) wr).alloc _) id).drewN 1) (show RdI ((wr.alloc (.cells #[.int .i64 n] 3)).drewN 1) (wr.heap.size + 1) (some ⟨wr.heap.size, 0, none⟩) [(n : Int)] from rd_lit wr [(n : Int)] rfl) (30 * (k + 1)) hR4.le (by omega) (by simp)).mono ?_
                    rintro e w' ⟨he, hw⟩
                    rw [of_one f2 hn16] at he
                    exact ⟨he, hw⟩
                  have HKA : Hid ((wr.alloc (.cells #[.int .i64 n] 3)).cell? ⟨h, n, none⟩ = some (.int .i64 (f2 n))) := CntAt.range (hbk.fr ((Fr.refl (fun _ => False) wr).alloc _) id) hn16
                  have HKB : Hid (((wr.alloc (.cells #[.int .i64 n] 3)).drewN 1).cell? ⟨h, n, none⟩ = some (.int .i64 (f2 n))) := HKA.out
                  generalize f2 n = y at *
                  generalize tot f2 n = t at *
                  generalize hgt : tot f2 (n + 1) = t1 at *
                  have HGT := Lib.hid hgt
                  clear hgt
                  go_wp2
                  go_region_held3 (fun W => W.cell? ⟨h, n, none⟩ = some (.int .i64 y)) (first | exact hc | exact HKA.out | (trace_state; fail)) (first
                    | (go_at_call 17; refine (HOf.out _ rfl).mono ?_; rintro e w5 ⟨rfl, rfl⟩))
                  all_goals
                    clear HOf HKA
                    have hBw : Below wr.heap.size wr ((wr.alloc (.cells #[.int .i64 n] 3)).drewN 1) := ((Below.refl wr.heap.size wr).alloc (Nat.le_refl _) _).trans ⟨rfl, rfl, rfl, Nat.le_refl _, fun _ _ => rfl⟩
                    have hR5 := hR4.more hBw
                    have hbk5 := Bk.below' hbk hBw
                    have hc5 : ((wr.alloc (.cells #[.int .i64 n] 3)).drewN 1).cell? ⟨h, n, none⟩ = some (.int .i64 y) := HKB.out
                    clear HKB hBw hc
                    generalize (wr.alloc (.cells #[.int .i64 n] 3)).drewN 1 = w5 at *
                    go_wp2
                    exact ⟨⟨n + 1, by omega, by go_num, by rw [HGT.out], hR5, hbk5⟩, by simp [intOf]; omega⟩
                · obtain rfl : n = 16 := by omega
                  go_wp2
                  go_roundw
                  case rel => exact ⟨k + 1, f2, by omega, by go_num, rfl, hR4⟩
                  case measure => simp [intOf]; omega
          · have hR2 : Hid (∀ w2, CntAt w2 g f → Fr (· = g) wr w2 → CntRun w w2 g f (30 * (k + 1))) := fun w2 hc2 hF2 => hR.fr hc2 (fun i => by have := hR.le i; omega) hF2
            have hc2 := hR.at_
            have hF2 := Fr.refl (· = g) wr
            obtain ⟨f2, hf2⟩ : ∃ f2, f2 = f := ⟨_, rfl⟩
            subst hf2
            go_wp2_with (first
              | (go_at_call 18; have hR3 := hR2.out _ hc2 hF2; have HAll := Lib.hid (cAll_any hc2); refine HAll.out.mono ?_; rintro e w3 ⟨rfl, hb3⟩)
              | (refine wpList_store_row_abs rfl 27 (.tmp 6) (.tmp 70) rfl w3 rfl 27 _ (cntCells f2) rfl rfl (HAI.out.trans (by rw [cells_size])) ((cells_size f2).symm ▸ rfl) (cells_one f2) ?_; intro W2 hbk hB2 hsz2))
            clear HAll hc2 hF2 hR2
            have hR4 : CntRun w W2 g f2 (30 * (k + 1)) := (hR3.more hb3).more hB2
            have hhg : w3.heap.size ≠ g := by have := hR3.at_.lt; have := hb3.size; omega
            generalize w3.heap.size = h at *
            clear hR3 hb3 hB2 hsz2 hR htf
            go_loopw [7, 8] (fun m j wi => ∃ n : Nat, n ≤ 16 ∧ j = .int .i64 n ∧ m = .int .i64 (tot f2 n) ∧ CntRun w wi g f2 (30 * (k + 1)) ∧ Bk wi h 27 (cntCells f2)) (fun _ j _ => 16 - (intOf j).toNat)
            case atStart => exact ⟨0, by omega, rfl, rfl, hR4, hbk⟩
            case round =>
              clear hR4 hbk
              obtain ⟨n, hn, rfl, rfl, hR4, hbk⟩ := hrel
              have htf : tot f2 n ≤ 100000 := Nat.le_trans (tot_le (M := 1830) (fun i => Nat.le_trans (hR4.le i) (by omega)) n) (by omega)
              have hT : (tot f2 n : Int) + (f2 n : Int) = (tot f2 (n + 1) : Nat) := by rw [tot_succ]; simp
              have hfn := hR4.le n
              have hT1 : tot f2 (n + 1) ≤ 100000 := Nat.le_trans (tot_le (M := 1830) (fun i => Nat.le_trans (hR4.le i) (by omega)) (n + 1)) (by omega)
              rcases Nat.lt_or_ge n 16 with hn16 | hge
              · have hc := CntAt.range hbk hn16
                have HOf : Hid (∀ W, W = (wr.alloc (.cells #[.int .i64 n] 3)).drewN 1 → Calls Try.prog 17 #[.pointer (some ⟨g, 0, none⟩), .slice (some ⟨wr.heap.size, 0, none⟩) 1 1] W fun e w' => e = .returned (.int .i64 (f2 n)) ∧ W = w') := fun W hW => by
                  subst hW
                  refine (cOf_any (w := (wr.alloc (.cells #[.int .i64 n] 3)).drewN 1) (c := 1) (ks := [(n : Int)]) ((hR4.at_.fr ((Fr.refl (fun _ => False) wr).alloc _) id).drewN 1) (show RdI ((wr.alloc (.cells #[.int .i64 n] 3)).drewN 1) (wr.heap.size + 1) (some ⟨wr.heap.size, 0, none⟩) [(n : Int)] from rd_lit wr [(n : Int)] rfl) (30 * (k + 1)) hR4.le (by omega) (by simp)).mono ?_
                  rintro e w' ⟨he, hw⟩
                  rw [of_one f2 hn16] at he
                  exact ⟨he, hw⟩
                have HKA : Hid ((wr.alloc (.cells #[.int .i64 n] 3)).cell? ⟨h, n, none⟩ = some (.int .i64 (f2 n))) := CntAt.range (hbk.fr ((Fr.refl (fun _ => False) wr).alloc _) id) hn16
                have HKB : Hid (((wr.alloc (.cells #[.int .i64 n] 3)).drewN 1).cell? ⟨h, n, none⟩ = some (.int .i64 (f2 n))) := HKA.out
                generalize f2 n = y at *
                generalize tot f2 n = t at *
                generalize hgt : tot f2 (n + 1) = t1 at *
                have HGT := Lib.hid hgt
                clear hgt
                go_wp2
                go_region_held3 (fun W => W.cell? ⟨h, n, none⟩ = some (.int .i64 y)) (first | exact hc | exact HKA.out | (trace_state; fail)) (first
                  | (go_at_call 17; refine (HOf.out _ rfl).mono ?_; rintro e w5 ⟨rfl, rfl⟩))
                all_goals
                  clear HOf HKA
                  have hBw : Below wr.heap.size wr ((wr.alloc (.cells #[.int .i64 n] 3)).drewN 1) := ((Below.refl wr.heap.size wr).alloc (Nat.le_refl _) _).trans ⟨rfl, rfl, rfl, Nat.le_refl _, fun _ _ => rfl⟩
                  have hR5 := hR4.more hBw
                  have hbk5 := Bk.below' hbk hBw
                  have hc5 : ((wr.alloc (.cells #[.int .i64 n] 3)).drewN 1).cell? ⟨h, n, none⟩ = some (.int .i64 y) := HKB.out
                  clear HKB hBw hc
                  generalize (wr.alloc (.cells #[.int .i64 n] 3)).drewN 1 = w5 at *
                  go_wp2
                  exact ⟨⟨n + 1, by omega, by go_num, by rw [HGT.out], hR5, hbk5⟩, by simp [intOf]; omega⟩
              · obtain rfl : n = 16 := by omega
                go_wp2
                go_roundw
                case rel => exact ⟨k + 1, f2, by omega, by go_num, rfl, hR4⟩
                case measure => simp [intOf]; omega
    · go_wp2_with (go_at_call 20; refine (cntLives _).mono ?_; rintro e w7 ⟨rfl, hB7⟩)
      go_ret
      exact ⟨rfl, hR.below.trans (hB7.mono hR.below.size)⟩
end Go.Proofs.YteifdbfaclpcdaaR
