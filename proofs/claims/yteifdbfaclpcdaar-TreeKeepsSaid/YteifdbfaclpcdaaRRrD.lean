/- Radix: path, Get. -/
import Derived.Test.YteifdbfaclpcdaaRRrC
import Derived.StillTailTactics
import Derived.Handy
import Derived.Deep.DeepCutAuto
import Derived.Deep.CutBlock
import Derived.Deep.RegionHeld3
import Derived.Deep.RegionLaw
import Derived.Test.YteifdbfaclpcdaaRGyApp
import Derived.Test.YteifdbfaclpcdaaRGyHeld
namespace Go.Proofs.YteifdbfaclpcdaaR.Rr
open Go.RowKit

/-- The nodes to a key, down to a level. -/
def paOf (nd : Nat → Nat → Nat) (key j i : Nat) : Option Addr := if i ≤ j then some ⟨nd i (key / rxD i), 0, none⟩ else none
def paA (nd : Nat → Nat → Nat) (key j : Nat) : Array Value := #[.pointer (paOf nd key j 0), .pointer (paOf nd key j 1), .pointer (paOf nd key j 2), .pointer (paOf nd key j 3)]
theorem paA_get (nd : Nat → Nat → Nat) (key j : Nat) {i : Nat} (h : i ≤ 3) : (paA nd key j)[i]? = some (.pointer (paOf nd key j i)) := by
  rcases (by omega : i = 0 ∨ i = 1 ∨ i = 2 ∨ i = 3) with rfl | rfl | rfl | rfl <;> rfl
theorem paA_zero (nd : Nat → Nat → Nat) (key : Nat) : (#[.pointer (some ⟨nd 0 (key / rxD 0), 0, none⟩), .pointer none, .pointer none, .pointer none] : Array Value) = paA nd key 0 := rfl
theorem paA_step (nd : Nat → Nat → Nat) (key : Nat) {j : Nat} (h : j ≤ 2) : (paA nd key j).setIfInBounds (j + 1) (.pointer (some ⟨nd (j + 1) (key / rxD (j + 1)), 0, none⟩)) = paA nd key (j + 1) := by
  rcases (by omega : j = 0 ∨ j = 1 ∨ j = 2) with rfl | rfl | rfl <;> rfl

theorem paA_same (nd : Nat → Nat → Nat) (key : Nat) {j : Nat} (h : j ≤ 2) : (paA nd key j).setIfInBounds (j + 1) (.pointer none) = paA nd key j := by
  rcases (by omega : j = 0 ∨ j = 1 ∨ j = 2) with rfl | rfl | rfl <;> rfl
theorem paA_size (nd : Nat → Nat → Nat) (key j : Nat) : (paA nd key j).size = 4 := rfl
theorem paA_one (nd : Nat → Nat → Nat) (key j : Nat) : ∀ v ∈ (paA nd key j).toList, v.oneCell' = true := by
  intro v hv
  simp [paA] at hv
  rcases hv with rfl | rfl | rfl | rfl <;> rfl
theorem arrInfo : (Try.prog.info? 140).map (·.size) = some 4 := by kernel_rfl

/-- What path tells: the nodes, if the key has something. -/
structure PathIs (ex : Nat → Nat → Bool) (nd : Nat → Nat → Nat) (key : Int) (ps : Nat → Option Addr) (b : Bool) : Prop where
  ok : b = true ↔ ∃ k : Nat, key = k ∧ k < 65536 ∧ ∀ l, l ≤ 4 → ex l (k / rxD l) = true
  way : b = true → ∀ i, i ≤ 3 → ps i = some ⟨nd i (key.toNat / rxD i), 0, none⟩

/-- .. in so many words. -/
def PathPost (w : World) (ex : Nat → Nat → Bool) (nd : Nat → Nat → Nat) (key : Int) (e : Ending) (w' : World) : Prop :=
  ∃ ps b, e = .returned (.tuple #[.agg #[.pointer (ps 0), .pointer (ps 1), .pointer (ps 2), .pointer (ps 3)], .bool b]) ∧ PathIs ex nd key ps b ∧ Below w.heap.size w w'

section
variable {w : World} {base g many nodes : Nat} {ex : Nat → Nat → Bool} {nd mn : Nat → Nat → Nat} {f : Nat → Option Value}
set_option maxRecDepth 100000 in
theorem rPathNone (w : World) (key : Int) : Calls Try.prog 82 #[.pointer none, .int .i64 key] w fun e w' => e = .returned (.tuple #[.agg #[.pointer none, .pointer none, .pointer none, .pointer none], .bool false]) ∧ Below w.heap.size w w' := by
  go_enter Try.func82, Try.ntmps82
  go_wp2_with fail
  go_returns
  exact ⟨rfl, ((Below.refl _ _).alloc (Nat.le_refl _) _).alloc (by simp) _⟩
set_option maxRecDepth 100000 in
theorem rPathOut (h : TrM w base g ex nd mn f many nodes) (key : Int) (ho : ex 0 0 = false ∨ (ex 0 0 = true ∧ ¬(0 ≤ key ∧ key < 65536))) : Calls Try.prog 82 #[.pointer (some ⟨g, 0, none⟩), .int .i64 key] w fun e w' => e = .returned (.tuple #[.agg #[.pointer none, .pointer none, .pointer none, .pointer none], .bool false]) ∧ Below w.heap.size w w' := by
  have hc := h.rootC
  have hlt := h.top.lt
  clear h
  rcases ho with ho | ⟨ho, hk⟩
  · rw [ho] at hc
    unfold ptrIf at hc
    rw [if_neg (by decide)] at hc
    go_enter Try.func82, Try.ntmps82
    go_wp2_with fail
    go_returns
    exact ⟨rfl, ((Below.refl _ _).alloc (Nat.le_refl _) _).alloc (by simp) _⟩
  · rw [ho] at hc
    unfold ptrIf at hc
    rw [if_pos rfl] at hc
    have HM := fun W => rxMay W key
    rw [decide_eq_false hk] at HM
    replace HM := Lib.hid HM
    clear hk
    go_enter Try.func82, Try.ntmps82
    go_wp2_with (go_at_call 58; refine (HM.out _).mono ?_; rintro x w2 ⟨rfl, rfl⟩)
    go_returns
    exact ⟨rfl, ((Below.refl _ _).alloc (Nat.le_refl _) _).alloc (by simp) _⟩
set_option maxRecDepth 100000 in
set_option maxHeartbeats 1000000 in
theorem rPathIn (h : TrM w base g ex nd mn f many nodes) {key : Nat} (hk : key < 65536) (h0 : ex 0 (key / rxD 0) = true) : Calls Try.prog 82 #[.pointer (some ⟨g, 0, none⟩), .int .i64 (key : Int)] w (PathPost w ex nd key) := by
  have hc := h.rootC
  have hlt := h.top.lt
  have h00 : ex 0 0 = true := by
    have e : key / rxD 0 = 0 := by rw [rxD_0]; omega
    rwa [e] at h0
  rw [h00] at hc
  unfold ptrIf at hc
  rw [if_pos rfl] at hc
  have HM := fun W => rxMay W key
  rw [decide_eq_true (show 0 ≤ (key : Int) ∧ (key : Int) < 65536 by omega)] at HM
  replace HM := Lib.hid HM
  have HH := Lib.hid h
  have HE := Lib.hid h0
  clear h h0 h00
  go_enter Try.func82, Try.ntmps82
  go_wp2_with (go_at_call 58; refine (HM.out _).mono ?_; rintro x w2 ⟨rfl, rfl⟩)
  go_loopw [28] (fun i wr => ∃ j : Nat, j ≤ 3 ∧ i = .int .i64 (j : Int) ∧ Bk wr (w.heap.size + 1) 140 (paA nd key j) ∧ Bk wr w.heap.size 140 #[.pointer none, .pointer none, .pointer none, .pointer none] ∧ (∀ l, l ≤ j → ex l (key / rxD l) = true) ∧ Below w.heap.size w wr) (fun i _ => 3 - (intOf i).toNat)
  case atStart =>
    refine ⟨0, by omega, rfl, ?_, (Bk.new w _ _).alloc _, fun l hl => ?_, ((Below.refl _ _).alloc (Nat.le_refl _) _).alloc (by simp) _⟩
    · rw [← paA_zero, show key / rxD 0 = 0 by rw [rxD_0]; omega]
      exact Bk.new_at _ _ _ (by simp)
    · obtain rfl : l = 0 := by omega
      exact HE.out
  case round =>
    clear hc hlt
    obtain ⟨j, hj, rfl, hO, hZ, hX, hB⟩ := hrel
    have HO := Lib.hid hO
    have HZ := Lib.hid hZ
    have HX := Lib.hid hX
    have HB := Lib.hid hB
    have HA := Lib.hid (fun W => rxAt W (key := key) hj)
    have hout : wr.cell? ⟨w.heap.size + 1, j, none⟩ = some (.pointer (some ⟨nd j (key / rxD j), 0, none⟩)) := by
      rw [hO.cell, paA_get _ _ _ hj]
      unfold paOf
      rw [if_pos (Nat.le_refl _)]
    clear hX
    rcases Nat.lt_or_ge j 3 with hlt | hge
    · have hd := (HH.out.below0 HB.out).dnC (by omega : j ≤ 2) (HX.out j (Nat.le_refl _)) (by omega : key / rxD (j + 1) % 16 < 16)
      rw [rxD_digit hj] at hd
      have hof := hO.free (j + 1)
      have hout2 : wr.cell? ⟨w.heap.size + 1, j + 1, none⟩ = some (.pointer none) := by
        rw [hO.cell, paA_get _ _ _ (by omega)]
        unfold paOf
        rw [if_neg (by omega)]
      have hol : w.heap.size + 1 < wr.heap.size := hO.lt
      have h16 : key / rxD (j + 1) % 16 < 16 := by omega
      have HOs := Lib.hid (paA_step nd key (by omega : j ≤ 2))
      have HQ := Lib.hid (rfl : key / rxD (j + 1) = key / rxD (j + 1))
      have hw1 : IntKind.i64.wrap ((j : Int) + 1) = (j : Int) + 1 := IntWalk.i64_in _ (by omega)
      generalize hb : nd j (key / rxD j) = b at *
      generalize hq : key / rxD (j + 1) = q at HOs hd HA h16 hout HQ
      have HQ2 := Lib.hid hq
      generalize hdg : q % 16 = dg at *
      clear hO hZ hB hb hq hdg
      have b1 : (j : Int) < 4 := by omega
      have b2 : (0 : Int) ≤ j := by omega
      have b3 : (j : Int) + 1 < 4 := by omega
      have b4 : (0 : Int) ≤ (j : Int) + 1 := by omega
      have b5 : (dg : Int) < 16 := by omega
      have b6 : (0 : Int) ≤ dg := by omega
      have b7 : ((j : Int) + 1).toNat = j + 1 := by omega
      cases hx : ex (j + 1) q
      · rw [hx] at hd
        unfold ptrIf at hd
        rw [if_neg (by decide)] at hd
        go_upto_region 8 with fail
        go_still_tail 12, (by kernel_rfl)
        still_call (HA.out _)
        repeat still_step
        refine wpStill_nil ?_
        change wpList _ _ _ _ _ wr.drew
        have HO2 : Hid (Bk (wr.setCell ⟨w.heap.size + 1, j + 1, none⟩ (.pointer none)).drew (w.heap.size + 1) 140 (paA nd key j)) := by
          have := (HO.out.set (j + 1) (.pointer none)).drew
          rwa [paA_same nd key (by omega)] at this
        have HZ2 : Hid (Bk (wr.setCell ⟨w.heap.size + 1, j + 1, none⟩ (.pointer none)).drew w.heap.size 140 #[.pointer none, .pointer none, .pointer none, .pointer none]) := (HZ.out.far (by simp) _).drew
        have HB2 : Hid (Below w.heap.size w (wr.setCell ⟨w.heap.size + 1, j + 1, none⟩ (.pointer none)).drew) := (HB.out.setCell (by simp) _).drew
        go_wp2_with (first
          | ((with_reducible refine wpList_dst 49 ?_); refine wpList_load_row rfl 140 (.tmp 6) rfl (w.heap.size + 1) rfl 140 (paA nd key j) (0, 0) _ HO2.out Try.underlying140 rfl arrInfo ?_)
          | ((with_reducible refine wpList_sto 4 49 ?_); refine wpList_store_abs rfl 140 (.tmp 4) (.tmp 49) rfl w.heap.size rfl 140 #[.pointer none, .pointer none, .pointer none, .pointer none] (paA nd key j) rfl HZ2.out arrInfo rfl (paA_one _ _ _) ?_; intro w4 hz4 hF4 hs4))
        refine bodyPost_ret (results_ct (fn := Try.f82) rfl _ w4 w.heap.size 140 (paA nd key j) _ (.bool false) rfl rfl hz4 Try.underlying140 rfl arrInfo) rfl ?_
        refine ⟨paOf nd key j, false, rfl, ⟨⟨fun h => (by cases h), ?_⟩, fun h => by cases h⟩, HB2.out.trans (hF4.below HB2.out.size fun k hk e => by omega)⟩
        rintro ⟨k, e, _, hk2⟩
        obtain rfl : key = k := by omega
        have := hk2 (j + 1) (by omega)
        rw [HQ2.out, hx] at this
        cases this
      · rw [hx] at hd
        unfold ptrIf at hd
        rw [if_pos rfl] at hd
        have HX2 : Hid (∀ l, l ≤ j + 1 → ex l (key / rxD l) = true) := fun l hl => by
          rcases Nat.lt_or_ge j l with h1 | h1
          · obtain rfl : l = j + 1 := by omega
            rw [HQ2.out]
            exact hx
          · exact HX.out l h1
        go_upto_region 8 with fail
        go_still_tail 12, (by kernel_rfl)
        still_call (HA.out _)
        repeat still_step
        refine wpStill_nil ?_
        change wpList _ _ _ _ _ wr.drew
        go_wp2_with fail
        go_roundw
        case rel =>
          refine ⟨j + 1, by omega, by go_num, ?_, ?_, HX2.out, ?_⟩
          · rw [← HOs.out]
            exact (HO.out.set (j + 1) _).drewN 1
          · exact (HZ.out.far (by simp) _).drewN 1
          · exact (HB.out.setCell (by simp) _).drew
        case measure => simp [intOf]; omega
    · obtain rfl : j = 3 := by omega
      have hp := HX.out 3 (by omega)
      have hd := (HH.out.below0 HB.out).hsC hp (by omega : key / rxD 4 % 16 < 16)
      rw [rxD_digit (by omega)] at hd
      have h16 : key / rxD 4 % 16 < 16 := by omega
      have HQ2 := Lib.hid (rfl : key / rxD 4 = key / rxD 4)
      have HK : Hid (PathIs ex nd key (paOf nd key 3) (ex 4 (key / rxD 4))) := by
        refine ⟨⟨fun h => ⟨key, rfl, hk, fun l hl => ?_⟩, ?_⟩, fun _ i hi => ?_⟩
        · rcases Nat.lt_or_ge 3 l with h1 | h1
          · obtain rfl : l = 4 := by omega
            exact h
          · exact HX.out l h1
        · rintro ⟨k, e, _, h⟩
          obtain rfl : key = k := by omega
          exact h 4 (by omega)
        · unfold paOf
          rw [if_pos hi]
          simp
      obtain ⟨csb, hkb⟩ := ((HH.out.below0 HB.out).node 3 _ (by omega) hp).ty
      have hblt := hkb.lt
      have hbwt : nd 3 (key / rxD 3) ≠ w.heap.size := hkb.ne HZ.out (by decide)
      clear hkb
      generalize ex 4 (key / rxD 4) = bx at *
      generalize nd 4 (key / rxD 4) = vb at *
      generalize hb : nd 3 (key / rxD 3) = b at *
      generalize hdg : key / rxD 4 % 16 = dg at *
      have b5 : (dg : Int) < 16 := by omega
      have b6 : (0 : Int) ≤ dg := by omega
      clear hO hZ hB hb hdg hp
      go_upto_region 12 with fail
      have hbl : b < wr.heap.size := hblt
      have hbw : b ≠ w.heap.size := hbwt
      have hol : w.heap.size + 1 < wr.heap.size := HO.out.lt
      refine wp_region_held_drew (S := fun W => (Bk W (w.heap.size + 1) 140 (paA nd key 3) ∧ W.cell? ⟨b, 16 + dg, none⟩ = some (ptrIf bx vb) ∧ W.cell? ⟨w.heap.size + 1, 3, none⟩ = some (.pointer (some ⟨b, 0, none⟩)))) (by kernel_rfl) ⟨HO.out.drewN 1, hd, hout⟩ (fun hHeld => ?_)
      refine wpAnyH_take (i := 0) (v := .agg (paA nd key 3)) rfl (by kernel_rfl) (by kernel_rfl) (by kernel_rfl) (fun _ _ _ h => h) (Or.inl ⟨by rfl, fun W hW => run_load_row' W 140 (.tmp 6) rfl (w.heap.size + 1) rfl 140 _ _ hW.1 Try.underlying140 rfl arrInfo⟩) hHeld ?_
      simp only [Act.put, List.getElem_toArray, List.getElem_cons_zero, List.setIfInBounds_toArray, List.set_cons_zero, List.set_cons_succ]
      refine wpAnyH_take (i := 1) (v := .pointer (some ⟨w.heap.size + 1, 3, none⟩)) rfl (by kernel_rfl) (by kernel_rfl) (by kernel_rfl) (fun _ _ _ h => h) (Or.inl ⟨by rfl, fun W hW => by go_simp⟩) hHeld ?_
      simp only [Act.put, List.getElem_toArray, List.getElem_cons_zero, List.getElem_cons_succ, List.setIfInBounds_toArray, List.set_cons_zero, List.set_cons_succ]
      refine wpAnyH_take (i := 2) (v := .pointer (some ⟨b, 0, none⟩)) rfl (by kernel_rfl) (by kernel_rfl) (by kernel_rfl) (fun _ _ _ h => h) (Or.inl ⟨by rfl, fun W hW => by obtain ⟨-, -, h0⟩ := hW; go_simp⟩) hHeld ?_
      simp only [Act.put, List.getElem_toArray, List.getElem_cons_zero, List.getElem_cons_succ, List.setIfInBounds_toArray, List.set_cons_zero, List.set_cons_succ]
      refine wpAnyH_take (i := 3) (v := .int .i64 key) rfl (by kernel_rfl) (by kernel_rfl) (by kernel_rfl) (fun _ _ _ h => h) (Or.inl ⟨by rfl, fun W hW => rfl⟩) hHeld ?_
      simp only [Act.put, List.getElem_toArray, List.getElem_cons_zero, List.getElem_cons_succ, List.setIfInBounds_toArray, List.set_cons_zero, List.set_cons_succ]
      refine wpAnyH_take (i := 5) (v := .pointer (some ⟨b, 0, none⟩)) rfl (by kernel_rfl) (by kernel_rfl) (by kernel_rfl) (fun _ _ _ h => h) (Or.inl ⟨by rfl, fun W hW => rfl⟩) hHeld ?_
      simp only [Act.put, List.getElem_toArray, List.getElem_cons_zero, List.getElem_cons_succ, List.setIfInBounds_toArray, List.set_cons_zero, List.set_cons_succ]
      refine wpAnyH_take (i := 6) (v := .pointer (some ⟨b, 16, none⟩)) rfl (by kernel_rfl) (by kernel_rfl) (by kernel_rfl) (fun _ _ _ h => h) (Or.inl ⟨by rfl, fun W hW => by go_simp⟩) hHeld ?_
      simp only [Act.put, List.getElem_toArray, List.getElem_cons_zero, List.getElem_cons_succ, List.setIfInBounds_toArray, List.set_cons_zero, List.set_cons_succ]
      refine wpAnyH_ready (rs := [4]) (by kernel_rfl) (by simp) ?_
      refine AllReadyH.cons rfl (fun K hK => ?_) AllReadyH.nil
      rw [if_pos (by rfl)]
      go_simp
      refine (HA.out _).mono ?_
      rintro e w9 ⟨rfl, rfl⟩
      go_wp2_with fail
      have hHeld2 : (fun W => (Bk W (w.heap.size + 1) 140 (paA nd key 3) ∧ W.cell? ⟨b, 16 + dg, none⟩ = some (ptrIf bx vb) ∧ W.cell? ⟨w.heap.size + 1, 3, none⟩ = some (.pointer (some ⟨b, 0, none⟩)))) _ := hHeld
      refine hK _ _ hHeld2 (fun hHeld => ?_)
      clear hHeld2 hK
      try simp only [Act.put, List.getElem_toArray, List.getElem_cons_zero, List.getElem_cons_succ, List.setIfInBounds_toArray, List.set_cons_zero, List.set_cons_succ]
      refine wpAnyH_take (i := 7) (v := .pointer (some ⟨b, 16 + dg, none⟩)) rfl (by kernel_rfl) (by kernel_rfl) (by kernel_rfl) (fun _ _ _ h => h) (Or.inl ⟨by rfl, fun W hW => by go_simp⟩) hHeld ?_
      simp only [Act.put, List.getElem_toArray, List.getElem_cons_zero, List.getElem_cons_succ, List.setIfInBounds_toArray, List.set_cons_zero, List.set_cons_succ]
      refine wpAnyH_take (i := 8) (v := ptrIf bx vb) rfl (by kernel_rfl) (by kernel_rfl) (by kernel_rfl) (fun _ _ _ h => h) (Or.inl ⟨by rfl, fun W hW => by obtain ⟨-, h0, -⟩ := hW; go_simp⟩) hHeld ?_
      simp only [Act.put, List.getElem_toArray, List.getElem_cons_zero, List.getElem_cons_succ, List.setIfInBounds_toArray, List.set_cons_zero, List.set_cons_succ]
      refine wpAnyH_take (i := 9) (v := .bool bx) rfl (by kernel_rfl) (by kernel_rfl) (by kernel_rfl) (fun _ _ _ h => h) (Or.inl ⟨by rfl, fun W hW => by cases bx <;> rfl⟩) hHeld ?_
      simp only [Act.put, List.getElem_toArray, List.getElem_cons_zero, List.getElem_cons_succ, List.setIfInBounds_toArray, List.set_cons_zero, List.set_cons_succ]
      refine wpAnyH_ready (rs := [10]) (by kernel_rfl) (by simp) ?_
      refine AllReadyH.cons rfl (fun K hK => ?_) AllReadyH.nil
      rw [if_pos (by rfl)]
      refine wp_store_row 140 (.tmp 4) (.tmp 51) rfl w.heap.size rfl 140 #[.pointer none, .pointer none, .pointer none, .pointer none] (paA nd key 3) rfl HZ.out arrInfo rfl (paA_one _ _ _) ?_
      have hZ9 : Bk (wr.drew.setRow w.heap.size (paA nd key 3)) w.heap.size 140 (paA nd key 3) := Bk.setRow HZ.out (paA nd key 3)
      have hF9 : Fr (fun x => x = w.heap.size) wr (wr.drew.setRow w.heap.size (paA nd key 3)) := ((Fr.refl (fun x => x = w.heap.size) wr).drew).setRow w.heap.size (paA nd key 3) fun _ => rfl
      have hB9 : Below w.heap.size w (wr.drew.setRow w.heap.size (paA nd key 3)) := HB.out.trans (hF9.below HB.out.size fun k hk e => by omega)
      have hH9 : (Bk (wr.drew.setRow w.heap.size (paA nd key 3)) (w.heap.size + 1) 140 (paA nd key 3) ∧ (wr.drew.setRow w.heap.size (paA nd key 3)).cell? ⟨b, 16 + dg, none⟩ = some (ptrIf bx vb) ∧ (wr.drew.setRow w.heap.size (paA nd key 3)).cell? ⟨w.heap.size + 1, 3, none⟩ = some (.pointer (some ⟨b, 0, none⟩))) := ⟨HO.out.fr hF9 (by omega), (hF9.cell hbl hbw).trans hd, (hF9.cell (by show w.heap.size + 1 < _; omega) (by show ¬(w.heap.size + 1 = w.heap.size); omega)).trans hout⟩
      generalize wr.drew.setRow w.heap.size (paA nd key 3) = W9 at *
      have hHeld2 : (fun W => (Bk W (w.heap.size + 1) 140 (paA nd key 3) ∧ W.cell? ⟨b, 16 + dg, none⟩ = some (ptrIf bx vb) ∧ W.cell? ⟨w.heap.size + 1, 3, none⟩ = some (.pointer (some ⟨b, 0, none⟩)))) _ := hH9
      refine hK _ _ hHeld2 (fun hHeld => ?_)
      clear hHeld2 hK
      try simp only [Act.put, List.getElem_toArray, List.getElem_cons_zero, List.getElem_cons_succ]
      refine wpAnyH_take (i := 11) (v := .bool bx) rfl (by kernel_rfl) (by kernel_rfl) (by kernel_rfl) (fun _ _ _ h => h) (Or.inl ⟨by rfl, fun W hW => rfl⟩) hHeld ?_
      simp only [Act.put, List.getElem_toArray, List.getElem_cons_zero, List.getElem_cons_succ]
      refine wpAnyH_done (by kernel_rfl) ?_ _
      go_wp2
      refine bodyPost_ret (results_ct (fn := Try.f82) rfl _ _ w.heap.size 140 (paA nd key 3) _ (.bool bx) rfl rfl hZ9 Try.underlying140 rfl arrInfo) rfl ?_
      exact ⟨paOf nd key 3, bx, rfl, HK.out, hB9⟩
theorem rPath (h : TrM w base g ex nd mn f many nodes) (key : Int) : Calls Try.prog 82 #[.pointer (some ⟨g, 0, none⟩), .int .i64 key] w (PathPost w ex nd key) := by
  have hout : (ex 0 0 = false ∨ (ex 0 0 = true ∧ ¬(0 ≤ key ∧ key < 65536))) → Calls Try.prog 82 #[.pointer (some ⟨g, 0, none⟩), .int .i64 key] w (PathPost w ex nd key) := fun ho => by
    refine (rPathOut h key ho).mono ?_
    rintro e w' ⟨rfl, hB⟩
    refine ⟨fun _ => none, false, rfl, ⟨⟨fun h => (by cases h), ?_⟩, fun h => by cases h⟩, hB⟩
    rintro ⟨k, rfl, hk, hx⟩
    rcases ho with ho | ⟨_, ho⟩
    · have := hx 0 (by omega)
      rw [rxD_0, show k / 65536 = 0 by omega, ho] at this
      cases this
    · exact absurd ⟨by omega, by omega⟩ ho
  cases h0 : ex 0 0
  · exact hout (.inl h0)
  · by_cases hk : 0 ≤ key ∧ key < 65536
    · obtain ⟨k, rfl⟩ := Int.eq_ofNat_of_zero_le hk.1
      exact rPathIn h (by omega) (by rw [rxD_0, show k / 65536 = 0 by omega]; exact h0)
    · exact hout (.inr ⟨h0, hk⟩)
end
end Go.Proofs.YteifdbfaclpcdaaR.Rr
