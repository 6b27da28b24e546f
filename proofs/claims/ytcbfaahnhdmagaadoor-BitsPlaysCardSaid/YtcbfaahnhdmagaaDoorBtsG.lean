/- A set that isn't there; Put, Drop, First on both sides; the law's same. -/
import Derived.Test.YtcbfaahnhdmagaaDoorBtsF
namespace Go.Proofs.YtcbfaahnhdmagaaDoor
open Go.RowKit

theorem nSize (w : World) : Calls Tryd.prog 17 #[.pointer none] w fun e w' => e = .returned (.int .i64 0) ∧ w = w' := by
  go_enter Tryd.func17, Tryd.ntmps17
  go_wp2
  go_ret
  exact ⟨rfl, rfl⟩
theorem nLen (w : World) : Calls Tryd.prog 15 #[.pointer none] w fun e w' => e = .returned (.int .i64 0) ∧ w = w' := by
  go_enter Tryd.func15, Tryd.ntmps15
  go_wp2
  go_ret
  exact ⟨rfl, rfl⟩
theorem nMay (w : World) : Calls Tryd.prog 39 #[.pointer none, .int .i64 0] w fun e w' => e = .returned (.bool false) ∧ w = w' := by
  go_enter Tryd.func39, Tryd.ntmps39
  go_wp2_with (go_at_call 17; refine (nSize _).mono ?_; rintro x w3 ⟨rfl, rfl⟩)
  go_ret
  exact ⟨rfl, rfl⟩
theorem nHas (w : World) : Calls Tryd.prog 13 #[.pointer none, .int .i64 0] w fun e w' => e = .returned (.bool false) ∧ w = w' := by
  go_enter Tryd.func13, Tryd.ntmps13
  go_wp2_with (go_at_call 39; refine (nMay _).mono ?_; rintro x w3 ⟨rfl, rfl⟩)
  go_ret
  exact ⟨rfl, rfl⟩
theorem nPut (w : World) : Calls Tryd.prog 14 #[.pointer none, .int .i64 0] w fun e w' => e = .returned (.bool false) ∧ w = w' := by
  go_enter Tryd.func14, Tryd.ntmps14
  go_wp2_with (go_at_call 39; refine (nMay _).mono ?_; rintro x w3 ⟨rfl, rfl⟩)
  go_ret
  exact ⟨rfl, rfl⟩
theorem nDrop (w : World) : Calls Tryd.prog 11 #[.pointer none, .int .i64 0] w fun e w' => e = .returned (.bool false) ∧ w = w' := by
  go_enter Tryd.func11, Tryd.ntmps11
  go_wp2_with (go_at_call 13; refine (nHas _).mono ?_; rintro x w3 ⟨rfl, rfl⟩)
  go_ret
  exact ⟨rfl, rfl⟩
theorem nIter {w : World} {ps : Nat} (x : Value) (h : w.cell? ⟨ps, 0, none⟩ = some (.pointer none)) : Calls Tryd.prog 54 #[x, .pointer (some ⟨ps, 0, none⟩)] w fun e w' => e = .returned (.tuple #[]) ∧ w = w' := by
  go_enter Tryd.func54, Tryd.ntmps54
  go_wp2_with (go_at_call 17; refine (nSize _).mono ?_; rintro x w3 ⟨rfl, rfl⟩)
  go_loop [6] (fun j => j = .int .i64 0) (fun j => 0)
  case atStart => rfl
  case round =>
    subst hrel
    go_wp2
    go_end0
    exact ⟨rfl, rfl⟩
set_option maxRecDepth 100000 in
set_option maxHeartbeats 2000000 in
theorem nAll (w : World) : Calls Tryd.prog 16 #[.pointer none, .int .i64 (-1)] w fun e w' => e = .returned (.tuple #[.slice none 0 0, .bool true]) ∧ Below w.heap.size w w' := by
  have hmf : ∀ (fn : Fn) (first cap : Array Value) (w : World), (Instr.makeFunc fn first cap).run Tryd.prog w = .ok (.func fn first cap) w := fun _ _ _ _ => rfl
  have heq : ∀ (W : World) (cap : Array Value), (binOp .eql 80 (.func (.func 54) #[] cap) .nilFunc).run Tryd.prog W = .ok (.bool false) W := fun _ _ => rfl
  have HC : Hid ((((w.alloc (.cells #[.int .i64 (-1)] 3)).alloc (.cells #[.pointer none] 24)).alloc (.cells #[.slice none 0 0] 26)).cell? ⟨w.heap.size + 1, 0, none⟩ = some (.pointer none)) := by
    have k2 : Bk ((w.alloc (.cells #[.int .i64 (-1)] 3)).alloc (.cells #[.pointer none] 24)) (w.heap.size + 1) 24 #[.pointer none] := Bk.new_at _ _ _ (by simp)
    exact (k2.alloc (.cells #[.slice none 0 0] 26)).cell 0
  have HB : Hid (Below w.heap.size w (((w.alloc (.cells #[.int .i64 (-1)] 3)).alloc (.cells #[.pointer none] 24)).alloc (.cells #[.slice none 0 0] 26))) := ((((Fr.refl (fun _ => False) w).alloc _).alloc _).alloc _).below (Nat.le_refl _) fun _ _ => id
  go_enter Tryd.func16, Tryd.ntmps16
  go_wp2_with (first
    | (go_at_call 54; refine (nIter _ HC.out).mono ?_; rintro x w2 ⟨rfl, rfl⟩)
    | (go_at_call 40; refine (sAll _ _).mono ?_; rintro x w2 ⟨rfl, rfl⟩))
  go_ret2
  exact ⟨rfl, HB.out⟩

theorem owns_mono {w : World} {base base' : Nat} {e : TypeId} {sz n : Nat} {v : Value} {xs : List Value} (h : w.ownsRow base' e sz v n xs) (hb : base ≤ base') : w.ownsRow base e sz v n xs :=
  ⟨h.1, h.2.imp id fun ⟨g, cap, cur, a, b, c⟩ => ⟨g, cap, cur, a, Nat.le_trans hb b, c⟩⟩
section
variable {w : World} {g gw size : Nat} {f : Nat → Bool}
theorem isPutA (h : SetIs w g gw f size) (n : Int) :
    Calls Tryd.prog 14 #[.pointer (some ⟨g, 0, none⟩), .int .i64 n] w fun e w' => e = .returned (.bool (didB f size n true)) ∧ SetIs w' g gw (putF f size n true) size ∧ Fr (fun k => k = g ∨ k = gw) w w' := by
  cases hb : didB f size n true
  · refine (isPut_no h (by simpa [didB] using hb)).mono ?_
    rintro e w' ⟨rfl, rfl⟩
    exact ⟨rfl, by unfold putF; rw [hb]; exact h, Fr.refl _ _⟩
  · have hb2 := hb
    simp [didB] at hb2
    obtain ⟨h1, h2⟩ := hb2
    obtain ⟨k, rfl, hk⟩ := mayB_true h1
    refine (isPut_new h hk (by simpa using h2)).mono ?_
    rintro e w' ⟨rfl, h3, h4⟩
    exact ⟨rfl, by unfold putF; rw [hb]; simpa using h3, h4⟩
theorem isDropA (h : SetIs w g gw f size) (n : Int) :
    Calls Tryd.prog 11 #[.pointer (some ⟨g, 0, none⟩), .int .i64 n] w fun e w' => e = .returned (.bool (didB f size n false)) ∧ SetIs w' g gw (putF f size n false) size ∧ Fr (fun k => k = g ∨ k = gw) w w' := by
  cases hb : didB f size n false
  · refine (isDrop_no h (by simpa [didB] using hb)).mono ?_
    rintro e w' ⟨rfl, rfl⟩
    exact ⟨rfl, by unfold putF; rw [hb]; exact h, Fr.refl _ _⟩
  · have hb2 := hb
    simp [didB] at hb2
    obtain ⟨h1, h2⟩ := hb2
    obtain ⟨k, rfl, hk⟩ := mayB_true h1
    refine (isDrop_old h hk (by simpa using h2)).mono ?_
    rintro e w' ⟨rfl, h3, h4⟩
    exact ⟨rfl, by unfold putF; rw [hb]; simpa using h3, h4⟩
theorem refWith_all {base c : Nat} {A : Option Addr} (h : RefB w base (.slice A size c) f size) (hbase : base ≤ w.heap.size) (hsz : size ≤ 4096) (n : Int) (b : Bool) :
    Calls Tryd.prog 20 #[.slice A size c, .int .i64 n, .bool b] w fun e w' => ∃ A' c', e = .returned (.tuple #[.slice A' size c', .bool (didB f size n b)]) ∧ RefB w' base (.slice A' size c') (putF f size n b) size ∧ Below w.heap.size w w' := by
  cases hb : didB f size n b
  · refine (refWith_no h n b hb).mono ?_
    rintro e w' ⟨rfl, rfl⟩
    exact ⟨A, c, rfl, by unfold putF; rw [hb]; exact h, Below.refl _ _⟩
  · have hb2 := hb
    simp [didB] at hb2
    obtain ⟨h1, h2⟩ := hb2
    obtain ⟨k, rfl, hk⟩ := mayB_true h1
    refine (refWith_did h hsz hk b (by simpa using h2)).mono ?_
    rintro e w' ⟨A', c', rfl, h3, h4⟩
    refine ⟨A', c', rfl, ?_, h4⟩
    unfold putF
    rw [hb, if_pos rfl, Int.toNat_natCast]
    exact owns_mono h3 hbase
theorem full_of {f : Nat → Bool} {size : Nat} (h : cntB f size = size) : ∀ j, j < size → f j = true := fun j hj => by
  cases hf : f j
  · have := cntB_lt hj hf
    omega
  · rfl
/-- The first number that is out, on both sides. -/
theorem first_both (f : Nat → Bool) (g gw size : Nat) (hsz : size ≤ 4096) : ∃ (z : Nat) (bb : Bool), (bb = true → z < size ∧ f z = false) ∧ (bb = false → cntB f size = size) ∧
    (∀ W, SetIs W g gw f size → Tab W → Calls Tryd.prog 38 #[.pointer (some ⟨g, 0, none⟩)] W fun e w' => e = .returned (.tuple #[.int .i64 z, .bool bb]) ∧ W = w') ∧
    (∀ W base A c, RefB W base (.slice A size c) f size → Calls Tryd.prog 21 #[.slice A size c] W fun e w' => e = .returned (.tuple #[.int .i64 z, .bool bb]) ∧ W = w') ∧
    (bb = true → ∀ W, SetIs W g gw f size → Tab W → Calls Tryd.prog 12 #[.pointer (some ⟨g, 0, none⟩)] W fun e w' => e = .returned (.tuple #[.int .i64 z, .bool true]) ∧ SetIs w' g gw (updB f z true) size ∧ Fr (fun k => k = g ∨ k = gw) W w') := by
  by_cases hc : cntB f size = size
  · exact ⟨0, false, (by intro h; cases h), fun _ => hc, fun W hS _ => isFirst_none hS hc, fun W base A c hR => refFirst_none hR hsz (full_of hc), (by intro h; cases h)⟩
  · have hlt : cntB f size < size := by have := cntB_le f size; omega
    obtain ⟨k, hk, hf, hl⟩ := hole_of hlt
    exact ⟨k, true, fun _ => ⟨hk, hf⟩, (by intro h; cases h), fun W hS hT => isFirst_some hS hT hk hf hl, fun W base A c hR => refFirst_some hR hsz hk hf hl, fun _ W hS hT => isTake_some hS hT hk hf hl⟩

set_option maxRecDepth 100000 in
set_option maxHeartbeats 4000000 in
theorem same_any {base c : Nat} {A : Option Addr} (hS : SetIs w g gw f size) (hR : RefB w base (.slice A size c) f size) (hT : Tab w) (hsz : size ≤ 4096) (k : Int) :
    Calls Tryd.prog 19 #[.pointer (some ⟨g, 0, none⟩), .slice A size c, .int .i64 k] w fun e w' => e = .returned (.bool true) ∧ Below w.heap.size w w' := by
  obtain ⟨z, bb, _, _, hF1, hF2, _⟩ := first_both f g gw size hsz
  have hm1 : tkI (-1) (memI f size) = memI f size := tkI_all (by omega)
  have HAll := Lib.hid (all_any hS hsz (-1))
  rw [hm1] at HAll
  have HSb : Hid (∀ W, Below w.heap.size w W → SetIs W g gw f size) := fun W hW => hS.fr (Fr.of_below (S := fun k => w.heap.size ≤ k) hW fun _ _ h => h) (fun h => by have := hS.lt; omega) (fun h => by have := hS.lt; omega)
  have HRb : Hid (∀ W, Below w.heap.size w W → RefB W base (.slice A size c) f size) := fun W hW => owns_same hR fun b hb => hW.block b (World.ownsRow.lt hR b hb).2
  have HTb : Hid (∀ W, Below w.heap.size w W → Tab W) := fun W hW => hT.below hW hT.lt
  have HF1 := Lib.hid hF1
  have HF2 := Lib.hid hF2
  have hml : (memI f size).length ≤ 5000 := by rw [memI_length]; have := cntB_le f size; omega
  have hcl : ((memI f size).length : Int) = cntB f size := by rw [memI_length]
  have HR0 := Lib.hid hR
  clear hS hR hT hF1 hF2 hm1
  obtain ⟨L, hLm⟩ : ∃ L, memI f size = L := ⟨_, rfl⟩
  have HM := Lib.hid hLm
  rw [hLm] at HAll hml hcl
  clear hLm
  have HL : Hid (∀ W, Below w.heap.size w W → Calls Tryd.prog 15 #[.pointer (some ⟨g, 0, none⟩)] W fun e w' => e = .returned (.int .i64 (cntB f size)) ∧ W = w') := fun W hW => isLen (HSb.out W hW)
  have HZ : Hid (∀ W, Below w.heap.size w W → Calls Tryd.prog 17 #[.pointer (some ⟨g, 0, none⟩)] W fun e w' => e = .returned (.int .i64 size) ∧ W = w') := fun W hW => isSize (HSb.out W hW)
  generalize cntB f size = cnt at HL hcl
  rcases (show k < 0 ∨ (size : Int) ≤ k ∨ ∃ n : Nat, k = n ∧ n < size by
    rcases Int.lt_or_le k 0 with h | h
    · exact .inl h
    · rcases Int.lt_or_le k size with h2 | h2
      · exact .inr (.inr ⟨k.toNat, by omega, by omega⟩)
      · exact .inr (.inl h2)) with hk | hk | ⟨n, hkn, hns⟩
  · have hmk : mayB size k = false := by simp [mayB]; omega
    have HH : Hid (∀ W, Below w.heap.size w W → Calls Tryd.prog 13 #[.pointer (some ⟨g, 0, none⟩), .int .i64 k] W fun e w' => e = .returned (.bool false) ∧ W = w') := fun W hW => by
      have := isHas (HSb.out W hW) k
      rwa [hmk, Bool.false_and] at this
    have hk2 : ¬ (0 : Int) ≤ k := by omega
    go_enter Tryd.func19, Tryd.ntmps19
    go_wp2_with (first
      | (go_at_call 16; refine HAll.out.mono ?_; rintro x w1 ⟨A1, c1, rfl, hO1, hB1⟩)
      | (go_at_call 42; refine (refAll_any (HRb.out _ hB1) hsz).mono ?_; rintro x w2 ⟨A2, c2, rfl, hO2, hB2⟩; rw [HM.out] at hO2 ⊢; have hb2 := hB1.trans (hB2.mono hB1.size))
      | (go_at_call 38; refine (HF1.out _ (HSb.out _ hb2) (HTb.out _ hb2)).mono ?_; rintro x w3 ⟨rfl, rfl⟩)
      | (go_at_call 21; refine (HF2.out _ _ _ _ (HRb.out _ hb2)).mono ?_; rintro x w3 ⟨rfl, rfl⟩)
      | (go_at_call 43; refine (refInts_any (rdG (own_grow hO1 hB2)) (rdG hO2) hml).mono ?_; rintro x w3 ⟨rfl, m, rfl⟩; have hb3 : Below w.heap.size w (w2.drewN m) := ⟨hb2.os, hb2.tape, hb2.output, hb2.size, hb2.block⟩)
      | (go_at_call 15; refine (HL.out _ hb3).mono ?_; rintro x w4 ⟨rfl, rfl⟩)
      | (go_at_call 17; refine (HZ.out _ hb3).mono ?_; rintro x w4 ⟨rfl, rfl⟩)
      | (go_at_call 13; refine (HH.out _ hb3).mono ?_; rintro x w4 ⟨rfl, rfl⟩))
    go_ret
    exact ⟨rfl, hb3⟩
  · have hmk : mayB size k = false := by simp [mayB]; omega
    have HH : Hid (∀ W, Below w.heap.size w W → Calls Tryd.prog 13 #[.pointer (some ⟨g, 0, none⟩), .int .i64 k] W fun e w' => e = .returned (.bool false) ∧ W = w') := fun W hW => by
      have := isHas (HSb.out W hW) k
      rwa [hmk, Bool.false_and] at this
    have hk2 : (0 : Int) ≤ k := by omega
    have hk3 : ¬ k < (size : Int) := by omega
    go_enter Tryd.func19, Tryd.ntmps19
    go_wp2_with (first
      | (go_at_call 16; refine HAll.out.mono ?_; rintro x w1 ⟨A1, c1, rfl, hO1, hB1⟩)
      | (go_at_call 42; refine (refAll_any (HRb.out _ hB1) hsz).mono ?_; rintro x w2 ⟨A2, c2, rfl, hO2, hB2⟩; rw [HM.out] at hO2 ⊢; have hb2 := hB1.trans (hB2.mono hB1.size))
      | (go_at_call 38; refine (HF1.out _ (HSb.out _ hb2) (HTb.out _ hb2)).mono ?_; rintro x w3 ⟨rfl, rfl⟩)
      | (go_at_call 21; refine (HF2.out _ _ _ _ (HRb.out _ hb2)).mono ?_; rintro x w3 ⟨rfl, rfl⟩)
      | (go_at_call 43; refine (refInts_any (rdG (own_grow hO1 hB2)) (rdG hO2) hml).mono ?_; rintro x w3 ⟨rfl, m, rfl⟩; have hb3 : Below w.heap.size w (w2.drewN m) := ⟨hb2.os, hb2.tape, hb2.output, hb2.size, hb2.block⟩)
      | (go_at_call 15; refine (HL.out _ hb3).mono ?_; rintro x w4 ⟨rfl, rfl⟩)
      | (go_at_call 17; refine (HZ.out _ hb3).mono ?_; rintro x w4 ⟨rfl, rfl⟩)
      | (go_at_call 13; refine (HH.out _ hb3).mono ?_; rintro x w4 ⟨rfl, rfl⟩))
    go_ret
    exact ⟨rfl, hb3⟩
  · subst hkn
    obtain ⟨b, c', hv, hb1, hc⟩ := HR0.out.cell hns
    injection hv with hv1 _ hv3
    subst hv1 hv3
    have HH : Hid (∀ W, Below w.heap.size w W → Calls Tryd.prog 13 #[.pointer (some ⟨g, 0, none⟩), .int .i64 (n : Int)] W fun e w' => e = .returned (.bool (f n)) ∧ W = w') := fun W hW => by
      have := isHas (HSb.out W hW) (n : Int)
      rwa [mayB_nat hns, Bool.true_and, Int.toNat_natCast] at this
    have hk2 : (0 : Int) ≤ (n : Int) := by omega
    have hk3 : (n : Int) < (size : Int) := by omega
    generalize f n = bn at *
    go_enter Tryd.func19, Tryd.ntmps19
    go_wp2_with (first
      | (go_at_call 16; refine HAll.out.mono ?_; rintro x w1 ⟨A1, c1, rfl, hO1, hB1⟩)
      | (go_at_call 42; refine (refAll_any (HRb.out _ hB1) hsz).mono ?_; rintro x w2 ⟨A2, c2, rfl, hO2, hB2⟩; rw [HM.out] at hO2 ⊢; have hb2 := hB1.trans (hB2.mono hB1.size); have hc2 := (hb2.cell (p := ⟨b, n, none⟩) hb1).trans hc)
      | (go_at_call 38; refine (HF1.out _ (HSb.out _ hb2) (HTb.out _ hb2)).mono ?_; rintro x w3 ⟨rfl, rfl⟩)
      | (go_at_call 21; refine (HF2.out _ _ _ _ (HRb.out _ hb2)).mono ?_; rintro x w3 ⟨rfl, rfl⟩)
      | (go_at_call 43; refine (refInts_any (rdG (own_grow hO1 hB2)) (rdG hO2) hml).mono ?_; rintro x w3 ⟨rfl, m, rfl⟩; have hb3 : Below w.heap.size w (w2.drewN m) := ⟨hb2.os, hb2.tape, hb2.output, hb2.size, hb2.block⟩)
      | (go_at_call 15; refine (HL.out _ hb3).mono ?_; rintro x w4 ⟨rfl, rfl⟩)
      | (go_at_call 17; refine (HZ.out _ hb3).mono ?_; rintro x w4 ⟨rfl, rfl⟩)
      | (go_at_call 13; refine (HH.out _ hb3).mono ?_; rintro x w4 ⟨rfl, rfl⟩))
    go_ret
    exact ⟨rfl, hb3⟩
end
end Go.Proofs.YtcbfaahnhdmagaaDoor
