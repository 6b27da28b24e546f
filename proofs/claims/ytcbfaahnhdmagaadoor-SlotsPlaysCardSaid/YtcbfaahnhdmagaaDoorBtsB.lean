/- Take, Put, Drop of a set, whatever number; lists of what is in a set; gunnylaw02.lives. -/
import Derived.Test.YtcbfaahnhdmagaaDoorBtsA
import Derived.Test.YtcbfaahnhdmagaaDoorGyInt
import Derived.Deep.DeepCutAuto
import Derived.Deep.CutBlock
namespace Go.Proofs.YtcbfaahnhdmagaaDoor
open Go.RowKit

section
variable {w : World} {g gw size : Nat} {f : Nat → Bool}
theorem hole_of {f : Nat → Bool} {n : Nat} (h : cntB f n < n) : ∃ k, k < n ∧ f k = false ∧ ∀ j, j < k → f j = true := by
  have hex : ∃ k, k < n ∧ f k = false := Classical.byContradiction fun hn => by
    have : cntB f n = n := cntB_full fun k hk => by
      cases hf : f k
      · exact absurd ⟨k, hk, hf⟩ hn
      · rfl
    omega
  have key : ∀ m, (∃ k, k < m ∧ f k = false) → ∃ k, k < m ∧ f k = false ∧ ∀ j, j < k → f j = true := by
    intro m
    induction m with
    | zero => rintro ⟨k, hk, _⟩; omega
    | succ m ih =>
      intro ⟨k, hk, hf⟩
      by_cases h2 : ∃ k, k < m ∧ f k = false
      · obtain ⟨k', a, b, c⟩ := ih h2
        exact ⟨k', by omega, b, c⟩
      · refine ⟨k, hk, hf, fun j hj => ?_⟩
        cases hj2 : f j
        · exact absurd ⟨j, by omega, hj2⟩ h2
        · rfl
  exact key n hex
theorem isTake_none (h : SetIs w g gw f size) (hc : cntB f size = size) :
    Calls Tryd.prog 12 #[.pointer (some ⟨g, 0, none⟩)] w fun e w' => e = .returned (.tuple #[.int .i64 0, .bool false]) ∧ w = w' := by
  have HF := Lib.hid (isFirst_none h hc)
  clear h hc
  go_enter Tryd.func12, Tryd.ntmps12
  go_wp2_with (go_at_call 38; refine HF.out.mono ?_; rintro e w2 ⟨rfl, rfl⟩)
  go_ret2
  exact ⟨rfl, rfl⟩
theorem isTake_some (h : SetIs w g gw f size) (hT : Tab w) {n : Nat} (hn : n < size) (hf : f n = false) (hl : ∀ j, j < n → f j = true) :
    Calls Tryd.prog 12 #[.pointer (some ⟨g, 0, none⟩)] w fun e w' => e = .returned (.tuple #[.int .i64 n, .bool true]) ∧ SetIs w' g gw (updB f n true) size ∧ Fr (fun k => k = g ∨ k = gw) w w' := by
  have HF := Lib.hid (isFirst_some h hT hn hf hl)
  have HP := Lib.hid (isPut_new h hn hf)
  clear h hf hl hT
  go_enter Tryd.func12, Tryd.ntmps12
  go_wp2_with (first
    | (go_at_call 38; refine HF.out.mono ?_; rintro e w2 ⟨rfl, rfl⟩)
    | (go_at_call 14; refine HP.out.mono ?_; rintro e w2 ⟨rfl, h1, h2⟩))
  go_ret2
  exact ⟨rfl, h1, h2⟩
set_option maxHeartbeats 1000000 in
theorem isPut_no (h : SetIs w g gw f size) {n : Int} (hn : (mayB size n && !f n.toNat) = false) :
    Calls Tryd.prog 14 #[.pointer (some ⟨g, 0, none⟩), .int .i64 n] w fun e w' => e = .returned (.bool false) ∧ w = w' := by
  have HH := Lib.hid (isHas h n)
  obtain ⟨wd, hS, _⟩ := h
  have HM := Lib.hid (setMay_any hS n)
  clear hS
  cases hm : mayB size n
  · rw [hm] at HM
    clear hn hm HH
    go_enter Tryd.func14, Tryd.ntmps14
    go_wp2_with (go_at_call 39; refine HM.out.mono ?_; rintro e w2 ⟨rfl, rfl⟩)
    go_ret
    exact ⟨rfl, rfl⟩
  · rw [hm] at HM HH hn
    have hf : f n.toNat = true := by simpa using hn
    rw [hf] at HH
    clear hn hm hf
    go_enter Tryd.func14, Tryd.ntmps14
    go_wp2_with (first
      | (go_at_call 39; refine HM.out.mono ?_; rintro e w2 ⟨rfl, rfl⟩)
      | (go_at_call 13; refine HH.out.mono ?_; rintro e w2 ⟨rfl, rfl⟩))
    go_ret
    exact ⟨rfl, rfl⟩
theorem isDrop_no (h : SetIs w g gw f size) {n : Int} (hn : (mayB size n && f n.toNat) = false) :
    Calls Tryd.prog 11 #[.pointer (some ⟨g, 0, none⟩), .int .i64 n] w fun e w' => e = .returned (.bool false) ∧ w = w' := by
  have HH := Lib.hid (isHas h n)
  rw [hn] at HH
  clear h hn
  go_enter Tryd.func11, Tryd.ntmps11
  go_wp2_with (go_at_call 13; refine HH.out.mono ?_; rintro e w2 ⟨rfl, rfl⟩)
  go_ret
  exact ⟨rfl, rfl⟩
end
theorem mayB_nat {size n : Nat} (h : n < size) : mayB size (n : Int) = true := by simp [mayB]; omega

/-- A list of all that is in a set. -/
structure InSet (f : Nat → Bool) (size : Nat) (l : List Int) : Prop where
  mem : ∀ z ∈ l, ∃ n : Nat, z = n ∧ n < size ∧ f n = true
  nodup : l.Nodup
  cnt : cntB f size = l.length
theorem InSet.nil (size : Nat) : InSet (fun _ => false) size [] := ⟨by simp, List.nodup_nil, by rw [cntB_none]; rfl⟩
theorem InSet.new {f : Nat → Bool} {size : Nat} {l : List Int} (h : InSet f size l) {k : Nat} (hk : k < size) (hf : f k = false) : InSet (updB f k true) size (l ++ [(k : Int)]) ∧ (k : Int) ∉ l := by
  have hno : (k : Int) ∉ l := fun hm => by
    obtain ⟨n, e, hn, hfn⟩ := h.mem _ hm
    obtain rfl : k = n := by omega
    rw [hf] at hfn
    cases hfn
  refine ⟨⟨fun z hz => ?_, ?_, ?_⟩, hno⟩
  · rcases List.mem_append.1 hz with hz | hz
    · obtain ⟨n, e, hn, hfn⟩ := h.mem z hz
      refine ⟨n, e, hn, ?_⟩
      unfold updB
      split
      · rfl
      · exact hfn
    · obtain rfl : z = (k : Int) := by simpa using hz
      exact ⟨k, rfl, hk, by simp [updB]⟩
  · refine List.nodup_append.2 ⟨h.nodup, by simp, fun a ha b hb => ?_⟩
    obtain rfl : b = (k : Int) := by simpa using hb
    exact fun e => hno (e ▸ ha)
  · have := cntB_upd f k true hk
    rw [hf, h.cnt] at this
    simp at this
    simp [this]
theorem InSet.old {f : Nat → Bool} {size : Nat} {l : List Int} (h : InSet f size l) {j : Nat} (hj : j < l.length) : ∃ n : Nat, l[j] = n ∧ n < size ∧ f n = true ∧ InSet (updB f n false) size (l.take j ++ l.drop (j + 1)) := by
  obtain ⟨n, e, hn, hf⟩ := h.mem l[j] (List.getElem_mem hj)
  have el : l = l.take j ++ l[j] :: l.drop (j + 1) := by rw [← List.drop_eq_getElem_cons hj, List.take_append_drop]
  have hnd := h.nodup
  rw [el] at hnd
  obtain ⟨n1, n2, n3⟩ := List.nodup_append.1 hnd
  obtain ⟨n4, n5⟩ := List.nodup_cons.1 n2
  refine ⟨n, e, hn, hf, ⟨fun z hz => ?_, ?_, ?_⟩⟩
  · have hzl : z ∈ l := by
      rcases List.mem_append.1 hz with hz | hz
      · exact List.mem_of_mem_take hz
      · exact List.mem_of_mem_drop hz
    obtain ⟨m, em, hm, hfm⟩ := h.mem z hzl
    refine ⟨m, em, hm, ?_⟩
    have hmn : m ≠ n := fun e2 => by
      subst e2
      have ez : z = l[j] := em.trans e.symm
      rcases List.mem_append.1 hz with hz | hz
      · exact n3 z hz l[j] List.mem_cons_self ez
      · exact n4 (ez ▸ hz)
    unfold updB
    rw [if_neg hmn]
    exact hfm
  · exact List.nodup_append.2 ⟨n1, n5, fun a ha b hb => n3 a ha b (List.mem_cons_of_mem _ hb)⟩
  · have := cntB_upd f n false hn
    rw [hf, h.cnt] at this
    simp at this
    simp
    omega

/-- A set of the call's own. -/
structure StRun (w0 w : World) (g gw : Nat) (f : Nat → Bool) (size : Nat) : Prop where
  set : SetIs w g gw f size
  b1 : w0.heap.size ≤ g
  b2 : w0.heap.size ≤ gw
  below : Below w0.heap.size w0 w
section
variable {w0 w w' : World} {g gw size : Nat} {f f' : Nat → Bool}
theorem StRun.step (h : StRun w0 w g gw f size) (hS : SetIs w' g gw f' size) (hF : Fr (fun k => k = g ∨ k = gw) w w') : StRun w0 w' g gw f' size :=
  ⟨hS, h.b1, h.b2, h.below.trans (hF.below h.below.size fun k hk e => by have := h.b1; have := h.b2; omega)⟩
theorem StRun.below0 (h : StRun w0 w g gw f size) (hb : Below w.heap.size w w') : StRun w0 w' g gw f size :=
  ⟨h.set.fr (Fr.of_below (S := fun k => w.heap.size ≤ k) hb fun _ _ h => h) (by have := h.set.lt.1; omega) (by have := h.set.lt.2; omega), h.b1, h.b2, h.below.trans (hb.mono h.below.size)⟩
theorem StRun.tab (h : StRun w0 w g gw f size) (hT : Tab w0) : Tab w := hT.below h.below hT.lt
theorem stNew (w : World) (n : Int) : Calls Tryd.prog 10 #[.int .i64 n] w fun e w' => ∃ g gw, e = .returned (.pointer (some ⟨g, 0, none⟩)) ∧ StRun w w' g gw (fun _ => false) (newSize n) :=
  (isNew w n).mono fun _ _ ⟨g, gw, h1, h2, h3, h4, h5⟩ => ⟨g, gw, h1, h2, h4, h5, h3⟩
end

set_option maxHeartbeats 2000000 in
theorem bitsLives {w : World} (hT : Tab w) : Calls Tryd.prog 9 #[] w fun e w' => e = .returned (.bool true) ∧ Below w.heap.size w w' := by
  have HT := Lib.hid hT
  clear hT
  have e3 : newSize 3 = 3 := rfl
  go_enter Tryd.func9, Tryd.ntmps9
  go_wp2_with fail
  refine (stNew w 3).mono ?_
  rintro e w1 ⟨g, gw, rfl, h1⟩
  rw [e3] at h1
  go_wp2_with fail
  refine (isTake_some h1.set (h1.tab HT.out) (n := 0) (by omega) rfl (fun j hj => by omega)).mono ?_
  rintro e w2 ⟨rfl, h2, hF2⟩
  have h2 := h1.step h2 hF2
  go_wp2_with fail
  refine (isTake_some h2.set (h2.tab HT.out) (n := 1) (by omega) rfl (fun j hj => by
    rcases (show j = 0 by omega) with rfl
    rfl)).mono ?_
  rintro e w3 ⟨rfl, h3, hF3⟩
  have h3 := h2.step h3 hF3
  go_wp2_with fail
  refine (isDrop_old h3.set (n := 0) (by omega) rfl).mono ?_
  rintro e w4 ⟨rfl, h4, hF4⟩
  have h4 := h3.step h4 hF4
  go_wp2_with fail
  refine (isTake_some h4.set (h4.tab HT.out) (n := 0) (by omega) rfl (fun j hj => by omega)).mono ?_
  rintro e w5 ⟨rfl, h5, hF5⟩
  have h5 := h4.step h5 hF5
  go_wp2_with fail
  refine (isTake_some h5.set (h5.tab HT.out) (n := 2) (by omega) rfl (fun j hj => by
    rcases (show j = 0 ∨ j = 1 by omega) with rfl | rfl <;> rfl)).mono ?_
  rintro e w6 ⟨rfl, h6, hF6⟩
  have h6 := h5.step h6 hF6
  have HB := Lib.hid h6.below
  clear h1 h2 h3 h4 h5 h6 hF2 hF3 hF4 hF5 hF6
  go_wp2
  go_ret
  exact ⟨rfl, HB.out⟩
end Go.Proofs.YtcbfaahnhdmagaaDoor
