/- SlotsKeeps returns true for all choices and every list of deeds, and leaves them as they were. No condition. -/
import Derived.Test.YtcbfaahnhdmagaaDoorRows
import Derived.Test.YtcbfaahnhdmagaaDoorSlS
import Derived.Test.YtcbfaahnhdmagaaDoorSlRd
import Derived.Test.YtcbfaahnhdmagaaDoorRw
import Derived.Test.YtcbfaahnhdmagaaDoorBtsT
import Derived.Test.YtcbfaahnhdmagaaDoorTie
import Derived.Test.YtcbfaahnhdmagaaDoorCards
import Derived.SevenTiedAt
import Derived.WalkKit
import Derived.ProofKit
import Derived.OpenShut
import Derived.ShutString
import Derived.ChangeOld
import Derived.Below
import Derived.SizedLaws
namespace Go.Proofs.YtcbfaahnhdmagaaDoor.slotsKeeps
open Go.ChangeShapes Go.WideShapes Go.ChangeAt Go.RowKit
open Go.ChangeMaps (open_string shut_string)
theorem own : ownKnob Tryd.prog.godebug = none := by kernel_rfl
theorem laidOut : laidOutB Tryd.prog = true := by kernel_rfl
set_option maxRecDepth 100000 in
theorem lifted (os : Os) (started : os.Started) (H : Type) (enc : TypeId × Value → H) :
    ReturnsInHanded {} Tryd.checked os 7 .any (fun w args => (Rows.slotsKeepsSpec.pre enc Tryd.prog Tryd.f7 [] false w args ∧ laidMetH Tryd.prog laidT w) ∧ sizedMet enc Tryd.prog Tryd.f7 (OpenSpec.ofChange Rows.slotsKeepsSpec) false w args)
      (Rows.slotsKeepsSpec.post enc Tryd.prog Tryd.f7 false true false false) := by
  refine returnsInHanded_of_change_and (C := Tryd.checked) (X := fun w _ => laidMetH Tryd.prog laidT w) (fun _ _ _ hh h => h.of_heap hh) own started (by kernel_rfl) Tryd.func7
    (ChangeSpec.witness_shaped (enc := enc) (C := Tryd.checked) (os := os) (X := fun w _ => laidMetH Tryd.prog laidT w) false (World.doorLaid Tryd.prog 400 os) #[.slice none 0 0, .slice none 0 0] 8 rfl (World.shaped_of_RefB (by kernel_rfl) (by kernel_rfl)) (by kernel_rfl) (by kernel_rfl) (by kernel_rfl) (door_met os _)) ?_
  intro W base args ds gs before hval0 hW hcnd hsz0 hLaid _
  have hTab : Tab W := tab_of_laid hLaid
  have hsz : (DataW.weightsEach Tryd.prog (Tryd.f7.params.toList ++ Rows.slotsKeepsSpec.plain.varTypes Tryd.prog) (ds ++ gs)).all (· ≤ reachBytes) = true := hsz0
  have hval : ∀ (j : Nat) t v, Tryd.f7.params[j]? = some t → args[j]? = some v → Value.okWide Tryd.prog W .any base t v := hval0
  have hW' := hW
  obtain ⟨p, q, hA0, hV, rfl, hfz, hnd⟩ := hW
  have hA : DataW.TrodAll enc Tryd.prog W 0 (fun _ => true) true Tryd.f7.params.toList args.toList ds p := hA0
  rw [Tryd.params7] at hA hval hsz
  obtain ⟨v0, vs0, d0, ds0, p0, q0, hargs, rfl, rfl, h0, r0⟩ := trodAll_cons hA
  obtain ⟨v1, vs1, d1, ds1, p1, q1, rfl, rfl, rfl, h1, r1⟩ := trodAll_cons r0
  obtain ⟨rfl, rfl, rfl⟩ := trodAll_nil r1
  obtain rfl : args = #[v0, v1] := by cases args; simp_all
  obtain ⟨rfl, rfl⟩ := trodVars_none hV
  have k0 := h0
  have lt0 : ∀ x ∈ p0, x.block < W.heap.size := by
    obtain ⟨m, hm⟩ := k0
    exact DataW.trod_lt m _ _ _ hm
  have ok0 := hval 0 35 v0 rfl rfl
  have k1 := h1
  have lt1 : ∀ x ∈ p1, x.block < W.heap.size := by
    obtain ⟨m, hm⟩ := k1
    exact DataW.trod_lt m _ _ _ hm
  have ok1 := hval 1 60 v1 rfl rfl
  obtain ⟨a0, len0, cap0, rfl⟩ := okWide_slice Tryd.underlying35 ok0
  obtain ⟨l, rfl, hl, hA0'⟩ := open_boolsRd Tryd.underlying35 Tryd.underlying4 (by kernel_rfl) k0
  obtain ⟨a1, len1, cap1, rfl⟩ := okWide_slice Tryd.underlying60 ok1
  obtain ⟨L, rfl, hL, hA1'⟩ := open_deeds k1
  have walk : Calls Tryd.prog 7 #[.slice a0 l.length cap0, .slice a1 L.length cap1] W fun e w' => e = .returned (.bool true) ∧ Below W.heap.size W w' := by
    have hl' : l.length ≤ 9223372036854775807 := by simp [maxLen] at hl; omega
    have hL' : L.length ≤ 9223372036854775807 := by simp [maxLen] at hL; omega
    rcases Nat.lt_or_ge 3000 l.length with h5 | h5
    · exact keeps_great W hTab a0 a1 l.length cap0 cap1 hA1' hL' hl' (.inl h5)
    · cases hg : greatD L
      · exact keeps_any hTab hA0' h5 hA1' hg
      · exact keeps_great W hTab a0 a1 l.length cap0 cap1 hA1' hL' hl' (.inr ⟨h5, hg⟩)
  clear hA0 hval0 hsz0 hsz
  refine (walk).mono fun e W' ⟨he, bel⟩ => ?_
  subst he
  exact ⟨_, rfl, _, _, _, [], _, [], hW', trodAll_mk1 (shut_bool Tryd.underlying4 _), (trodAll_cons_mk (Below.trod laidOut (by kernel_rfl) (of_decide_eq_true (by kernel_rfl)) k0 bel lt0) (trodAll_cons_mk (Below.trod laidOut (by kernel_rfl) (of_decide_eq_true (by kernel_rfl)) k1 bel lt1) trodAll_mk0)), rfl, bel.frame _, fun h => by cases h⟩
theorem over : Rows.slotsKeepsRow.holds Tryd.pinned (OpenSpec.ofChange Rows.slotsKeepsSpec) :=
  OpenClaim.holds_of_wide 7 Tryd.f7 rfl rfl rfl rfl rfl rfl rfl ⟨rfl, rfl, rfl, rfl, rfl⟩ rfl rfl rfl rfl rfl (by kernel_rfl) Tryd.func7 (by kernel_rfl)
    (of_decide_eq_true (by kernel_rfl)) (by unfold Func.isWrapper; first | (rw [if_pos (by decide +kernel)]; kernel_rfl) | (rw [if_neg (by decide +kernel)]; exact ⟨rfl, rfl⟩))
    (fun os started H enc _ => lifted os started H enc)
end Go.Proofs.YtcbfaahnhdmagaaDoor.slotsKeeps
namespace Go.Proofs.YtcbfaahnhdmagaaDoor
theorem slotsKeeps_holds : Rows.SlotsKeepsCardSaid :=
  Claim7.holds_tied_plain_at .later [] [.data] true (true, "9a95fd9d0b0e536577e1df5e301c442cdf402af3c982a1ccd358cd69f227f455") false
    slotsKeeps.over (fun _ h => by cases h) (by kernel_rfl) (fun _ h => by cases h) slotsKeeps_row_tie rfl ⟨rfl, rfl⟩ (by kernel_rfl) rfl
    (fun f fn hf hfn => by
      obtain rfl : f = 7 := Option.some.inj ((show Tryd.prog.funcNamed "gunny/gunnylaw09.SlotsKeeps" = some 7 by kernel_rfl).symm.trans hf) |>.symm
      obtain rfl : fn = Tryd.f7 := (Option.some.inj (Tryd.func7.symm.trans hfn)).symm
      exact ⟨by kernel_rfl, fun j t ht => by
        rw [Tryd.params7] at ht
        have hm : t ∈ [35, 60] := by simpa using Array.mem_of_getElem? ht
        have hall : ([35, 60].all fun u => !Tryd.prog.wantsStandIn u) = true := by kernel_rfl
        exact (show Tryd.prog.wantsStandIn t = false by simpa using List.all_eq_true.1 hall t hm)⟩)
    (by kernel_rfl)
#print axioms slotsKeeps_holds
end Go.Proofs.YtcbfaahnhdmagaaDoor

