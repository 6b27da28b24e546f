/- SlotsPlays returns true for every number, all choices and every list of deeds, and leaves them as they were. No condition. -/
import Derived.Test.YtcbfaahnhdmagaaDoorRows
import Derived.Test.YtcbfaahnhdmagaaDoorSlPl
import Derived.Test.YtcbfaahnhdmagaaDoorSlRd
import Derived.Test.YtcbfaahnhdmagaaDoorRw
import Derived.Test.YtcbfaahnhdmagaaDoorRi
import Derived.Test.YtcbfaahnhdmagaaDoorBtsT
import Derived.Test.YtcbfaahnhdmagaaDoorTie
import Derived.Test.YtcbfaahnhdmagaaDoorCards
import Derived.SevenTiedAt
import Derived.WalkKit
import Derived.ProofKit
import Derived.OpenShut
import Derived.ShutString
import Derived.ChangeOld
import Derived.Below
import Derived.SizedLaws
namespace Go.Proofs.YtcbfaahnhdmagaaDoor.slotsPlays
open Go.ChangeShapes Go.WideShapes Go.ChangeAt Go.RowKit
open Go.ChangeMaps (open_string shut_string)
theorem own : ownKnob Tryd.prog.godebug = none := by kernel_rfl
theorem laidOut : laidOutB Tryd.prog = true := by kernel_rfl
set_option maxRecDepth 100000 in
theorem lifted (os : Os) (started : os.Started) (H : Type) (enc : TypeId × Value → H) :
    ReturnsInHanded {} Tryd.checked os 8 .any (fun w args => (Rows.slotsPlaysSpec.pre enc Tryd.prog Tryd.f8 [] false w args ∧ laidMetH Tryd.prog laidT w) ∧ sizedMet enc Tryd.prog Tryd.f8 (OpenSpec.ofChange Rows.slotsPlaysSpec) false w args)
      (Rows.slotsPlaysSpec.post enc Tryd.prog Tryd.f8 false true false false) := by
  refine returnsInHanded_of_change_and (C := Tryd.checked) (X := fun w _ => laidMetH Tryd.prog laidT w) (fun _ _ _ hh h => h.of_heap hh) own started (by kernel_rfl) Tryd.func8
    (ChangeSpec.witness_shaped (enc := enc) (C := Tryd.checked) (os := os) (X := fun w _ => laidMetH Tryd.prog laidT w) false (World.doorLaid Tryd.prog 400 os) #[.int .i64 0, .slice none 0 0, .slice none 0 0] 8 rfl (World.shaped_of_RefB (by kernel_rfl) (by kernel_rfl)) (by kernel_rfl) (by kernel_rfl) (by kernel_rfl) (door_met os _)) ?_
  intro W base args ds gs before hval0 hW hcnd hsz0 hLaid _
  have hTab : Tab W := tab_of_laid hLaid
  have hsz : (DataW.weightsEach Tryd.prog (Tryd.f8.params.toList ++ Rows.slotsPlaysSpec.plain.varTypes Tryd.prog) (ds ++ gs)).all (· ≤ reachBytes) = true := hsz0
  have hval : ∀ (j : Nat) t v, Tryd.f8.params[j]? = some t → args[j]? = some v → Value.okWide Tryd.prog W .any base t v := hval0
  have hW' := hW
  obtain ⟨p, q, hA0, hV, rfl, hfz, hnd⟩ := hW
  have hA : DataW.TrodAll enc Tryd.prog W 0 (fun _ => true) true Tryd.f8.params.toList args.toList ds p := hA0
  rw [Tryd.params8] at hA hval hsz
  obtain ⟨v0, vs0, d0, ds0, p0, q0, hargs, rfl, rfl, h0, r0⟩ := trodAll_cons hA
  obtain ⟨v1, vs1, d1, ds1, p1, q1, rfl, rfl, rfl, h1, r1⟩ := trodAll_cons r0
  obtain ⟨v2, vs2, d2, ds2, p2, q2, rfl, rfl, rfl, h2, r2⟩ := trodAll_cons r1
  obtain ⟨rfl, rfl, rfl⟩ := trodAll_nil r2
  obtain rfl : args = #[v0, v1, v2] := by cases args; simp_all
  obtain ⟨rfl, rfl⟩ := trodVars_none hV
  have k0 := h0
  have lt0 : ∀ x ∈ p0, x.block < W.heap.size := by
    obtain ⟨m, hm⟩ := k0
    exact DataW.trod_lt m _ _ _ hm
  have ok0 := hval 0 3 v0 rfl rfl
  have k1 := h1
  have lt1 : ∀ x ∈ p1, x.block < W.heap.size := by
    obtain ⟨m, hm⟩ := k1
    exact DataW.trod_lt m _ _ _ hm
  have ok1 := hval 1 35 v1 rfl rfl
  have k2 := h2
  have lt2 : ∀ x ∈ p2, x.block < W.heap.size := by
    obtain ⟨m, hm⟩ := k2
    exact DataW.trod_lt m _ _ _ hm
  have ok2 := hval 2 60 v2 rfl rfl
  obtain ⟨m, rfl, _, _, w0⟩ := open_int Tryd.underlying3 ok0 h0
  have hm : -9223372036854775808 ≤ m ∧ m ≤ 9223372036854775807 := by
    simp [Lit.wf, IntKind.min, IntKind.max, IntKind.signed, IntKind.bits] at w0
    omega
  obtain ⟨a1, len1, cap1, rfl⟩ := okWide_slice Tryd.underlying35 ok1
  obtain ⟨l, rfl, hl, hA1'⟩ := open_boolsRd Tryd.underlying35 Tryd.underlying4 (by kernel_rfl) k1
  obtain ⟨a2, len2, cap2, rfl⟩ := okWide_slice Tryd.underlying60 ok2
  obtain ⟨L, rfl, hL, hA2'⟩ := open_deeds k2
  have walk : Calls Tryd.prog 8 #[.int .i64 m, .slice a1 l.length cap1, .slice a2 L.length cap2] W fun e w' => e = .returned (.bool true) ∧ Below W.heap.size W w' := by
    have hl' : l.length ≤ 9223372036854775807 := by simp [maxLen] at hl; omega
    have hL' : L.length ≤ 9223372036854775807 := by simp [maxLen] at hL; omega
    rcases Nat.lt_or_ge 3000 l.length with h5 | h5
    · exact plays9_great W hTab m a1 a2 l.length cap1 cap2 hA2' hL' hl' (.inl h5)
    · cases hg : greatD L
      · exact plays9_any hTab m hm hA1' h5 hA2' hg
      · exact plays9_great W hTab m a1 a2 l.length cap1 cap2 hA2' hL' hl' (.inr ⟨h5, hg⟩)
  clear hA0 hval0 hsz0 hsz
  refine (walk).mono fun e W' ⟨he, bel⟩ => ?_
  subst he
  exact ⟨_, rfl, _, _, _, [], _, [], hW', trodAll_mk1 (shut_bool Tryd.underlying4 _), (trodAll_cons_mk (Below.trod laidOut (by kernel_rfl) (of_decide_eq_true (by kernel_rfl)) k0 bel lt0) (trodAll_cons_mk (Below.trod laidOut (by kernel_rfl) (of_decide_eq_true (by kernel_rfl)) k1 bel lt1) (trodAll_cons_mk (Below.trod laidOut (by kernel_rfl) (of_decide_eq_true (by kernel_rfl)) k2 bel lt2) trodAll_mk0))), rfl, bel.frame _, fun h => by cases h⟩
theorem over : Rows.slotsPlaysRow.holds Tryd.pinned (OpenSpec.ofChange Rows.slotsPlaysSpec) :=
  OpenClaim.holds_of_wide 8 Tryd.f8 rfl rfl rfl rfl rfl rfl rfl ⟨rfl, rfl, rfl, rfl, rfl⟩ rfl rfl rfl rfl rfl (by kernel_rfl) Tryd.func8 (by kernel_rfl)
    (of_decide_eq_true (by kernel_rfl)) (by unfold Func.isWrapper; first | (rw [if_pos (by decide +kernel)]; kernel_rfl) | (rw [if_neg (by decide +kernel)]; exact ⟨rfl, rfl⟩))
    (fun os started H enc _ => lifted os started H enc)
end Go.Proofs.YtcbfaahnhdmagaaDoor.slotsPlays
namespace Go.Proofs.YtcbfaahnhdmagaaDoor
theorem slotsPlays_holds : Rows.SlotsPlaysCardSaid :=
  Claim7.holds_tied_plain_at .later [] [.data] true (true, "9a95fd9d0b0e536577e1df5e301c442cdf402af3c982a1ccd358cd69f227f455") false
    slotsPlays.over (fun _ h => by cases h) (by kernel_rfl) (fun _ h => by cases h) slotsPlays_row_tie rfl ⟨rfl, rfl⟩ (by kernel_rfl) rfl
    (fun f fn hf hfn => by
      obtain rfl : f = 8 := Option.some.inj ((show Tryd.prog.funcNamed "gunny/gunnylaw09.SlotsPlays" = some 8 by kernel_rfl).symm.trans hf) |>.symm
      obtain rfl : fn = Tryd.f8 := (Option.some.inj (Tryd.func8.symm.trans hfn)).symm
      exact ⟨by kernel_rfl, fun j t ht => by
        rw [Tryd.params8] at ht
        have hm : t ∈ [3, 35, 60] := by simpa using Array.mem_of_getElem? ht
        have hall : ([3, 35, 60].all fun u => !Tryd.prog.wantsStandIn u) = true := by kernel_rfl
        exact (show Tryd.prog.wantsStandIn t = false by simpa using List.all_eq_true.1 hall t hm)⟩)
    (by kernel_rfl)
#print axioms slotsPlays_holds
end Go.Proofs.YtcbfaahnhdmagaaDoor

