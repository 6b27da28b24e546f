/- DiskPlays returns true for every number of sectors, all choices and every list of deeds, and leaves them as they were. No condition. -/
import Derived.Test.YtcbfaahnhdmagaaRows
import Derived.Test.YtcbfaahnhdmagaaDskN
import Derived.Test.YtcbfaahnhdmagaaDskO
import Derived.Test.YtcbfaahnhdmagaaRdd
import Derived.Test.YtcbfaahnhdmagaaRw
import Derived.WalkKit
import Derived.ProofKit
import Derived.OpenShut
import Derived.ShutString
import Derived.ChangeOld
import Derived.Below
import Derived.SizedLaws
namespace Go.Proofs.Ytcbfaahnhdmagaa.diskPlays
open Go.ChangeShapes Go.WideShapes Go.ChangeAt Go.RowKit
open Go.ChangeMaps (open_string shut_string)
theorem own : ownKnob Try.prog.godebug = none := by kernel_rfl
theorem laidOut : laidOutB Try.prog = true := by kernel_rfl
set_option maxRecDepth 100000 in
theorem lifted (os : Os) (started : os.Started) (H : Type) (enc : TypeId × Value → H) :
    ReturnsInHanded {} Try.checked os 8 .any (Rows.diskPlaysSpec.pre6 enc Try.prog Try.f8 Rows.diskPlaysRow.domain false) (Rows.diskPlaysSpec.post enc Try.prog Try.f8 false true false false) := by
  refine returnsInHanded_of_change_sized (C := Try.checked) own started (by kernel_rfl) Try.func8
    (ChangeSpec.witness6 (enc := enc) (C := Try.checked) false ⟨#[], #[.int .i64 0, .slice none 0 0, .slice none 0 0], []⟩ 8 (by kernel_rfl) (by kernel_rfl) (by kernel_rfl) (by kernel_rfl)) ?_
  intro W base args ds gs before hval0 hW hcnd hsz0 _
  have hsz : (DataW.weightsEach Try.prog (Try.f8.params.toList ++ Rows.diskPlaysSpec.plain.varTypes Try.prog) (ds ++ gs)).all (· ≤ reachBytes) = true := hsz0
  have hval : ∀ (j : Nat) t v, Try.f8.params[j]? = some t → args[j]? = some v → Value.okWide Try.prog W .any base t v := hval0
  have hW' := hW
  obtain ⟨p, q, hA0, hV, rfl, hfz, hnd⟩ := hW
  have hA : DataW.TrodAll enc Try.prog W 0 (fun _ => true) true Try.f8.params.toList args.toList ds p := hA0
  rw [Try.params8] at hA hval hsz
  obtain ⟨v0, vs0, d0, ds0, p0, q0, hargs, rfl, rfl, h0, r0⟩ := trodAll_cons hA
  obtain ⟨v1, vs1, d1, ds1, p1, q1, rfl, rfl, rfl, h1, r1⟩ := trodAll_cons r0
  obtain ⟨v2, vs2, d2, ds2, p2, q2, rfl, rfl, rfl, h2, r2⟩ := trodAll_cons r1
  obtain ⟨rfl, rfl, rfl⟩ := trodAll_nil r2
  obtain rfl : args = #[v0, v1, v2] := by cases args; simp_all
  obtain ⟨rfl, rfl⟩ := trodVars_none hV
  have k0 := h0
  have lt0 : ∀ x ∈ p0, x.block < W.heap.size := by
    obtain ⟨m, hm⟩ := k0
    exact DataW.trod_lt m _ _ _ hm
  have ok0 := hval 0 3 v0 rfl rfl
  have k1 := h1
  have lt1 : ∀ x ∈ p1, x.block < W.heap.size := by
    obtain ⟨m, hm⟩ := k1
    exact DataW.trod_lt m _ _ _ hm
  have ok1 := hval 1 22 v1 rfl rfl
  have k2 := h2
  have lt2 : ∀ x ∈ p2, x.block < W.heap.size := by
    obtain ⟨m, hm⟩ := k2
    exact DataW.trod_lt m _ _ _ hm
  have ok2 := hval 2 31 v2 rfl rfl
  obtain ⟨x0, rfl, _, _, w0⟩ := open_int Try.underlying3 ok0 h0
  obtain ⟨a0, len0, cap0, rfl⟩ := okWide_slice Try.underlying22 ok1
  obtain ⟨l, rfl, hl, hA0'⟩ := open_boolsRd Try.underlying22 Try.underlying4 (by kernel_rfl) k1
  obtain ⟨a1, len1, cap1, rfl⟩ := okWide_slice Try.underlying31 ok2
  obtain ⟨L, rfl, hL, hA1'⟩ := open_deeds k2
  have walk : Calls Try.prog 8 #[.int .i64 x0, .slice a0 l.length cap0, .slice a1 L.length cap1] W fun e w' => e = .returned (.bool true) ∧ Below W.heap.size W w' := by
    have hl' : l.length ≤ 9223372036854775807 := by simp [maxLen] at hl; omega
    have hL' : L.length ≤ 9223372036854775807 := by simp [maxLen] at hL; omega
    rcases Nat.lt_or_ge 500 l.length with h5 | h5
    · exact plays_less x0 hA1' hL' hl' (.inl h5)
    · cases hg : greatD L
      · by_cases hx : 0 ≤ x0 ∧ x0 ≤ 1024
        · obtain ⟨m, rfl⟩ : ∃ m : Nat, x0 = m := ⟨x0.toNat, by omega⟩
          exact plays_any m (by omega) hA0' h5 hA1' hg
        · exact plays_less x0 hA1' hL' hl' (.inr (.inr ⟨h5, hg, by omega⟩))
      · exact plays_less x0 hA1' hL' hl' (.inr (.inl ⟨h5, hg⟩))
  clear hA0 hval0 hsz0 hsz
  refine (walk).mono fun e W' ⟨he, bel⟩ => ?_
  subst he
  exact ⟨_, rfl, _, _, _, [], _, [], hW', trodAll_mk1 (shut_bool Try.underlying4 _), (trodAll_cons_mk (Below.trod laidOut (by kernel_rfl) (of_decide_eq_true (by kernel_rfl)) k0 bel lt0) (trodAll_cons_mk (Below.trod laidOut (by kernel_rfl) (of_decide_eq_true (by kernel_rfl)) k1 bel lt1) (trodAll_cons_mk (Below.trod laidOut (by kernel_rfl) (of_decide_eq_true (by kernel_rfl)) k2 bel lt2) trodAll_mk0))), rfl, bel.frame _, fun h => by cases h⟩
theorem over : Rows.diskPlaysRow.holds Try.pinned (OpenSpec.ofChange Rows.diskPlaysSpec) :=
  OpenClaim.holds_of_wide 8 Try.f8 rfl rfl rfl rfl rfl rfl rfl ⟨rfl, rfl, rfl, rfl, rfl⟩ rfl rfl rfl rfl rfl (by kernel_rfl) Try.func8 (by kernel_rfl)
    (of_decide_eq_true (by kernel_rfl)) (by unfold Func.isWrapper; first | (rw [if_pos (by decide +kernel)]; kernel_rfl) | (rw [if_neg (by decide +kernel)]; exact ⟨rfl, rfl⟩))
    (fun os started H enc _ => lifted os started H enc)
end Go.Proofs.Ytcbfaahnhdmagaa.diskPlays
namespace Go.Proofs.Ytcbfaahnhdmagaa
theorem diskPlays_holds : Rows.DiskPlaysSaid := diskPlays.over
#print axioms diskPlays_holds
end Go.Proofs.Ytcbfaahnhdmagaa

