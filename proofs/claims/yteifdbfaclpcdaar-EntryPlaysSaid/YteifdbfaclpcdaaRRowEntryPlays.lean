/- EntryPlays returns true for every number of Takes, lists of lists of numbers, and number, and leaves them as they were. No condition. -/
import Derived.Test.YteifdbfaclpcdaaRRows
import Derived.Test.YteifdbfaclpcdaaREntI
import Derived.Test.YteifdbfaclpcdaaRRls
import Derived.Test.YteifdbfaclpcdaaRRi
import Derived.WalkKit
import Derived.ProofKit
import Derived.OpenShut
import Derived.ShutString
import Derived.ChangeOld
import Derived.Below
import Derived.SizedLaws
namespace Go.Proofs.YteifdbfaclpcdaaR.entryPlays
open Go.ChangeShapes Go.WideShapes Go.ChangeAt Go.RowKit
open Go.ChangeMaps (open_string shut_string)
theorem own : ownKnob Try.prog.godebug = none := by kernel_rfl
theorem laidOut : laidOutB Try.prog = true := by kernel_rfl
set_option maxRecDepth 100000 in
theorem lifted (os : Os) (started : os.Started) (H : Type) (enc : TypeId × Value → H) :
    ReturnsInHanded {} Try.checked os 7 .any (Rows.entryPlaysSpec.pre6 enc Try.prog Try.f7 Rows.entryPlaysRow.domain false) (Rows.entryPlaysSpec.post enc Try.prog Try.f7 false true false false) := by
  refine returnsInHanded_of_change_sized (C := Try.checked) own started (by kernel_rfl) Try.func7
    (ChangeSpec.witness6 (enc := enc) (C := Try.checked) false ⟨#[], #[.int .u16 0, .slice none 0 0, .int .i64 0], []⟩ 8 (by kernel_rfl) (by kernel_rfl) (by kernel_rfl) (by kernel_rfl)) ?_
  intro W base args ds gs before hval0 hW hcnd hsz0 _
  have hsz : (DataW.weightsEach Try.prog (Try.f7.params.toList ++ Rows.entryPlaysSpec.plain.varTypes Try.prog) (ds ++ gs)).all (· ≤ reachBytes) = true := hsz0
  have hval : ∀ (j : Nat) t v, Try.f7.params[j]? = some t → args[j]? = some v → Value.okWide Try.prog W .any base t v := hval0
  have hW' := hW
  obtain ⟨p, q, hA0, hV, rfl, hfz, hnd⟩ := hW
  have hA : DataW.TrodAll enc Try.prog W 0 (fun _ => true) true Try.f7.params.toList args.toList ds p := hA0
  rw [Try.params7] at hA hval hsz
  obtain ⟨v0, vs0, d0, ds0, p0, q0, hargs, rfl, rfl, h0, r0⟩ := trodAll_cons hA
  obtain ⟨v1, vs1, d1, ds1, p1, q1, rfl, rfl, rfl, h1, r1⟩ := trodAll_cons r0
  obtain ⟨v2, vs2, d2, ds2, p2, q2, rfl, rfl, rfl, h2, r2⟩ := trodAll_cons r1
  obtain ⟨rfl, rfl, rfl⟩ := trodAll_nil r2
  obtain rfl : args = #[v0, v1, v2] := by cases args; simp_all
  obtain ⟨rfl, rfl⟩ := trodVars_none hV
  have k0 := h0
  have lt0 : ∀ x ∈ p0, x.block < W.heap.size := by
    obtain ⟨m, hm⟩ := k0
    exact DataW.trod_lt m _ _ _ hm
  have ok0 := hval 0 50 v0 rfl rfl
  have k1 := h1
  have lt1 : ∀ x ∈ p1, x.block < W.heap.size := by
    obtain ⟨m, hm⟩ := k1
    exact DataW.trod_lt m _ _ _ hm
  have ok1 := hval 1 51 v1 rfl rfl
  have k2 := h2
  have lt2 : ∀ x ∈ p2, x.block < W.heap.size := by
    obtain ⟨m, hm⟩ := k2
    exact DataW.trod_lt m _ _ _ hm
  have ok2 := hval 2 3 v2 rfl rfl
  obtain ⟨z0, rfl, rfl, rfl, hz0⟩ := open_int Try.underlying50 ok0 h0
  have hu0 := wf_u16 hz0
  obtain ⟨M, rfl⟩ : ∃ M : Nat, z0 = M := ⟨z0.toNat, by omega⟩
  obtain ⟨a1, len1, cap1, rfl⟩ := okWide_slice Try.underlying51 ok1
  obtain ⟨L, rfl, hl, hw, hLs⟩ := open_lss k1
  obtain ⟨kk, rfl, rfl, rfl, hz2⟩ := open_int Try.underlying3 ok2 h2
  have hkk : kk ≤ 9223372036854775807 := (wf_i64 hz2).2
  have hwz : ∀ d ∈ L, ∀ z ∈ d.ks, z ≤ 9223372036854775807 := fun d hd z hz => (wf_i64 ((hw d hd).2 z hz)).2
  have hwl : ∀ d ∈ L, d.ks.length ≤ 9223372036854775807 := fun d hd => by have := (hw d hd).1; simp [maxLen] at this; omega
  have walk : Calls Try.prog 7 #[.int .u16 M, .slice a1 L.length cap1, .int .i64 kk] W fun e w' => e = .returned (.bool true) ∧ Below W.heap.size W w' := by
    rcases Nat.lt_or_ge 60 L.length with h5 | h5
    · exact eplays_great W _ _ a1 cap1 L.length h5 (by simp [maxLen] at hl; omega)
    · exact eplays_any W M (by omega) a1 cap1 L hLs h5 hwz hwl kk hkk
  clear hA0 hval0 hsz0 hsz
  refine (walk).mono fun e W' ⟨he, bel⟩ => ?_
  subst he
  exact ⟨_, rfl, _, _, _, [], _, [], hW', trodAll_mk1 (shut_bool Try.underlying4 _), (trodAll_cons_mk (Below.trod laidOut (by kernel_rfl) (of_decide_eq_true (by kernel_rfl)) k0 bel lt0) (trodAll_cons_mk (Below.trod laidOut (by kernel_rfl) (of_decide_eq_true (by kernel_rfl)) k1 bel lt1) (trodAll_cons_mk (Below.trod laidOut (by kernel_rfl) (of_decide_eq_true (by kernel_rfl)) k2 bel lt2) trodAll_mk0))), rfl, bel.frame _, fun h => by cases h⟩
theorem over : Rows.entryPlaysRow.holds Try.pinned (OpenSpec.ofChange Rows.entryPlaysSpec) :=
  OpenClaim.holds_of_wide 7 Try.f7 rfl rfl rfl rfl rfl rfl rfl ⟨rfl, rfl, rfl, rfl, rfl⟩ rfl rfl rfl rfl rfl (by kernel_rfl) Try.func7 (by kernel_rfl)
    (of_decide_eq_true (by kernel_rfl)) (by unfold Func.isWrapper; first | (rw [if_pos (by decide +kernel)]; kernel_rfl) | (rw [if_neg (by decide +kernel)]; exact ⟨rfl, rfl⟩))
    (fun os started H enc _ => lifted os started H enc)
end Go.Proofs.YteifdbfaclpcdaaR.entryPlays
namespace Go.Proofs.YteifdbfaclpcdaaR
theorem entryPlays_holds : Rows.EntryPlaysSaid := entryPlays.over
#print axioms entryPlays_holds
end Go.Proofs.YteifdbfaclpcdaaR

