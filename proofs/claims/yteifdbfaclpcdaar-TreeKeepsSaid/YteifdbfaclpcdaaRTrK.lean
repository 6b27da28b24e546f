/- Records and deeds of a tree of records: how a row's are opened. -/
import Derived.Test.YteifdbfaclpcdaaRTrB
import Derived.ProofKit
import Derived.OpenShut
import Derived.Lib.SmallJoins
import Derived.Deep.Strs
namespace Go.Proofs.YteifdbfaclpcdaaR.Rr
open Go.ChangeShapes Go.WideShapes Go.ChangeAt Go.RowKit
section
variable {H : Type} {enc : TypeId × Value → H} {W : World} {base : Nat} {held : Bool}
set_option maxRecDepth 100000 in
/-- A record by value. -/
theorem open_rec {r : Reach} {b0 : Nat} {v : Value} {d : DataW H} {p : List MemPlace} (hv : Value.okWide Try.prog W r b0 83 v) (h : DataW.Trod enc Try.prog W base (fun _ => true) held 83 v d p) :
    ∃ e : Rec, v = .agg #[.int .i64 e.a, .int .i64 e.b, .int .i64 e.c, .int .u64 e.d] := by
  obtain ⟨v0, v1, v2, v3, y0, y1, y2, y3, n, rfl, _, _, h0, h1, h2, h3⟩ := Joins.open_agg4 Try.underlying83 (by kernel_rfl) (by kernel_rfl) hv h
  obtain ⟨z, hz, _, hw⟩ := DataW.trod_int Try.underlying3 h0
  obtain ⟨z2, hz2, _, hw2⟩ := DataW.trod_int Try.underlying3 h1
  obtain ⟨z3, hz3, _, hw3⟩ := DataW.trod_int Try.underlying3 h2
  obtain ⟨z4, hz4, _, hw4⟩ := DataW.trod_int Try.underlying40 h3
  injection hz with hz
  injection hz2 with hz2
  injection hz3 with hz3
  injection hz4 with hz4
  exact ⟨⟨z, z2, z3, z4⟩, by rw [hz, hz2, hz3, hz4]⟩
end
end Go.Proofs.YteifdbfaclpcdaaR.Rr
