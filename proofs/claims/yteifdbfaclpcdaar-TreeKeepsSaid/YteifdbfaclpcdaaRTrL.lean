/- TreeKeeps: deeds; a tree whose numbers are taken one by one; its records, copied. -/
import Derived.Test.YteifdbfaclpcdaaRTrJ
import Derived.Test.YteifdbfaclpcdaaRTrK
namespace Go.Proofs.YteifdbfaclpcdaaR.Rr
open Go.ChangeShapes Go.WideShapes Go.ChangeAt Go.RowKit

structure De where
  kind : Int
  n : Int
  r : Rec
theorem off_p (g o k : Nat) : ((⟨g, o, none⟩ : Addr).add k) = ⟨g, o + k, none⟩ := by unfold Addr.add; split <;> simp_all
def De.cs (d : De) : List Value := [.int .i64 d.kind, .int .i64 d.n, .int .i64 d.r.a, .int .i64 d.r.b, .int .i64 d.r.c, .int .u64 d.r.d]
/-- Deeds, side by side. -/
def DesAt (w : World) (B : Nat) (A : Option Addr) (L : List De) : Prop :=
  ∀ i d, L[i]? = some d → ∃ b o, A = some ⟨b, o, none⟩ ∧ b < B ∧ ∀ j v, d.cs[j]? = some v → w.cell? ⟨b, o + i * 6 + j, none⟩ = some v
theorem DesAt.below {w w' : World} {B : Nat} {A : Option Addr} {L : List De} (h : DesAt w B A L) (hb : Below B w w') : DesAt w' B A L := fun i d hd => by
  obtain ⟨b, o, e, hB, h0⟩ := h i d hd
  exact ⟨b, o, e, hB, fun j v hj => (hb.cell (p := ⟨b, _, none⟩) hB).trans (h0 j v hj)⟩
section
variable {H : Type} {enc : TypeId × Value → H} {W : World} {base : Nat} {held : Bool}
theorem six_of {α : Type} {l : List α} (h : l.length = 6) : ∃ a b c d e f, l = [a, b, c, d, e, f] := by
  match l, h with
  | [a, b, c, d, e, f], _ => exact ⟨a, b, c, d, e, f, rfl⟩
set_option maxRecDepth 100000 in
theorem open_de {fuel : Nat} {cs : List Value} {x : DataW H × List MemPlace} (h : DataW.trod enc Try.prog W base (fun _ => true) held fuel 94 cs = some x) :
    ∃ d : De, cs = d.cs := by
  obtain ⟨y0, y1, y2, n, _, hlen, h0, h1, h2⟩ := Deep.trod_struct3 Try.underlying94 h
  have hlen2 : cs.length = 6 := hlen.trans (by kernel_rfl)
  clear hlen h
  obtain ⟨z, hz, _, hw⟩ := DataW.trod_int Try.underlying3 h0
  obtain ⟨z2, hz2, _, hw2⟩ := DataW.trod_int Try.underlying3 h1
  obtain ⟨q0, q1, q2, q3, m, _, _, k0, k1, k2, k3⟩ := Joins.trod_struct4 Try.underlying83 h2
  obtain ⟨z3, hz3, _, hw3⟩ := DataW.trod_int Try.underlying3 k0
  obtain ⟨z4, hz4, _, hw4⟩ := DataW.trod_int Try.underlying3 k1
  obtain ⟨z5, hz5, _, hw5⟩ := DataW.trod_int Try.underlying3 k2
  obtain ⟨z6, hz6, _, hw6⟩ := DataW.trod_int Try.underlying40 k3
  rw [show Try.prog.cellsOf 3 = 1 by kernel_rfl] at hz hz2 hz3 hz4 hz5
  rw [show Try.prog.cellsOf 40 = 1 by kernel_rfl] at hz6
  rw [show Try.prog.cellsOf 83 = 4 by kernel_rfl] at hz3 hz4 hz5 hz6
  obtain ⟨v0, v1, v2, v3, v4, v5, rfl⟩ := six_of hlen2
  have e0 : [v0] = [.int .i64 z] := hz
  have e1 : [v1] = [.int .i64 z2] := hz2
  have e2 : [v2] = [.int .i64 z3] := hz3
  have e3 : [v3] = [.int .i64 z4] := hz4
  have e4 : [v4] = [.int .i64 z5] := hz5
  have e5 : [v5] = [.int .u64 z6] := hz6
  injection e0 with e0
  injection e1 with e1
  injection e2 with e2
  injection e3 with e3
  injection e4 with e4
  injection e5 with e5
  exact ⟨⟨z, z2, ⟨z3, z4, z5, z6⟩⟩, by rw [e0, e1, e2, e3, e4, e5]; rfl⟩
/-- A slice of deeds, as a list. -/
theorem open_des {a : Option Addr} {len cap : Nat} {d : DataW H} {ps : List MemPlace} (h : DataW.Trod enc Try.prog W base (fun _ => true) held 92 (.slice a len cap) d ps) :
    ∃ L : List De, len = L.length ∧ L.length ≤ maxLen ∧ DesAt W W.heap.size a L := by
  obtain ⟨fuel, hf⟩ := h
  rcases Deep.open_slice Try.underlying92 hf with ⟨hcs, _⟩ | ⟨ad, len', cap', m, n, D, Pl, hcs, _, hl, hm, hmm, _, hx⟩
  · simp [Value.cells] at hcs
    obtain ⟨rfl, rfl, rfl⟩ := hcs
    exact ⟨[], rfl, by simp, fun i d hd => by simp at hd⟩
  · simp [Value.cells] at hcs
    obtain ⟨rfl, rfl, rfl⟩ := hcs
    simp only [if_true] at hmm
    subst hmm
    have hin : Inhabited De := ⟨⟨0, 0, ⟨0, 0, 0, 0⟩⟩⟩
    obtain ⟨F, hF⟩ := Deep.choose_lt (α := De) (p := fun i d => ∀ j v, d.cs[j]? = some v → W.cell? ((ad.add (i * 6)).add j) = some v) (fun i hi => by
      obtain ⟨cs', h1, h2⟩ := hx i hi
      obtain ⟨d, rfl⟩ := open_de h2
      refine ⟨d, fun j v hj => ?_⟩
      obtain ⟨_, hlen, hc⟩ := World.cells?_some h1
      rw [show Try.prog.cellsOf 94 = 6 by kernel_rfl] at hc
      rw [hc j (by have := (List.getElem?_eq_some_iff.1 hj).1; simpa [De.cs] using this), hj])
    refine ⟨(List.range len).map F, by simp, by simp; omega, fun i d hd => ?_⟩
    have hi : i < len := by have := (List.getElem?_eq_some_iff.1 hd).1; simpa using this
    simp [hi] at hd
    subst hd
    have hc := hF i (by omega)
    obtain ⟨b, o, s⟩ := ad
    have hs : s = none := by simpa [Addr.add] using World.cell?_spot (hF 0 (by omega) 0 _ rfl)
    subst hs
    have hc2 : ∀ j v, (F i).cs[j]? = some v → W.cell? ⟨b, o + i * 6 + j, none⟩ = some v := fun j v hj => by
      have := hc j v hj
      rwa [Deep.add_add, off_p, ← Nat.add_assoc] at this
    exact ⟨b, o, rfl, World.block_lt_of_cell? _ _ (hc2 0 _ rfl), hc2⟩
set_option maxRecDepth 100000 in
/-- A deed by value. -/
theorem open_de1 {r : Reach} {b0 : Nat} {v : Value} {d : DataW H} {p : List MemPlace} (hv : Value.okWide Try.prog W r b0 94 v) (h : DataW.Trod enc Try.prog W base (fun _ => true) held 94 v d p) :
    ∃ e : De, v = .agg #[.int .i64 e.kind, .int .i64 e.n, .int .i64 e.r.a, .int .i64 e.r.b, .int .i64 e.r.c, .int .u64 e.r.d] := by
  obtain ⟨cs, rfl, hsz⟩ := okWide_struct Try.underlying94 hv
  obtain ⟨fuel, hf⟩ := h
  obtain ⟨e, he⟩ := open_de hf
  refine ⟨e, ?_⟩
  congr 1
  exact Array.ext' he
end
end Go.Proofs.YteifdbfaclpcdaaR.Rr
