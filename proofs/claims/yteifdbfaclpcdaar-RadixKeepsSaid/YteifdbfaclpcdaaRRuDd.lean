/- Deeds of a tree: how they read; how a row's are opened. -/
import Derived.Test.YteifdbfaclpcdaaRRuK
import Derived.ProofKit
import Derived.OpenShut
import Derived.Lib.SmallJoins
import Derived.Deep.Strs
namespace Go.Proofs.YteifdbfaclpcdaaR.Ru
open Go.ChangeShapes Go.WideShapes Go.ChangeAt Go.RowKit

structure Dd where
  kind : Int
  key : Int
  v : Int
theorem off_p (g o k : Nat) : ((⟨g, o, none⟩ : Addr).add k) = ⟨g, o + k, none⟩ := by unfold Addr.add; split <;> simp_all
/-- Deeds, side by side. -/
def DdsAt (w : World) (B : Nat) (A : Option Addr) (L : List Dd) : Prop :=
  ∀ i d, L[i]? = some d → ∃ b o, A = some ⟨b, o, none⟩ ∧ b < B ∧ w.cell? ⟨b, o + i * 3, none⟩ = some (.int .i64 d.kind) ∧ w.cell? ⟨b, o + i * 3 + 1, none⟩ = some (.int .i64 d.key) ∧ w.cell? ⟨b, o + i * 3 + 2, none⟩ = some (.int .u64 d.v)
theorem DdsAt.below {w w' : World} {B : Nat} {A : Option Addr} {L : List Dd} (h : DdsAt w B A L) (hb : Below B w w') : DdsAt w' B A L := fun i d hd => by
  obtain ⟨b, o, e, hB, h0, h1, h2⟩ := h i d hd
  exact ⟨b, o, e, hB, (hb.cell (p := ⟨b, _, none⟩) hB).trans h0, (hb.cell (p := ⟨b, _, none⟩) hB).trans h1, (hb.cell (p := ⟨b, _, none⟩) hB).trans h2⟩
section
variable {H : Type} {enc : TypeId × Value → H} {W : World} {base : Nat} {held : Bool}
theorem three_of {α : Type} {l : List α} (h : l.length = 3) : ∃ a b c, l = [a, b, c] := by
  match l, h with
  | [a, b, c], _ => exact ⟨a, b, c, rfl⟩
theorem open_deed {fuel : Nat} {cs : List Value} {x : DataW H × List MemPlace} (h : DataW.trod enc Try.prog W base (fun _ => true) held fuel 74 cs = some x) :
    ∃ d : Dd, cs = [.int .i64 d.kind, .int .i64 d.key, .int .u64 d.v] := by
  obtain ⟨y0, y1, y2, n, _, hlen, h0, h1, h2⟩ := Deep.trod_struct3 Try.underlying74 h
  have hlen2 : cs.length = 3 := hlen.trans (by kernel_rfl)
  clear hlen h
  obtain ⟨z, hz, _, hw⟩ := DataW.trod_int Try.underlying3 h0
  obtain ⟨z2, hz2, _, hw2⟩ := DataW.trod_int Try.underlying3 h1
  obtain ⟨z3, hz3, _, hw3⟩ := DataW.trod_int Try.underlying40 h2
  rw [show Try.prog.cellsOf 3 = 1 by kernel_rfl] at hz hz2
  rw [show Try.prog.cellsOf 40 = 1 by kernel_rfl] at hz3
  obtain ⟨v0, v1, v2, rfl⟩ := three_of hlen2
  have e0 : [v0] = [.int .i64 z] := hz
  have e1 : [v1] = [.int .i64 z2] := hz2
  have e2 : [v2] = [.int .u64 z3] := hz3
  injection e0 with e0
  injection e1 with e1
  injection e2 with e2
  exact ⟨⟨z, z2, z3⟩, by rw [e0, e1, e2]⟩
/-- A slice of deeds, as a list. -/
theorem open_deeds {a : Option Addr} {len cap : Nat} {d : DataW H} {ps : List MemPlace} (h : DataW.Trod enc Try.prog W base (fun _ => true) held 70 (.slice a len cap) d ps) :
    ∃ L : List Dd, len = L.length ∧ L.length ≤ maxLen ∧ DdsAt W W.heap.size a L := by
  obtain ⟨fuel, hf⟩ := h
  rcases Deep.open_slice Try.underlying70 hf with ⟨hcs, _⟩ | ⟨ad, len', cap', m, n, D, Pl, hcs, _, hl, hm, hmm, _, hx⟩
  · simp [Value.cells] at hcs
    obtain ⟨rfl, rfl, rfl⟩ := hcs
    exact ⟨[], rfl, by simp, fun i d hd => by simp at hd⟩
  · simp [Value.cells] at hcs
    obtain ⟨rfl, rfl, rfl⟩ := hcs
    simp only [if_true] at hmm
    subst hmm
    have hin : Inhabited Dd := ⟨⟨0, 0, 0⟩⟩
    obtain ⟨F, hF⟩ := Deep.choose_lt (α := Dd) (p := fun i d => ∀ j v, [Value.int .i64 d.kind, .int .i64 d.key, .int .u64 d.v][j]? = some v → W.cell? ((ad.add (i * 3)).add j) = some v) (fun i hi => by
      obtain ⟨cs', h1, h2⟩ := hx i hi
      obtain ⟨d, rfl⟩ := open_deed h2
      refine ⟨d, fun j v hj => ?_⟩
      obtain ⟨_, hlen, hc⟩ := World.cells?_some h1
      rw [show Try.prog.cellsOf 74 = 3 by kernel_rfl] at hc
      rw [hc j (by have := (List.getElem?_eq_some_iff.1 hj).1; simpa using this), hj])
    refine ⟨(List.range len).map F, by simp, by simp; omega, fun i d hd => ?_⟩
    have hi : i < len := by have := (List.getElem?_eq_some_iff.1 hd).1; simpa using this
    simp [hi] at hd
    subst hd
    have hc := hF i (by omega)
    obtain ⟨b, o, s⟩ := ad
    have c0 := hc 0 _ rfl
    have c1 := hc 1 _ rfl
    have c2 := hc 2 _ rfl
    have hs : s = none := by simpa [Addr.add] using World.cell?_spot (hF 0 (by omega) 0 _ rfl)
    subst hs
    rw [Deep.add_add, off_p] at c0 c1 c2
    exact ⟨b, o, rfl, World.block_lt_of_cell? _ _ c0, c0, c1, c2⟩
set_option maxRecDepth 100000 in
/-- A deed by value. -/
theorem open_deed1 {r : Reach} {b0 : Nat} {v : Value} {d : DataW H} {p : List MemPlace} (hv : Value.okWide Try.prog W r b0 74 v) (h : DataW.Trod enc Try.prog W base (fun _ => true) held 74 v d p) :
    ∃ e : Dd, v = .agg #[.int .i64 e.kind, .int .i64 e.key, .int .u64 e.v] := by
  obtain ⟨v0, v1, v2, y0, y1, y2, n, rfl, _, _, h0, h1, h2⟩ := Joins.open_agg3 Try.underlying74 (by kernel_rfl) (by kernel_rfl) hv h
  obtain ⟨z, hz, _, hw⟩ := DataW.trod_int Try.underlying3 h0
  obtain ⟨z2, hz2, _, hw2⟩ := DataW.trod_int Try.underlying3 h1
  obtain ⟨z3, hz3, _, hw3⟩ := DataW.trod_int Try.underlying40 h2
  injection hz with hz
  injection hz2 with hz2
  injection hz3 with hz3
  exact ⟨⟨z, z2, z3⟩, by rw [hz, hz2, hz3]⟩
end
end Go.Proofs.YteifdbfaclpcdaaR.Ru
