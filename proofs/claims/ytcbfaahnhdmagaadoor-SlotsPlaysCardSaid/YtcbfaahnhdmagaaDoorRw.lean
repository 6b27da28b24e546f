/- How the arguments of a row are opened: slices of bools, as lists. -/
import Derived.Test.YtcbfaahnhdmagaaDoorGy
import Derived.ProofKit
import Derived.SizedLaws
import Derived.Deep.Grids
namespace Go.Proofs.YtcbfaahnhdmagaaDoor
open Go.ChangeShapes Go.WideShapes Go.ChangeAt Go.RowKit

section
variable {H : Type} {enc : TypeId × Value → H} {P : Program} {W : World} {base : Nat} {held : Bool}

theorem lt_of_cell {ad : Addr} {v : Value} (h : W.cell? ad = some v) : ad.block < W.heap.size := World.block_lt_of_cell? _ _ h

/-- A slice of bools, as a list. -/
theorem open_boolsRd {t e : TypeId} {a : Option Addr} {len cap : Nat} {d : DataW H} {ps : List MemPlace} (hu : P.underlying t = some (.slice e)) (he : P.underlying e = some .bool) (hc : P.cellsOf e = 1)
    (h : DataW.Trod enc P W base (fun _ => true) held t (.slice a len cap) d ps) : ∃ l : List Bool, len = l.length ∧ l.length ≤ maxLen ∧ Rd W W.heap.size a (l.map Value.bool) := by
  obtain ⟨fuel, hf⟩ := h
  rcases Deep.open_bools hu he hc hf with ⟨hcs, _⟩ | ⟨ad, len', cap', B, hcs, _, hl, hm, _, hcell⟩
  · simp [Value.cells] at hcs
    obtain ⟨rfl, rfl, rfl⟩ := hcs
    exact ⟨[], rfl, by simp, Rd.nil _ _ _⟩
  · simp [Value.cells] at hcs
    obtain ⟨rfl, rfl, rfl⟩ := hcs
    refine ⟨(List.range len).map B, by simp, by simp; omega, fun k u hu => ?_⟩
    rw [List.map_map] at hu
    have hk : k < len := by have := (List.getElem?_eq_some_iff.1 hu).1; simpa using this
    simp [hk] at hu
    subst hu
    have hk2 := hcell k (by omega)
    exact ⟨ad, rfl, by rw [← block_add ad k]; exact lt_of_cell hk2, hk2⟩

end
end Go.Proofs.YtcbfaahnhdmagaaDoor
