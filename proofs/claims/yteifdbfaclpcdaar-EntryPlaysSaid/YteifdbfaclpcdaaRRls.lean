/- How a slice of slices of ints is opened. -/
import Derived.Test.YteifdbfaclpcdaaREntH
import Derived.Test.YteifdbfaclpcdaaRRwCnt
namespace Go.Proofs.YteifdbfaclpcdaaR
open Go.ChangeShapes Go.WideShapes Go.ChangeAt Go.RowKit

section
variable {H : Type} {enc : TypeId × Value → H} {W : World} {base : Nat} {held : Bool}
theorem open_lss {a : Option Addr} {len cap : Nat} {d : DataW H} {ps : List MemPlace} (h : DataW.Trod enc Try.prog W base (fun _ => true) held 51 (.slice a len cap) d ps) :
    ∃ L : List Ls, len = L.length ∧ L.length ≤ maxLen ∧ (∀ d ∈ L, d.ks.length ≤ maxLen ∧ ∀ z ∈ d.ks, (Lit.int .i64 z).wf = true) ∧ LsAt W W.heap.size a L := by
  obtain ⟨fuel, hf⟩ := h
  rcases Deep.open_slice Try.underlying51 hf with ⟨hcs, _⟩ | ⟨ad, len', cap', m, n, D, Pl, hcs, _, hl, hm, hmm, _, hx⟩
  · simp [Value.cells] at hcs
    obtain ⟨rfl, rfl, rfl⟩ := hcs
    exact ⟨[], rfl, by simp, by simp, fun i d hd => by simp at hd⟩
  · simp [Value.cells] at hcs
    obtain ⟨rfl, rfl, rfl⟩ := hcs
    simp only [if_true] at hmm
    subst hmm
    obtain ⟨F, hF⟩ := Deep.choose_lt (α := Ls) (p := fun i d => (d.ks.length ≤ maxLen ∧ ∀ z ∈ d.ks, (Lit.int .i64 z).wf = true) ∧ RdI W W.heap.size d.A d.ks ∧ W.cell? ((ad.add (i * 1)).add 0) = some (.slice d.A d.ks.length d.c)) (fun i hi => by
      obtain ⟨cs', h1, h2⟩ := hx i hi
      obtain ⟨A, c, l, rfl, h3, h4, h5⟩ := open_intsCs Try.underlying23 Try.underlying3 (by kernel_rfl) h2
      refine ⟨⟨A, c, l⟩, ⟨h3, h4⟩, h5, ?_⟩
      obtain ⟨_, hlen, hc⟩ := World.cells?_some h1
      rw [show Try.prog.cellsOf 23 = 1 by kernel_rfl] at hc
      exact hc 0 (by simp))
    refine ⟨(List.range len).map F, by simp, by simp; omega, fun d hd => ?_, fun i d hd => ?_⟩
    · obtain ⟨i, hi, rfl⟩ := List.mem_map.1 hd
      exact (hF i (by have := List.mem_range.1 hi; omega)).1
    · have hi : i < len := by have := (List.getElem?_eq_some_iff.1 hd).1; simpa using this
      simp [hi] at hd
      subst hd
      obtain ⟨_, h4, hc⟩ := hF i (by omega)
      obtain ⟨b, o, s⟩ := ad
      have hs : s = none := by simpa [Addr.add] using World.cell?_spot (hF 0 (by omega)).2.2
      subst hs
      rw [Deep.add_add, add_off] at hc
      have hc2 : W.cell? ⟨b, o + i, none⟩ = some (.slice (F i).A (F i).ks.length (F i).c) := by simpa using hc
      exact ⟨b, o, rfl, World.block_lt_of_cell? _ _ hc2, hc2, h4⟩
end
end Go.Proofs.YteifdbfaclpcdaaR
