/- How the arguments of a row are opened: slices of pieces. -/
import Derived.Test.YtckdellcnoojaaaRRRPagA
import Derived.Test.YtckdellcnoojaaaRRRRb
namespace Go.Proofs.YtckdellcnoojaaaRRR
open Go.ChangeShapes Go.WideShapes Go.ChangeAt Go.RowKit

theorem add_off (b o i : Nat) : (⟨b, o, none⟩ : Addr).add i = ⟨b, o + i, none⟩ := by
  unfold Addr.add
  split <;> simp_all
theorem two_of {α : Type} {l : List α} (h : l.length = 2) : ∃ a b, l = [a, b] := by
  match l, h with
  | [a, b], _ => exact ⟨a, b, rfl⟩
section
variable {H : Type} {enc : TypeId × Value → H} {W : World} {base : Nat} {held : Bool}
theorem open_piece {fuel : Nat} {cs : List Value} {x : DataW H × List MemPlace} (h : DataW.trod enc Try.prog W base (fun _ => true) held fuel 51 cs = some x) :
    ∃ d : Pc, cs = [.slice d.A d.b.length d.c, .int .u16 (d.many : Int)] ∧ RdY W W.heap.size d.A d.b ∧ d.many ≤ 65535 ∧ d.b.length ≤ 9223372036854775807 := by
  obtain ⟨y0, y1, n, _, hlen, h0, h1⟩ := trod_struct2 Try.underlying51 h
  have hlen2 : cs.length = 2 := hlen.trans (by kernel_rfl)
  clear hlen h
  obtain ⟨A, c, l, hcs, hl, _, _, hr⟩ := open_bytesCs h0
  obtain ⟨z, hz, _, hw⟩ := DataW.trod_int Try.underlying49 h1
  rw [show Try.prog.cellsOf 22 = 1 by kernel_rfl] at hcs
  rw [show Try.prog.cellsOf 49 = 1 by kernel_rfl] at hz
  obtain ⟨v0, v1, rfl⟩ := two_of hlen2
  have e0 : [v0] = [.slice A l.length c] := hcs
  have e1 : [v1] = [.int .u16 z] := hz
  injection e0 with e0
  injection e1 with e1
  obtain ⟨m, rfl, hm⟩ := wf_u16 hw
  exact ⟨⟨A, c, l, m⟩, by rw [e0, e1], hr, hm, by simp [maxLen] at hl; omega⟩
/-- A slice of pieces, as a list. -/
theorem open_pieces {a : Option Addr} {len cap : Nat} {d : DataW H} {ps : List MemPlace} (h : DataW.Trod enc Try.prog W base (fun _ => true) held 47 (.slice a len cap) d ps) :
    ∃ L : List Pc, len = L.length ∧ L.length ≤ maxLen ∧ PcsAt W W.heap.size a L ∧ ∀ d ∈ L, d.b.length ≤ 9223372036854775807 := by
  obtain ⟨fuel, hf⟩ := h
  rcases Deep.open_slice Try.underlying47 hf with ⟨hcs, _⟩ | ⟨ad, len', cap', m, n, D, Pl, hcs, _, hl, hm, hmm, _, hx⟩
  · simp [Value.cells] at hcs
    obtain ⟨rfl, rfl, rfl⟩ := hcs
    exact ⟨[], rfl, by simp, fun i d hd => by simp at hd, by simp⟩
  · simp [Value.cells] at hcs
    obtain ⟨rfl, rfl, rfl⟩ := hcs
    simp only [if_true] at hmm
    subst hmm
    obtain ⟨F, hF⟩ := Deep.choose_lt (α := Pc) (p := fun i d => RdY W W.heap.size d.A d.b ∧ d.many ≤ 65535 ∧ d.b.length ≤ 9223372036854775807 ∧ ∀ j v, [Value.slice d.A d.b.length d.c, .int .u16 (d.many : Int)][j]? = some v → W.cell? ((ad.add (i * 2)).add j) = some v) (fun i hi => by
      obtain ⟨cs', h1, h2⟩ := hx i hi
      obtain ⟨d, rfl, h3, h4, h5⟩ := open_piece h2
      refine ⟨d, h3, h4, h5, fun j v hj => ?_⟩
      obtain ⟨_, hlen, hc⟩ := World.cells?_some h1
      rw [show Try.prog.cellsOf 51 = 2 by kernel_rfl] at hc
      rw [hc j (by have := (List.getElem?_eq_some_iff.1 hj).1; simpa using this), hj])
    refine ⟨(List.range len).map F, by simp, by simp; omega, fun i d hd => ?_, fun d hd => ?_⟩
    · have hi : i < len := by have := (List.getElem?_eq_some_iff.1 hd).1; simpa using this
      simp [hi] at hd
      subst hd
      obtain ⟨h3, h4, _, hc⟩ := hF i (by omega)
      obtain ⟨b, o, s⟩ := ad
      have c0 := hc 0 _ rfl
      have c1 := hc 1 _ rfl
      have hs : s = none := by simpa [Addr.add] using World.cell?_spot ((hF 0 (by omega)).2.2.2 0 _ rfl)
      subst hs
      rw [Deep.add_add, add_off] at c0 c1
      exact ⟨b, o, rfl, World.block_lt_of_cell? _ _ c0, c0, c1, h3, h4⟩
    · obtain ⟨i, hi, rfl⟩ := List.mem_map.1 hd
      exact (hF i (by have := List.mem_range.1 hi; omega)).2.2.1
end
end Go.Proofs.YtckdellcnoojaaaRRR
