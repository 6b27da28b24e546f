/- How the arguments of a row are opened: tokens, and slices of tokens. -/
import Derived.Test.YtckdellcnoojaaaRRRTokB
import Derived.Test.YtckdellcnoojaaaRRRRb
import Derived.Deep.Strs
namespace Go.Proofs.YtckdellcnoojaaaRRR
open Go.ChangeShapes Go.WideShapes Go.ChangeAt Go.RowKit

theorem add_off (b o i : Nat) : (⟨b, o, none⟩ : Addr).add i = ⟨b, o + i, none⟩ := by
  unfold Addr.add
  split <;> simp_all
theorem three_of {α : Type} {l : List α} (h : l.length = 3) : ∃ a b c, l = [a, b, c] := by
  match l, h with
  | [a, b, c], _ => exact ⟨a, b, c, rfl⟩
section
variable {H : Type} {enc : TypeId × Value → H} {W : World} {base : Nat} {held : Bool}
theorem open_token {fuel : Nat} {cs : List Value} {x : DataW H × List MemPlace} (h : DataW.trod enc Try.prog W base (fun _ => true) held fuel 24 cs = some x) :
    ∃ d : Tk, cs = [.slice d.A d.b.length d.c, .int .i64 d.n, .int .i64 d.d] ∧ RdY W W.heap.size d.A d.b ∧ d.b.length ≤ 9223372036854775807 ∧ (Lit.int .i64 d.n).wf = true ∧ (Lit.int .i64 d.d).wf = true := by
  obtain ⟨y0, y1, y2, n, _, hlen, h0, h1, h2⟩ := Deep.trod_struct3 Try.underlying24 h
  have hlen2 : cs.length = 3 := hlen.trans (by kernel_rfl)
  clear hlen h
  obtain ⟨A, c, l, hcs, hl, _, _, hr⟩ := open_bytesCs h0
  obtain ⟨z, hz, _, hw⟩ := DataW.trod_int Try.underlying3 h1
  obtain ⟨z2, hz2, _, hw2⟩ := DataW.trod_int Try.underlying3 h2
  rw [show Try.prog.cellsOf 22 = 1 by kernel_rfl] at hcs
  rw [show Try.prog.cellsOf 3 = 1 by kernel_rfl] at hz hz2
  obtain ⟨v0, v1, v2, rfl⟩ := three_of hlen2
  have e0 : [v0] = [.slice A l.length c] := hcs
  have e1 : [v1] = [.int .i64 z] := hz
  have e2 : [v2] = [.int .i64 z2] := hz2
  injection e0 with e0
  injection e1 with e1
  injection e2 with e2
  exact ⟨⟨A, c, l, z, z2⟩, by rw [e0, e1, e2], hr, by simp [maxLen] at hl; show l.length ≤ _; omega, hw, hw2⟩
/-- A slice of tokens, as a list. -/
theorem open_tokens {a : Option Addr} {len cap : Nat} {d : DataW H} {ps : List MemPlace} (h : DataW.Trod enc Try.prog W base (fun _ => true) held 54 (.slice a len cap) d ps) :
    ∃ L : List Tk, len = L.length ∧ L.length ≤ maxLen ∧ TksAt W W.heap.size a L ∧ ∀ d ∈ L, d.b.length ≤ 9223372036854775807 := by
  obtain ⟨fuel, hf⟩ := h
  rcases Deep.open_slice Try.underlying54 hf with ⟨hcs, _⟩ | ⟨ad, len', cap', m, n, D, Pl, hcs, _, hl, hm, hmm, _, hx⟩
  · simp [Value.cells] at hcs
    obtain ⟨rfl, rfl, rfl⟩ := hcs
    exact ⟨[], rfl, by simp, fun i d hd => by simp at hd, by simp⟩
  · simp [Value.cells] at hcs
    obtain ⟨rfl, rfl, rfl⟩ := hcs
    simp only [if_true] at hmm
    subst hmm
    obtain ⟨F, hF⟩ := Deep.choose_lt (α := Tk) (p := fun i d => RdY W W.heap.size d.A d.b ∧ d.b.length ≤ 9223372036854775807 ∧ ∀ j v, [Value.slice d.A d.b.length d.c, .int .i64 d.n, .int .i64 d.d][j]? = some v → W.cell? ((ad.add (i * 3)).add j) = some v) (fun i hi => by
      obtain ⟨cs', h1, h2⟩ := hx i hi
      obtain ⟨d, rfl, h3, h4, _⟩ := open_token h2
      refine ⟨d, h3, h4, fun j v hj => ?_⟩
      obtain ⟨_, hlen, hc⟩ := World.cells?_some h1
      rw [show Try.prog.cellsOf 24 = 3 by kernel_rfl] at hc
      rw [hc j (by have := (List.getElem?_eq_some_iff.1 hj).1; simpa using this), hj])
    refine ⟨(List.range len).map F, by simp, by simp; omega, fun i d hd => ?_, fun d hd => ?_⟩
    · have hi : i < len := by have := (List.getElem?_eq_some_iff.1 hd).1; simpa using this
      simp [hi] at hd
      subst hd
      obtain ⟨h3, _, hc⟩ := hF i (by omega)
      obtain ⟨b, o, s⟩ := ad
      have c0 := hc 0 _ rfl
      have c1 := hc 1 _ rfl
      have c2 := hc 2 _ rfl
      have hs : s = none := by simpa [Addr.add] using World.cell?_spot ((hF 0 (by omega)).2.2 0 _ rfl)
      subst hs
      rw [Deep.add_add, add_off] at c0 c1 c2
      exact ⟨b, o, rfl, World.block_lt_of_cell? _ _ c0, c0, c1, c2, h3⟩
    · obtain ⟨i, hi, rfl⟩ := List.mem_map.1 hd
      exact (hF i (by have := List.mem_range.1 hi; omega)).2.1
/-- One token, handed in by itself. -/
theorem open_tok {v : Value} {d : DataW H} {ps : List MemPlace} (h : DataW.Trod enc Try.prog W base (fun _ => true) held 24 v d ps) :
    ∃ t : Tk, v.cells = #[.slice t.A t.b.length t.c, .int .i64 t.n, .int .i64 t.d] ∧ RdY W W.heap.size t.A t.b ∧ t.b.length ≤ 9223372036854775807 := by
  obtain ⟨fuel, hf⟩ := h
  obtain ⟨t, h1, h2, h3, _⟩ := open_token hf
  exact ⟨t, by rw [← h1], h2, h3⟩
end
end Go.Proofs.YtckdellcnoojaaaRRR
