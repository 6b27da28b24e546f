/- How the arguments of the rows of gunnylaw27 are opened. -/
import Derived.Test.YteifdbfaclpcdaaRCntD
import Derived.ProofKit
import Derived.SizedLaws
import Derived.Deep.Grids
import Derived.ChangeSame
namespace Go.Proofs.YteifdbfaclpcdaaR
open Go.ChangeShapes Go.WideShapes Go.ChangeAt Go.RowKit

theorem add_off (b o i : Nat) : (⟨b, o, none⟩ : Addr).add i = ⟨b, o + i, none⟩ := by
  unfold Addr.add
  split <;> simp_all
theorem two_of {α : Type} {l : List α} (h : l.length = 2) : ∃ a b, l = [a, b] := by
  match l, h with
  | [a, b], _ => exact ⟨a, b, rfl⟩
section
variable {H : Type} {enc : TypeId × Value → H} {W : World} {base : Nat} {held : Bool}

/-- A slice of ints, as a list. -/
theorem open_intsCs {t e : TypeId} (ht : Try.prog.underlying t = some (.slice e)) (he : Try.prog.underlying e = some (.int .i64)) (hc : Try.prog.cellsOf e = 1) {fuel : Nat} {cs : List Value} {x : DataW H × List MemPlace} (h : DataW.trod enc Try.prog W base (fun _ => true) held fuel t cs = some x) :
    ∃ (A : Option Addr) (cap : Nat) (l : List Int), cs = [.slice A l.length cap] ∧ l.length ≤ maxLen ∧ (∀ z ∈ l, (Lit.int .i64 z).wf = true) ∧ RdI W W.heap.size A l := by
  rcases open_ints ht he hc h with ⟨rfl, _⟩ | ⟨a, len, cap, zs, rfl, _, hl, hm, hz, _, hcell, hw⟩
  · exact ⟨none, 0, [], rfl, by simp, by simp, Rd.nil _ _ _⟩
  · simp only [if_true] at hz
    subst hz
    refine ⟨some a, zs.length, zs.take len, by simp; omega, by simp; omega, fun z hz => hw z (List.mem_of_mem_take hz), fun k u hu => ?_⟩
    simp only [List.getElem?_map, Option.map_eq_some_iff, List.getElem?_take] at hu
    obtain ⟨z, hz, rfl⟩ := hu
    split at hz
    · have hk : k < zs.length := by omega
      have h2 := hcell k hk
      rw [List.getD_eq_getElem?_getD, hz] at h2
      exact ⟨a, rfl, by rw [← block_add a k]; exact World.block_lt_of_cell? _ _ h2, h2⟩
    · cases hz
theorem open_intsRd {t e : TypeId} {a : Option Addr} {len cap : Nat} {d : DataW H} {ps : List MemPlace} (ht : Try.prog.underlying t = some (.slice e)) (he : Try.prog.underlying e = some (.int .i64)) (hc : Try.prog.cellsOf e = 1)
    (h : DataW.Trod enc Try.prog W base (fun _ => true) held t (.slice a len cap) d ps) : ∃ l : List Int, len = l.length ∧ l.length ≤ maxLen ∧ (∀ z ∈ l, (Lit.int .i64 z).wf = true) ∧ RdI W W.heap.size a l := by
  obtain ⟨fuel, hf⟩ := h
  obtain ⟨A, c, l, hcs, h1, h2, h3⟩ := open_intsCs ht he hc hf
  simp [Value.cells] at hcs
  obtain ⟨rfl, rfl, rfl⟩ := hcs
  exact ⟨l, rfl, h1, h2, h3⟩

theorem open_deed {fuel : Nat} {cs : List Value} {x : DataW H × List MemPlace} (h : DataW.trod enc Try.prog W base (fun _ => true) held fuel 33 cs = some x) :
    ∃ d : Dd, cs = [.int .i64 d.kind, .slice d.A d.ks.length d.c] ∧ (∀ z ∈ d.ks, (Lit.int .i64 z).wf = true) ∧ RdI W W.heap.size d.A d.ks := by
  obtain ⟨y0, y1, n, _, hlen, h0, h1⟩ := trod_struct2 Try.underlying33 h
  have hlen2 : cs.length = 2 := hlen.trans (by kernel_rfl)
  clear hlen h
  obtain ⟨z, hz, _, _⟩ := DataW.trod_int Try.underlying3 h0
  obtain ⟨A, c, l, hcs, _, h2, h3⟩ := open_intsCs Try.underlying23 Try.underlying3 (by kernel_rfl) h1
  rw [show Try.prog.cellsOf 3 = 1 by kernel_rfl] at hz
  rw [show Try.prog.cellsOf 23 = 1 by kernel_rfl] at hcs
  obtain ⟨v0, v1, rfl⟩ := two_of hlen2
  have e0 : [v0] = [.int .i64 z] := hz
  have e1 : [v1] = [.slice A l.length c] := hcs
  injection e0 with e0
  injection e1 with e1
  exact ⟨⟨z, A, c, l⟩, by rw [e0, e1], h2, h3⟩

instance : Inhabited Dd := ⟨⟨0, none, 0, []⟩⟩
/-- A slice of deeds, as a list. -/
theorem open_deeds {a : Option Addr} {len cap : Nat} {d : DataW H} {ps : List MemPlace} (h : DataW.Trod enc Try.prog W base (fun _ => true) held 22 (.slice a len cap) d ps) :
    ∃ L : List Dd, len = L.length ∧ L.length ≤ maxLen ∧ (∀ d ∈ L, ∀ z ∈ d.ks, (Lit.int .i64 z).wf = true) ∧ DeedsAt W W.heap.size a L := by
  obtain ⟨fuel, hf⟩ := h
  rcases Deep.open_slice Try.underlying22 hf with ⟨hcs, _⟩ | ⟨ad, len', cap', m, n, D, Pl, hcs, _, hl, hm, hmm, _, hx⟩
  · simp [Value.cells] at hcs
    obtain ⟨rfl, rfl, rfl⟩ := hcs
    exact ⟨[], rfl, by simp, by simp, fun i d hd => by simp at hd⟩
  · simp [Value.cells] at hcs
    obtain ⟨rfl, rfl, rfl⟩ := hcs
    simp only [if_true] at hmm
    subst hmm
    obtain ⟨F, hF⟩ := Deep.choose_lt (α := Dd) (p := fun i d => (∀ z ∈ d.ks, (Lit.int .i64 z).wf = true) ∧ RdI W W.heap.size d.A d.ks ∧ ∀ j v, [Value.int .i64 d.kind, .slice d.A d.ks.length d.c][j]? = some v → W.cell? ((ad.add (i * 2)).add j) = some v) (fun i hi => by
      obtain ⟨cs', h1, h2⟩ := hx i hi
      obtain ⟨d, rfl, h3, h4⟩ := open_deed h2
      refine ⟨d, h3, h4, fun j v hj => ?_⟩
      obtain ⟨_, hlen, hc⟩ := World.cells?_some h1
      rw [show Try.prog.cellsOf 33 = 2 by kernel_rfl] at hc
      rw [hc j (by have := (List.getElem?_eq_some_iff.1 hj).1; simpa using this), hj])
    refine ⟨(List.range len).map F, by simp, by simp; omega, fun d hd => ?_, fun i d hd => ?_⟩
    · obtain ⟨i, hi, rfl⟩ := List.mem_map.1 hd
      exact (hF i (by have := List.mem_range.1 hi; omega)).1
    · have hi : i < len := by have := (List.getElem?_eq_some_iff.1 hd).1; simpa using this
      simp [hi] at hd
      subst hd
      obtain ⟨_, h4, hc⟩ := hF i (by omega)
      obtain ⟨b, o, s⟩ := ad
      have c0 := hc 0 _ rfl
      have c1 := hc 1 _ rfl
      have hs : s = none := by simpa [Addr.add] using World.cell?_spot ((hF 0 (by omega)).2.2 0 _ rfl)
      subst hs
      rw [Deep.add_add, add_off] at c0 c1
      exact ⟨b, o, rfl, World.block_lt_of_cell? _ _ c0, c0, c1, h4⟩

end
end Go.Proofs.YteifdbfaclpcdaaR
