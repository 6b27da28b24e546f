/- How a slice of deeds of two ints is opened. -/
import Derived.Test.YtcbfaahnhdmagaaDoorBtsH
import Derived.ProofKit
import Derived.SizedLaws
import Derived.Deep.Grids
import Derived.ChangeSame
namespace Go.Proofs.YtcbfaahnhdmagaaDoor
open Go.ChangeShapes Go.WideShapes Go.ChangeAt Go.RowKit

theorem add_off (b o i : Nat) : (⟨b, o, none⟩ : Addr).add i = ⟨b, o + i, none⟩ := by
  unfold Addr.add
  split <;> simp_all
theorem two_of {α : Type} {l : List α} (h : l.length = 2) : ∃ a b, l = [a, b] := by
  match l, h with
  | [a, b], _ => exact ⟨a, b, rfl⟩
section
variable {H : Type} {enc : TypeId × Value → H} {W : World} {base : Nat} {held : Bool}
theorem open_d2 {fuel : Nat} {cs : List Value} {x : DataW H × List MemPlace} (h : DataW.trod enc Tryd.prog W base (fun _ => true) held fuel 39 cs = some x) :
    ∃ d : D2, cs = [.int .i64 d.kd, .int .i64 d.nd] := by
  obtain ⟨y0, y1, n, _, hlen, h0, h1⟩ := trod_struct2 Tryd.underlying39 h
  have hlen2 : cs.length = 2 := hlen.trans (by kernel_rfl)
  clear hlen h
  obtain ⟨z, hz, _, _⟩ := DataW.trod_int Tryd.underlying3 h0
  obtain ⟨u, hu, _, _⟩ := DataW.trod_int Tryd.underlying3 h1
  rw [show Tryd.prog.cellsOf 3 = 1 by kernel_rfl] at hz hu
  obtain ⟨v0, v1, rfl⟩ := two_of hlen2
  have e0 : [v0] = [.int .i64 z] := hz
  have e1 : [v1] = [.int .i64 u] := hu
  injection e0 with e0
  injection e1 with e1
  exact ⟨⟨z, u⟩, by rw [e0, e1]⟩
theorem open_d2s {a : Option Addr} {len cap : Nat} {d : DataW H} {ps : List MemPlace} (h : DataW.Trod enc Tryd.prog W base (fun _ => true) held 32 (.slice a len cap) d ps) :
    ∃ L : List D2, len = L.length ∧ L.length ≤ maxLen ∧ D2At W W.heap.size a L := by
  obtain ⟨fuel, hf⟩ := h
  rcases Deep.open_slice Tryd.underlying32 hf with ⟨hcs, _⟩ | ⟨ad, len', cap', m, n, D, Pl, hcs, _, hl, hm, hmm, _, hx⟩
  · simp [Value.cells] at hcs
    obtain ⟨rfl, rfl, rfl⟩ := hcs
    exact ⟨[], rfl, by simp, fun i d hd => by simp at hd⟩
  · simp [Value.cells] at hcs
    obtain ⟨rfl, rfl, rfl⟩ := hcs
    simp only [if_true] at hmm
    subst hmm
    obtain ⟨F, hF⟩ := Deep.choose_lt (α := D2) (p := fun i d => ∀ j v, [Value.int .i64 d.kd, .int .i64 d.nd][j]? = some v → W.cell? ((ad.add (i * 2)).add j) = some v) (fun i hi => by
      obtain ⟨cs', h1, h2⟩ := hx i hi
      obtain ⟨d, rfl⟩ := open_d2 h2
      refine ⟨d, fun j v hj => ?_⟩
      obtain ⟨_, hlen, hc⟩ := World.cells?_some h1
      rw [show Tryd.prog.cellsOf 39 = 2 by kernel_rfl] at hc
      rw [hc j (by have := (List.getElem?_eq_some_iff.1 hj).1; simpa using this), hj])
    refine ⟨(List.range len).map F, by simp, by simp; omega, fun i d hd => ?_⟩
    have hi : i < len := by have := (List.getElem?_eq_some_iff.1 hd).1; simpa using this
    simp [hi] at hd
    subst hd
    have hc := hF i (by omega)
    obtain ⟨b, o, s⟩ := ad
    have c0 := hc 0 _ rfl
    have c1 := hc 1 _ rfl
    have hs : s = none := by simpa [Addr.add] using World.cell?_spot (hF 0 (by omega) 0 _ rfl)
    subst hs
    rw [Deep.add_add, add_off] at c0 c1
    exact ⟨b, o, rfl, World.block_lt_of_cell? _ _ c0, c0, c1⟩
end
end Go.Proofs.YtcbfaahnhdmagaaDoor
