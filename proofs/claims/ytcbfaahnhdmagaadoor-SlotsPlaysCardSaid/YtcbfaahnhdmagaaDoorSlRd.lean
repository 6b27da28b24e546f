/- How the arguments of a row are opened: deeds of slots. -/
import Derived.Test.YtcbfaahnhdmagaaDoorSlQ
import Derived.Test.YtcbfaahnhdmagaaDoorRb
import Derived.Lib.SmallJoins
namespace Go.Proofs.YtcbfaahnhdmagaaDoor
open Go.ChangeShapes Go.WideShapes Go.ChangeAt Go.RowKit

theorem four_of {α : Type} {l : List α} (h : l.length = 4) : ∃ a b c d, l = [a, b, c, d] := by
  match l, h with
  | [a, b, c, d], _ => exact ⟨a, b, c, d, rfl⟩
section
variable {H : Type} {enc : TypeId × Value → H} {W : World} {base : Nat} {held : Bool}
theorem open_deed {fuel : Nat} {cs : List Value} {x : DataW H × List MemPlace} (h : DataW.trod enc Tryd.prog W base (fun _ => true) held fuel 64 cs = some x) :
    ∃ d : Dd, cs = [.int .i64 d.kind, .int .i64 d.n, .int .u8 (d.fill.toNat : Int), .slice d.A d.b.length d.c] ∧ RdY W W.heap.size d.A d.b ∧ d.b.length ≤ 9223372036854775807 ∧ d.b.length ≤ d.c := by
  obtain ⟨y0, y1, y2, y3, n, _, hlen, h0, h1, h2, h3⟩ := Joins.trod_struct4 Tryd.underlying64 h
  have hlen2 : cs.length = 4 := hlen.trans (by kernel_rfl)
  clear hlen h
  obtain ⟨z, hz, _, hw⟩ := DataW.trod_int Tryd.underlying3 h0
  obtain ⟨z2, hz2, _, hw2⟩ := DataW.trod_int Tryd.underlying3 h1
  obtain ⟨z3, hz3, _, hw3⟩ := DataW.trod_int Tryd.underlying5 h2
  obtain ⟨A, c, l, hcs, hl, hlc, _, hr⟩ := open_bytesCs h3
  rw [show Tryd.prog.cellsOf 22 = 1 by kernel_rfl] at hcs
  rw [show Tryd.prog.cellsOf 3 = 1 by kernel_rfl] at hz hz2
  rw [show Tryd.prog.cellsOf 5 = 1 by kernel_rfl] at hz3
  obtain ⟨v0, v1, v2, v3, rfl⟩ := four_of hlen2
  have e0 : [v0] = [.int .i64 z] := hz
  have e1 : [v1] = [.int .i64 z2] := hz2
  have e2 : [v2] = [.int .u8 z3] := hz3
  have e3 : [v3] = [.slice A l.length c] := hcs
  injection e0 with e0
  injection e1 with e1
  injection e2 with e2
  injection e3 with e3
  obtain ⟨q, rfl, hq⟩ := wf_u8 hw3
  refine ⟨⟨z, z2, UInt8.ofNat q, A, c, l⟩, ?_, hr, by simp [maxLen] at hl; show l.length ≤ _; omega, hlc⟩
  have : (UInt8.ofNat q).toNat = q := by rw [UInt8.toNat_ofNat']; omega
  rw [e0, e1, e2, e3, this]
/-- A slice of deeds, as a list. -/
theorem open_deeds {a : Option Addr} {len cap : Nat} {d : DataW H} {ps : List MemPlace} (h : DataW.Trod enc Tryd.prog W base (fun _ => true) held 60 (.slice a len cap) d ps) :
    ∃ L : List Dd, len = L.length ∧ L.length ≤ maxLen ∧ DdsAt W W.heap.size a L := by
  obtain ⟨fuel, hf⟩ := h
  rcases Deep.open_slice Tryd.underlying60 hf with ⟨hcs, _⟩ | ⟨ad, len', cap', m, n, D, Pl, hcs, _, hl, hm, hmm, _, hx⟩
  · simp [Value.cells] at hcs
    obtain ⟨rfl, rfl, rfl⟩ := hcs
    exact ⟨[], rfl, by simp, fun i d hd => by simp at hd⟩
  · simp [Value.cells] at hcs
    obtain ⟨rfl, rfl, rfl⟩ := hcs
    simp only [if_true] at hmm
    subst hmm
    have hin : Inhabited Dd := ⟨⟨0, 0, 0, none, 0, []⟩⟩
    obtain ⟨F, hF⟩ := Deep.choose_lt (α := Dd) (p := fun i d => RdY W W.heap.size d.A d.b ∧ d.b.length ≤ 9223372036854775807 ∧ d.b.length ≤ d.c ∧ ∀ j v, [Value.int .i64 d.kind, .int .i64 d.n, .int .u8 (d.fill.toNat : Int), .slice d.A d.b.length d.c][j]? = some v → W.cell? ((ad.add (i * 4)).add j) = some v) (fun i hi => by
      obtain ⟨cs', h1, h2⟩ := hx i hi
      obtain ⟨d, rfl, h3, h4, h5⟩ := open_deed h2
      refine ⟨d, h3, h4, h5, fun j v hj => ?_⟩
      obtain ⟨_, hlen, hc⟩ := World.cells?_some h1
      rw [show Tryd.prog.cellsOf 64 = 4 by kernel_rfl] at hc
      rw [hc j (by have := (List.getElem?_eq_some_iff.1 hj).1; simpa using this), hj])
    refine ⟨(List.range len).map F, by simp, by simp; omega, fun i d hd => ?_⟩
    have hi : i < len := by have := (List.getElem?_eq_some_iff.1 hd).1; simpa using this
    simp [hi] at hd
    subst hd
    obtain ⟨h3, _, hcp, hc⟩ := hF i (by omega)
    obtain ⟨b, o, s⟩ := ad
    have c0 := hc 0 _ rfl
    have c1 := hc 1 _ rfl
    have c2 := hc 2 _ rfl
    have c3 := hc 3 _ rfl
    have hs : s = none := by simpa [Addr.add] using World.cell?_spot ((hF 0 (by omega)).2.2.2 0 _ rfl)
    subst hs
    rw [Deep.add_add, off_p] at c0 c1 c2 c3
    exact ⟨b, o, rfl, World.block_lt_of_cell? _ _ c0, c0, c1, c2, c3, h3, hcp⟩
end
end Go.Proofs.YtcbfaahnhdmagaaDoor
