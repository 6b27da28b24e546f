/- How the arguments of a row are opened: slices of bytes, as lists. -/
import Derived.Test.YtcbfaahnhdmagaaDoorByt
import Derived.Test.YtcbfaahnhdmagaaDoorRi
namespace Go.Proofs.YtcbfaahnhdmagaaDoor
open Go.ChangeShapes Go.WideShapes Go.ChangeAt Go.RowKit

theorem bytes_of (l : List Int) (h : ∀ z ∈ l, (Lit.int .u8 z).wf = true) : ∃ m : List UInt8, l.length = m.length ∧ l.map (Value.int .u8) = m.map bv := by
  refine ⟨l.map fun z => UInt8.ofNat z.toNat, by simp, ?_⟩
  rw [List.map_map]
  refine List.map_congr_left fun z hz => ?_
  obtain ⟨n, rfl, hn⟩ := wf_u8 (h z hz)
  simp [bv]
  omega
section
variable {H : Type} {enc : TypeId × Value → H} {W : World} {base : Nat} {held : Bool}
theorem open_bytesCs {fuel : Nat} {cs : List Value} {x : DataW H × List MemPlace} (h : DataW.trod enc Tryd.prog W base (fun _ => true) held fuel 22 cs = some x) :
    ∃ (A : Option Addr) (cap : Nat) (l : List UInt8), cs = [.slice A l.length cap] ∧ l.length ≤ maxLen ∧ l.length ≤ cap ∧ cap ≤ maxLen ∧ RdY W W.heap.size A l := by
  obtain ⟨A, cap, l, hcs, h1, h2, h3, h4, h5⟩ := open_kindCap Tryd.underlying22 Tryd.underlying5 (by kernel_rfl) h
  obtain ⟨m, hm, he⟩ := bytes_of l h4
  rw [he] at h5
  rw [hm] at hcs h1 h2
  exact ⟨A, cap, m, hcs, h1, h2, h3, h5⟩
theorem open_bytes {a : Option Addr} {len cap : Nat} {d : DataW H} {ps : List MemPlace} (h : DataW.Trod enc Tryd.prog W base (fun _ => true) held 22 (.slice a len cap) d ps) :
    ∃ l : List UInt8, len = l.length ∧ l.length ≤ maxLen ∧ l.length ≤ cap ∧ cap ≤ maxLen ∧ RdY W W.heap.size a l := by
  obtain ⟨fuel, hf⟩ := h
  obtain ⟨A, c, l, hcs, h1, h2, h3, h4⟩ := open_bytesCs hf
  simp [Value.cells] at hcs
  obtain ⟨rfl, rfl, rfl⟩ := hcs
  exact ⟨l, rfl, h1, h2, h3, h4⟩
end
end Go.Proofs.YtcbfaahnhdmagaaDoor
