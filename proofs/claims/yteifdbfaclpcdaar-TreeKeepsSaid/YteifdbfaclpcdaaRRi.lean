/- How the arguments of a row are opened: slices of numbers of one kind, as lists; numbers' bounds. -/
import Derived.Test.YteifdbfaclpcdaaRGy
import Derived.ProofKit
import Derived.SizedLaws
import Derived.Deep.Grids
namespace Go.Proofs.YteifdbfaclpcdaaR
open Go.ChangeShapes Go.WideShapes Go.ChangeAt Go.RowKit

theorem wf_i64 {z : Int} (h : (Lit.int .i64 z).wf = true) : -9223372036854775808 ≤ z ∧ z ≤ 9223372036854775807 := by
  simp [Lit.wf, IntKind.min, IntKind.max, IntKind.signed, IntKind.bits] at h; omega
theorem wf_u8 {z : Int} (h : (Lit.int .u8 z).wf = true) : ∃ n : Nat, z = n ∧ n ≤ 255 := by
  simp [Lit.wf, IntKind.min, IntKind.max, IntKind.signed, IntKind.bits] at h
  exact ⟨z.toNat, by omega, by omega⟩
theorem wf_u16 {z : Int} (h : (Lit.int .u16 z).wf = true) : ∃ n : Nat, z = n ∧ n ≤ 65535 := by
  simp [Lit.wf, IntKind.min, IntKind.max, IntKind.signed, IntKind.bits] at h
  exact ⟨z.toNat, by omega, by omega⟩
theorem wf_u64 {z : Int} (h : (Lit.int .u64 z).wf = true) : ∃ n : Nat, z = n ∧ n ≤ 18446744073709551615 := by
  simp [Lit.wf, IntKind.min, IntKind.max, IntKind.signed, IntKind.bits] at h
  exact ⟨z.toNat, by omega, by omega⟩

section
variable {H : Type} {enc : TypeId × Value → H} {P : Program} {W : World} {base : Nat} {held : Bool}

/-- A slice of numbers of one kind, as a list (in cells). -/
theorem open_kindCs {t e : TypeId} {k : IntKind} (ht : P.underlying t = some (.slice e)) (he : P.underlying e = some (.int k)) (hc : P.cellsOf e = 1) {fuel : Nat} {cs : List Value} {x : DataW H × List MemPlace} (h : DataW.trod enc P W base (fun _ => true) held fuel t cs = some x) :
    ∃ (A : Option Addr) (cap : Nat) (l : List Int), cs = [.slice A l.length cap] ∧ l.length ≤ maxLen ∧ (∀ z ∈ l, (Lit.int k z).wf = true) ∧ Rd W W.heap.size A (l.map (Value.int k)) := by
  rcases open_ints ht he hc h with ⟨rfl, _⟩ | ⟨a, len, cap, zs, rfl, _, hl, hm, hz, _, hcell, hw⟩
  · exact ⟨none, 0, [], rfl, by simp, by simp, Rd.nil _ _ _⟩
  · simp only [if_true] at hz
    subst hz
    refine ⟨some a, zs.length, zs.take len, by simp; omega, by simp; omega, fun z hz => hw z (List.mem_of_mem_take hz), fun k u hu => ?_⟩
    simp only [List.getElem?_map, Option.map_eq_some_iff, List.getElem?_take] at hu
    obtain ⟨z, hz, rfl⟩ := hu
    split at hz
    · have hk : k < zs.length := by omega
      have h2 := hcell k hk
      rw [List.getD_eq_getElem?_getD, hz] at h2
      exact ⟨a, rfl, by rw [← block_add a k]; exact World.block_lt_of_cell? _ _ h2, h2⟩
    · cases hz
/-- .. and its capacity. -/
theorem open_kindCap {t e : TypeId} {k : IntKind} (ht : P.underlying t = some (.slice e)) (he : P.underlying e = some (.int k)) (hc : P.cellsOf e = 1) {fuel : Nat} {cs : List Value} {x : DataW H × List MemPlace} (h : DataW.trod enc P W base (fun _ => true) held fuel t cs = some x) :
    ∃ (A : Option Addr) (cap : Nat) (l : List Int), cs = [.slice A l.length cap] ∧ l.length ≤ maxLen ∧ l.length ≤ cap ∧ cap ≤ maxLen ∧ (∀ z ∈ l, (Lit.int k z).wf = true) ∧ Rd W W.heap.size A (l.map (Value.int k)) := by
  obtain ⟨A, cap, l, hcs, h1, h2, h3⟩ := open_kindCs ht he hc h
  refine ⟨A, cap, l, hcs, h1, ?_, ?_, h2, h3⟩
  · rcases open_ints ht he hc h with ⟨rfl, _⟩ | ⟨a, len, cap', zs, rfl, _, hl, hm, hz, _, hcell, hw⟩
    · simp at hcs; omega
    · simp at hcs; omega
  · rcases open_ints ht he hc h with ⟨rfl, _⟩ | ⟨a, len, cap', zs, rfl, _, hl, hm, hz, _, hcell, hw⟩
    · simp at hcs; omega
    · simp at hcs; omega
/-- .. as a value. -/
theorem open_kind {t e : TypeId} {k : IntKind} {a : Option Addr} {len cap : Nat} {d : DataW H} {ps : List MemPlace} (ht : P.underlying t = some (.slice e)) (he : P.underlying e = some (.int k)) (hc : P.cellsOf e = 1)
    (h : DataW.Trod enc P W base (fun _ => true) held t (.slice a len cap) d ps) : ∃ l : List Int, len = l.length ∧ l.length ≤ maxLen ∧ (∀ z ∈ l, (Lit.int k z).wf = true) ∧ Rd W W.heap.size a (l.map (Value.int k)) := by
  obtain ⟨fuel, hf⟩ := h
  obtain ⟨A, c, l, hcs, h1, h2, h3⟩ := open_kindCs ht he hc hf
  simp [Value.cells] at hcs
  obtain ⟨rfl, rfl, rfl⟩ := hcs
  exact ⟨l, rfl, h1, h2, h3⟩
theorem nats_of {k : IntKind} {M : Nat} (l : List Int) (h : ∀ z ∈ l, ∃ n : Nat, z = n ∧ n ≤ M) : ∃ m : List Nat, l.length = m.length ∧ (∀ n ∈ m, n ≤ M) ∧ l.map (Value.int k) = m.map fun n : Nat => Value.int k (n : Int) := by
  refine ⟨l.map Int.toNat, by simp, fun n hn => ?_, ?_⟩
  · obtain ⟨z, hz, rfl⟩ := List.mem_map.1 hn
    obtain ⟨n, rfl, h2⟩ := h z hz
    simpa using h2
  · rw [List.map_map]
    refine List.map_congr_left fun z hz => ?_
    obtain ⟨n, rfl, _⟩ := h z hz
    simp
end
end Go.Proofs.YteifdbfaclpcdaaR
