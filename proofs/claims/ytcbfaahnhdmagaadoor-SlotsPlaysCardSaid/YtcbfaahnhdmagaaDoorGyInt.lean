/- Slices of ints, as lists. -/
import Derived.Test.YtcbfaahnhdmagaaDoorProg
import Derived.Test.YtcbfaahnhdmagaaDoorGy
namespace Go.Proofs.YtcbfaahnhdmagaaDoor
open Go.RowKit

/-- A slice of ints. -/
def RdI (w : World) (B : Nat) (A : Option Addr) (l : List Int) : Prop := Rd w B A (l.map (Value.int .i64))
theorem RdI.at_ {w : World} {B : Nat} {A : Option Addr} {l : List Int} (h : RdI w B A l) {k : Nat} (hk : k < l.length) :
    ∃ ad, A = some ad ∧ ad.block < B ∧ w.cell? (ad.add k) = some (.int .i64 (l[k]?.getD 0)) := by
  obtain ⟨ad, e, hb, hc⟩ := h k (.int .i64 (l[k]?.getD 0)) (by simp [hk])
  exact ⟨ad, e, hb, hc⟩
theorem RdI.below {w w' : World} {B : Nat} {A : Option Addr} {l : List Int} (h : RdI w B A l) (hb : Below B w w') : RdI w' B A l := Rd.below h hb
theorem RdI.ne {w : World} {B g : Nat} {A : Option Addr} {l : List Int} (h : RdI w B A l) (hB : B ≤ g) : ∀ ad, A = some ad → 0 < l.length → ad.block ≠ g := fun ad e hl => by
  obtain ⟨ad', e', hb, _⟩ := h.at_ hl
  rw [e] at e'
  injection e' with e'
  subst e'
  omega
theorem oneI (l : List Int) : ∀ u ∈ l.map (Value.int .i64), u.oneCell' = true := by
  intro u hu
  obtain ⟨b, _, rfl⟩ := List.mem_map.1 hu
  rfl

theorem int_info : (Tryd.prog.info? 3).map (fun i => (i.zero, i.size, i.bytes)) = some (some (.int .i64 0), 1, 8) := by kernel_rfl

/-- A list of kinds that the call owns. -/
def OwnI (w : World) (base : Nat) (v : Value) (l : List Int) : Prop := w.ownsRow base 3 1 v l.length (l.map (Value.int .i64))

theorem own_grow {w w' : World} {base : Nat} {v : Value} {l : List Int} (h : OwnI w base v l) (hb : Below w.heap.size w w') : OwnI w' base v l := owns_same h fun k hk => hb.block k (World.ownsRow.lt h k hk).2

/-- A row of the call's own, from a place on, in whatever world its block is as it was. -/
theorem own_rd {w w' : World} {base b n c : Nat} {l : List Int} (h : OwnI w base (.slice (some ⟨b, 0, none⟩) n c) l) (hn : n = l.length) (hb : w'.heap[b]? = w.heap[b]?) (k : Nat) : Rd w' w.heap.size (some ⟨b, k, none⟩) ((l.drop k).map (Value.int .i64)) := by
  subst hn
  intro j u hu
  have hlt := (World.ownsRow.lt h b rfl).2
  rw [List.map_drop, List.getElem?_drop] at hu
  have hj : k + j < l.length := by have := (List.getElem?_eq_some_iff.1 hu).1; simpa using this
  refine ⟨_, rfl, hlt, ?_⟩
  have hc := World.ownsRow.cellAt h (k + j) (by omega)
  have e : ((⟨b, k, none⟩ : Addr).add j) = ⟨b, k + j, none⟩ := by unfold Addr.add; split <;> simp_all
  rw [e, World.cell?_of_block (w := w) (w' := w') (a := ⟨b, k + j, none⟩) hb, hc]
  exact hu
theorem own_rd_take {w w' : World} {base b n c : Nat} {l : List Int} (h : OwnI w base (.slice (some ⟨b, 0, none⟩) n c) l) (hn : n = l.length) (hb : w'.heap[b]? = w.heap[b]?) (k : Nat) : Rd w' w.heap.size (some ⟨b, 0, none⟩) ((l.take k).map (Value.int .i64)) := by
  have := (own_rd h hn hb 0).take k
  rwa [List.drop_zero, ← List.map_take] at this

/-- A literal slice of ints, just made. -/
theorem rd_lit (w : World) (l : List Int) {n : Nat} (hn : n = w.heap.size) : RdI (w.alloc (.cells (l.map (Value.int .i64)).toArray 3)) (n + 1) (some ⟨n, 0, none⟩) l := by
  subst hn
  intro k u hu
  have hb0 : Bk (w.alloc (.cells (l.map (Value.int .i64)).toArray 3)) w.heap.size 3 (l.map (Value.int .i64)).toArray := Bk.new _ _ _
  refine ⟨_, rfl, by simp, ?_⟩
  have e : ((⟨w.heap.size, 0, none⟩ : Addr).add k) = ⟨w.heap.size, k, none⟩ := by unfold Addr.add; split <;> simp_all
  rw [e, hb0.cell]
  simpa using hu

end Go.Proofs.YtcbfaahnhdmagaaDoor
