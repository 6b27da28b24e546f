/- Plain words on whole blocks in a walk: which operation stands there (by its slot), a great block made, loaded, stored. Nothing of the program stands here. -/
import Derived.Test.YteifdbfaclpcdaaRGyArr
namespace Go.Proofs.YteifdbfaclpcdaaR
open Go.RowKit

section
variable {P : Program}

/-- A guard: the operation that stands there writes slot d. -/
theorem wpList_dst (d : Nat) {ops : Array Oper} {rest : List Oper} {op : Op} {t : TypeId} {pos : String} {after : Array Edge} {g : Option (Nat × Bool)} {a : Act} {w : World} {Q : Exit → Act → World → Prop}
    (h : wpList P ops Q (⟨some d, op, t, pos, after, g⟩ :: rest) a w) : wpList P ops Q (⟨some d, op, t, pos, after, g⟩ :: rest) a w := h
/-- A guard: the operation that stands there stores slot y at slot x. -/
theorem wpList_sto (x y : Nat) {ops : Array Oper} {rest : List Oper} {ty : TypeId} {t : TypeId} {pos : String} {after : Array Edge} {g : Option (Nat × Bool)} {a : Act} {w : World} {Q : Exit → Act → World → Prop}
    (h : wpList P ops Q (⟨none, .store ty (.tmp x) (.tmp y), t, pos, after, g⟩ :: rest) a w) : wpList P ops Q (⟨none, .store ty (.tmp x) (.tmp y), t, pos, after, g⟩ :: rest) a w := h

theorem wp_alloc_abs {o : Oper} {a : Act} {w : World} {K : Act → World → Prop} {Q : Exit → Act → World → Prop} (ty : TypeId) (ho : o.op = .alloc ty) (z : Array Value) (hz : ∀ w, (zeroValue ty).run P w = .ok (.agg z) w)
    (h : ∀ W g, w.heap.size ≤ g → Bk W g ty z → Below w.heap.size w W → K (a.put o.dst (.pointer (some ⟨g, 0, none⟩))) W) : o.wp P a w K Q := by
  unfold Oper.wp execOp
  simp only [ho]
  simp [Instr.alloc, hz, go_sem, Value.cells]
  exact h _ _ (Nat.le_refl _) (Bk.new w ty z) ((Below.refl _ _).alloc (Nat.le_refl _) _)
theorem wpList_alloc_abs {ops : Array Oper} {rest : List Oper} {o : Oper} {a : Act} {w : World} {Q : Exit → Act → World → Prop} (hgd : o.guard = none) (ty : TypeId) (ho : o.op = .alloc ty) (z : Array Value) (hz : ∀ w, (zeroValue ty).run P w = .ok (.agg z) w)
    (h : ∀ W g, w.heap.size ≤ g → Bk W g ty z → Below w.heap.size w W → wpList P ops Q rest (a.put o.dst (.pointer (some ⟨g, 0, none⟩))) W) : wpList P ops Q (o :: rest) a w :=
  wpList_plain hgd fun _ hK => wp_alloc_abs ty ho z hz fun W g h1 h2 h3 => hK _ _ (h W g h1 h2 h3)
/-- .. and a whole block stored anew: of the world behind, only what is known of it. -/
theorem wpList_store_abs {ops : Array Oper} {rest : List Oper} {o : Oper} {a : Act} {w : World} {Q : Exit → Act → World → Prop} (hgd : o.guard = none) (ty : TypeId) (x y : Operand) (ho : o.op = .store ty x y) (g : Nat) (hx : a.eval x = .pointer (some ⟨g, 0, none⟩)) (t : TypeId) (cur cs : Array Value)
    (hy : a.eval y = .agg cs) (hg : Bk w g t cur) (hi : (P.info? ty).map (·.size) = some cs.size) (hs : cur.size = cs.size) (h1 : ∀ v ∈ cs.toList, v.oneCell' = true)
    (h : ∀ W, Bk W g t cs → Fr (· = g) w W → W.heap.size = w.heap.size → wpList P ops Q rest (a.put o.dst undef) W) : wpList P ops Q (o :: rest) a w :=
  wpList_store_row hgd ty x y ho g hx t cur cs hy hg hi hs h1 (h _ (hg.setRow cs) ((Fr.refl _ w).setRow g cs fun _ => rfl) (by simp))
/-- .. and a struct by value boxed. -/
theorem wp_box_abs {o : Oper} {a : Act} {w : World} {K : Act → World → Prop} {Q : Exit → Act → World → Prop} (ty : TypeId) (x : Operand) (ho : o.op = .box ty x) (cs : Array Value) (hx : a.eval x = .agg cs)
    (h : ∀ W g, w.heap.size ≤ g → Bk W g ty cs → Below w.heap.size w W → K (a.put o.dst (.pointer (some ⟨g, 0, none⟩))) W) : o.wp P a w K Q := by
  unfold Oper.wp execOp
  simp only [ho, hx]
  simp [Instr.box, go_sem, Value.cells]
  exact h _ _ (Nat.le_refl _) (Bk.new w ty cs) ((Below.refl _ _).alloc (Nat.le_refl _) _)
theorem wpList_box_abs {ops : Array Oper} {rest : List Oper} {o : Oper} {a : Act} {w : World} {Q : Exit → Act → World → Prop} (hgd : o.guard = none) (ty : TypeId) (x : Operand) (ho : o.op = .box ty x) (cs : Array Value) (hx : a.eval x = .agg cs)
    (h : ∀ W g, w.heap.size ≤ g → Bk W g ty cs → Below w.heap.size w W → wpList P ops Q rest (a.put o.dst (.pointer (some ⟨g, 0, none⟩))) W) : wpList P ops Q (o :: rest) a w :=
  wpList_plain hgd fun _ hK => wp_box_abs ty x ho cs hx fun W g h1 h2 h3 => hK _ _ (h W g h1 h2 h3)
end
end Go.Proofs.YteifdbfaclpcdaaR
