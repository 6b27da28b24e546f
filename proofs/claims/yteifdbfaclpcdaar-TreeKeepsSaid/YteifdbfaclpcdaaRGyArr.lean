/- Plain words on arrays of numbers: a whole array stored into a block, two arrays compared. Nothing of the program stands here. -/
import Derived.Test.YteifdbfaclpcdaaRGy
import Derived.Laws.CopyRow
import Derived.Laws.StructEq
namespace Go.Proofs.YteifdbfaclpcdaaR
open Go.RowKit

section
variable {P : Program}

theorem run_storeVar_row (w : World) (g : Nat) (t ty : TypeId) (cur cs : Array Value) (hg : w.heap[g]? = some (.cells cur t (0, 0))) (hi : (P.info? ty).map (·.size) = some cs.size) (hs : cur.size = cs.size) (h1 : ∀ v ∈ cs.toList, v.oneCell' = true) :
    (storeVar ty ⟨g, 0, none⟩ (.agg cs)).run P w = .ok () (w.setRow g cs) := by
  have h := run_storeCells_at P g 0 t cs.toList 0 cur w hg (by simp [hs]) h1
  have e : (cur.toList.take (0 + 0) ++ cs.toList ++ cur.toList.drop (0 + 0 + cs.toList.length)).toArray = cs := by
    have : cur.toList.drop cs.size = [] := by simp [hs]
    simp [this]
  rw [e] at h
  cases hq : P.info? ty with
  | none => simp [hq] at hi
  | some i =>
    have hs' : i.size = cs.size := by simpa [hq] using hi
    simp [storeVar, Sem.run_bind, sizeOf, typeInfo, hq, hs', Value.cells, h]

theorem wp_store_row {o : Oper} {a : Act} {w : World} {K : Act → World → Prop} {Q : Exit → Act → World → Prop} (ty : TypeId) (x y : Operand) (ho : o.op = .store ty x y) (g : Nat) (hx : a.eval x = .pointer (some ⟨g, 0, none⟩)) (t : TypeId) (cur cs : Array Value)
    (hy : a.eval y = .agg cs) (hg : w.heap[g]? = some (.cells cur t (0, 0))) (hi : (P.info? ty).map (·.size) = some cs.size) (hs : cur.size = cs.size) (h1 : ∀ v ∈ cs.toList, v.oneCell' = true)
    (h : K (a.put o.dst undef) (w.setRow g cs)) : o.wp P a w K Q := by
  unfold Oper.wp execOp
  simp only [ho, hx, hy, Instr.storeAt, Instr.sureAddr, Sem.run_bind, Sem.run_pure, Result.andThen_ok, run_storeVar_row w g t ty cur cs hg hi hs h1]
  exact h

theorem wpList_store_row {ops : Array Oper} {rest : List Oper} {o : Oper} {a : Act} {w : World} {Q : Exit → Act → World → Prop} (hgd : o.guard = none) (ty : TypeId) (x y : Operand) (ho : o.op = .store ty x y) (g : Nat) (hx : a.eval x = .pointer (some ⟨g, 0, none⟩)) (t : TypeId) (cur cs : Array Value)
    (hy : a.eval y = .agg cs) (hg : w.heap[g]? = some (.cells cur t (0, 0))) (hi : (P.info? ty).map (·.size) = some cs.size) (hs : cur.size = cs.size) (h1 : ∀ v ∈ cs.toList, v.oneCell' = true)
    (h : wpList P ops Q rest (a.put o.dst undef) (w.setRow g cs)) : wpList P ops Q (o :: rest) a w :=
  wpList_plain hgd fun _ hK => wp_store_row ty x y ho g hx t cur cs hy hg hi hs h1 (hK _ _ h)

theorem Bk.setRow {w : World} {g : Nat} {t : TypeId} {cur : Array Value} (h : Bk w g t cur) (cs : Array Value) : Bk (w.setRow g cs) g t cs := setRow_heap w g cur cs t (0, 0) h
theorem Fr.setRow {S : Nat → Prop} {w w' : World} (h : Fr S w w') (g : Nat) (cs : Array Value) (hg : g < w.heap.size → S g) : Fr S w (w'.setRow g cs) :=
  ⟨h.os, h.tape, h.output, by have := h.size; simp; omega, fun k hk hn => (setRow_other w' g k cs (fun e => hn (by subst e; exact hg hk))).trans (h.block k hk hn)⟩
theorem Bk.setRow_far {w : World} {g g' : Nat} {t : TypeId} {cur : Array Value} (h : Bk w g t cur) (cs : Array Value) (hg : g ≠ g') : Bk (w.setRow g' cs) g t cur := (setRow_other w g' g cs hg).trans h

/-- .. into a block that was just made: of the world behind, only what is known of it. -/
theorem wpList_store_row_abs {ops : Array Oper} {rest : List Oper} {o : Oper} {a : Act} {w : World} {Q : Exit → Act → World → Prop} (hgd : o.guard = none) (ty : TypeId) (x y : Operand) (ho : o.op = .store ty x y) (w0 : World) (hx : a.eval x = .pointer (some ⟨w0.heap.size, 0, none⟩)) (t : TypeId) (cur cs : Array Value)
    (hw : w = w0.alloc (.cells cur t)) (hy : a.eval y = .agg cs) (hi : (P.info? ty).map (·.size) = some cs.size) (hs : cur.size = cs.size) (h1 : ∀ v ∈ cs.toList, v.oneCell' = true)
    (h : ∀ W, Bk W w0.heap.size t cs → Below w0.heap.size w0 W → W.heap.size = w0.heap.size + 1 → wpList P ops Q rest (a.put o.dst undef) W) : wpList P ops Q (o :: rest) a w := by
  subst hw
  refine wpList_store_row hgd ty x y ho w0.heap.size hx t cur cs hy (heap_alloc_new w0 _) hi hs h1 (h _ (setRow_heap _ _ _ _ _ _ (heap_alloc_new w0 _)) ?_ (by simp))
  exact (((Fr.refl (fun _ => False) w0).alloc _).setRow _ _ (fun h => by omega)).below0

theorem run_equalIn_arr (w : World) (d n : Nat) (t e : TypeId) (k : IntKind) (l m : List Int) (ht : P.underlying t = some (.array n e)) (he : P.underlying e = some (.int k)) (hi : (P.info? e).map (·.size) = some 1) (hl : l.length = n) (hm : m.length = n) :
    (Op.equalIn (d + 2) t (.agg (l.map (Value.int k)).toArray) (.agg (m.map (Value.int k)).toArray)).run P w = .ok (decide (l = m)) w := by
  obtain ⟨i0, hq, hs⟩ : ∃ i0, P.info? e = some i0 ∧ i0.size = 1 := by
    cases hq : P.info? e with
    | none => simp [hq] at hi
    | some i0 => exact ⟨i0, rfl, by simpa [hq] using hi⟩
  have hsz : ∀ w, (sizeOf e).run P w = .ok 1 w := fun w => by simp [sizeOf, typeInfo, hq, hs]
  have hag : ∀ w, (isAgg e).run P w = .ok false w := fun w => by
    unfold isAgg
    rw [Sem.run_bind, run_underlying he w]
    rfl
  have hpart : ∀ (xs : List Int) (j : Nat) (w : World), j < xs.length → (part e (xs.map (Value.int k)).toArray (j * 1)).run P w = .ok (.int k (xs.getD j 0)) w := fun xs j w hj => by
    simp [part, Sem.run_bind, hag, hj]
  rw [show d + 2 = (d + 1) + 1 from rfl, Op.equalIn]
  simp only [Sem.run_bind, run_underlying ht, Result.andThen_ok, hsz, Std.Legacy.Range.forIn_eq_forIn_range']
  have hN : ([:n] : Std.Legacy.Range).size = n := by simp [Std.Legacy.Range.size]
  rw [hN]
  have key : ∀ (c i : Nat), i + c = n → (Sem.run P (forIn (List.range' i c) (none, ()) fun i (_ : Option Bool × Unit) => do
            let x ← part e (List.map (Value.int k) l).toArray (i * 1)
            let y ← part e (List.map (Value.int k) m).toArray (i * 1)
            let r ← Op.equalIn (d + 1) e x y
            if (!r) = true then pure (ForInStep.done (some false, ())) else pure (ForInStep.yield (none, ()))) w).andThen (fun a w' =>
      Sem.run P (match a.fst with | some r => (pure r : Sem Bool) | none => pure true) w') = Result.ok (decide (l.drop i = m.drop i)) w := by
    intro c
    induction c with
    | zero =>
      intro i hic
      rw [List.drop_of_length_le (by omega), List.drop_of_length_le (by omega)]
      simp
    | succ c ih =>
      intro i hic
      rw [List.range'_succ, List.forIn_cons]
      simp only [Sem.run_bind, hpart l i w (by omega), hpart m i w (by omega), Result.andThen_ok, run_equalIn_int w d e k k _ _ he]
      have hD : (l.drop i = m.drop i) = (l[i] = m[i] ∧ l.drop (i + 1) = m.drop (i + 1)) := by
        rw [List.drop_eq_getElem_cons (show i < l.length by omega), List.drop_eq_getElem_cons (show i < m.length by omega), List.cons.injEq]
      have e1 : l.getD i 0 = l[i] := by simp [List.getD, show i < l.length by omega]
      have e2 : m.getD i 0 = m[i] := by simp [List.getD, show i < m.length by omega]
      rw [e1, e2]
      by_cases hq : l[i] = m[i]
      · simp only [hq, beq_self_eq_true, Bool.not_true, Bool.false_eq_true, if_false, Sem.run_pure, Result.andThen_ok]
        have := ih (i + 1) (by omega)
        rw [this]
        simp [hD, hq]
      · have hb : (l[i] == m[i]) = false := by simp [hq]
        simp [hb, hD, hq]
  have := key n 0 (by omega)
  simp only [List.drop_zero] at this
  refine Eq.trans ?_ this
  congr 1
  funext a w'
  rcases a with ⟨_ | r, _⟩ <;> rfl

theorem run_eql_arr (w : World) (n : Nat) (t e : TypeId) (k : IntKind) (l m : List Int) (ht : P.underlying t = some (.array n e)) (he : P.underlying e = some (.int k)) (hi : (P.info? e).map (·.size) = some 1) (hl : l.length = n) (hm : m.length = n) :
    (binOp .eql t (.agg (l.map (Value.int k)).toArray) (.agg (m.map (Value.int k)).toArray)).run P w = .ok (.bool (decide (l = m))) w := by
  simp only [binOp]
  simp [Op.equal, Op.maxDepth, run_equalIn_arr w 9998 n t e k l m ht he hi hl hm]

theorem run_neq_arr (w : World) (n : Nat) (t e : TypeId) (k : IntKind) (l m : List Int) (ht : P.underlying t = some (.array n e)) (he : P.underlying e = some (.int k)) (hi : (P.info? e).map (·.size) = some 1) (hl : l.length = n) (hm : m.length = n) :
    (binOp .neq t (.agg (l.map (Value.int k)).toArray) (.agg (m.map (Value.int k)).toArray)).run P w = .ok (.bool (!decide (l = m))) w := by
  simp only [binOp]
  simp [Op.equal, Op.maxDepth, run_equalIn_arr w 9998 n t e k l m ht he hi hl hm]
end
end Go.Proofs.YteifdbfaclpcdaaR
