/- Radix: a tree of record.Record on memory. -/
import Derived.Test.YteifdbfaclpcdaaRRxA
namespace Go.Proofs.YteifdbfaclpcdaaR.Rr
open Go.RowKit

def ptrIf (b : Bool) (n : Nat) : Value := .pointer (if b then some ⟨n, 0, none⟩ else none)
/-- A node: what it leads to, what keys have, how many. -/
structure Node (w : World) (b : Nat) (dn hs : Nat → Value) (m : Int) : Prop where
  is : ∃ cs, Bk w b 139 cs ∧ (∀ d, d < 16 → cs[d]? = some (dn d)) ∧ (∀ d, d < 16 → cs[16 + d]? = some (hs d)) ∧ cs[32]? = some (.int .i64 m)

section
variable {S : Nat → Prop} {w w' : World} {b : Nat} {dx hx : Nat → Value} {m : Int}
theorem Node.lt (h : Node w b dx hx m) : b < w.heap.size := by
  obtain ⟨cs, h, -⟩ := h
  exact h.lt
theorem Node.ty (h : Node w b dx hx m) : ∃ cs, Bk w b 139 cs := by
  obtain ⟨cs, h, -⟩ := h
  exact ⟨cs, h⟩
theorem Node.dn (h : Node w b dx hx m) {d : Nat} (hd : d < 16) : w.cell? ⟨b, d, none⟩ = some (dx d) := by
  obtain ⟨cs, h, h1, -⟩ := h
  rw [h.cell, h1 d hd]
theorem Node.hs (h : Node w b dx hx m) {d : Nat} (hd : d < 16) : w.cell? ⟨b, 16 + d, none⟩ = some (hx d) := by
  obtain ⟨cs, h, -, h1, -⟩ := h
  rw [h.cell, h1 d hd]
theorem Node.many (h : Node w b dx hx m) : w.cell? ⟨b, 32, none⟩ = some (.int .i64 m) := by
  obtain ⟨cs, h, -, -, h1⟩ := h
  rw [h.cell, h1]
theorem Node.free (h : Node w b dx hx m) (i : Nat) : w.frozen? ⟨b, i, none⟩ = false := by
  obtain ⟨cs, h, -⟩ := h
  exact h.free i
theorem Node.fr (h : Node w b dx hx m) (hf : Fr S w w') (hb : ¬ S b) : Node w' b dx hx m := by
  obtain ⟨cs, h, h1⟩ := h
  exact ⟨cs, h.fr hf hb, h1⟩
theorem Node.far (h : Node w b dx hx m) {p : Addr} (hp : b ≠ p.block) (u : Value) : Node (w.setCell p u) b dx hx m := by
  obtain ⟨cs, h, h1⟩ := h
  exact ⟨cs, h.far hp u, h1⟩
theorem Node.setDn (h : Node w b dx hx m) {d : Nat} (hd : d < 16) (u : Value) : Node (w.setCell ⟨b, d, none⟩ u) b (fun i => if i = d then u else dx i) hx m := by
  obtain ⟨cs, h, h1, h2, h3⟩ := h
  refine ⟨_, h.set d u, fun i hi => ?_, fun i hi => ?_, ?_⟩
  · rw [Array.getElem?_setIfInBounds]
    by_cases e : i = d
    · subst e
      have : i < cs.size := (Array.getElem?_eq_some_iff.1 (h1 i hi)).1
      simp [this]
    · rw [if_neg (fun e' => e e'.symm), if_neg e, h1 i hi]
  · rw [Array.getElem?_setIfInBounds, if_neg (by omega), h2 i hi]
  · rw [Array.getElem?_setIfInBounds, if_neg (by omega), h3]
theorem Node.setHs (h : Node w b dx hx m) {d : Nat} (hd : d < 16) (u : Value) : Node (w.setCell ⟨b, 16 + d, none⟩ u) b dx (fun i => if i = d then u else hx i) m := by
  obtain ⟨cs, h, h1, h2, h3⟩ := h
  refine ⟨_, h.set (16 + d) u, fun i hi => ?_, fun i hi => ?_, ?_⟩
  · rw [Array.getElem?_setIfInBounds, if_neg (by omega), h1 i hi]
  · rw [Array.getElem?_setIfInBounds]
    by_cases e : i = d
    · subst e
      have : 16 + i < cs.size := (Array.getElem?_eq_some_iff.1 (h2 i hi)).1
      simp [this]
    · rw [if_neg (by omega), if_neg e, h2 i hi]
  · rw [Array.getElem?_setIfInBounds, if_neg (by omega), h3]
theorem Node.setMany (h : Node w b dx hx m) (k : Int) : Node (w.setCell ⟨b, 32, none⟩ (.int .i64 k)) b dx hx k := by
  obtain ⟨cs, h, h1, h2, h3⟩ := h
  refine ⟨_, h.set 32 _, fun i hi => ?_, fun i hi => ?_, ?_⟩
  · rw [Array.getElem?_setIfInBounds, if_neg (by omega), h1 i hi]
  · rw [Array.getElem?_setIfInBounds, if_neg (by omega), h2 i hi]
  · have : 32 < cs.size := (Array.getElem?_eq_some_iff.1 h3).1
    simp [this]
theorem Node.congr {dn' hs' : Nat → Value} (h : Node w b dx hx m) (hd : ∀ d, d < 16 → dn' d = dx d) (hh : ∀ d, d < 16 → hs' d = hx d) : Node w b dn' hs' m := by
  obtain ⟨cs, h, h1, h2, h3⟩ := h
  exact ⟨cs, h, fun d hlt => by rw [hd d hlt, h1 d hlt], fun d hlt => by rw [hh d hlt, h2 d hlt], h3⟩
end

/-- What a node leads to, and what its keys have. -/
def dnOf (ex : Nat → Nat → Bool) (nd : Nat → Nat → Nat) (l p : Nat) : Nat → Value := fun d => if l = 3 then .pointer none else ptrIf (ex (l + 1) (16 * p + d)) (nd (l + 1) (16 * p + d))
def hsOf (ex : Nat → Nat → Bool) (nd : Nat → Nat → Nat) (l p : Nat) : Nat → Value := fun d => if l = 3 then ptrIf (ex (l + 1) (16 * p + d)) (nd (l + 1) (16 * p + d)) else .pointer none
/-- The tree: ex: which beginnings there are, nd: their blocks (of four digits: what keys have), mn: how many each node counts. -/
structure TrM (w : World) (base g : Nat) (ex : Nat → Nat → Bool) (nd mn : Nat → Nat → Nat) (f : Nat → Option Value) (many nodes : Nat) : Prop where
  top : Bk w g 133 #[ptrIf (ex 0 0) (nd 0 0), .int .i64 many, .int .i64 nodes]
  node : ∀ l p, l ≤ 3 → ex l p = true → Node w (nd l p) (dnOf ex nd l p) (hsOf ex nd l p) (mn l p)
  val : ∀ k v, ex 4 k = true → f k = some v → Bk w (nd 4 k) 83 v.cells
  apart : ∀ l p l' p', l ≤ 3 → l' ≤ 3 → ex l p = true → ex l' p' = true → nd l p = nd l' p' → l = l' ∧ p = p'
  lo : base ≤ g
  loN : ∀ l p, l ≤ 3 → ex l p = true → base ≤ nd l p
/-- What a call on the tree may turn. -/
def TrS (g : Nat) (ex : Nat → Nat → Bool) (nd : Nat → Nat → Nat) : Nat → Prop := fun b => b = g ∨ ∃ l p, l ≤ 3 ∧ ex l p = true ∧ b = nd l p
/-- What a beginning's block is, one of them otherwise. -/
def setN (nd : Nat → Nat → Nat) (l p b : Nat) : Nat → Nat → Nat := fun l' p' => if l' = l ∧ p' = p then b else nd l' p'
theorem setN_same (nd : Nat → Nat → Nat) (l p b : Nat) : setN nd l p b l p = b := by simp [setN]
theorem setN_ne {nd : Nat → Nat → Nat} {l p l' p' b : Nat} (h : ¬(l' = l ∧ p' = p)) : setN nd l p b l' p' = nd l' p' := by
  unfold setN
  rw [if_neg h]

section
variable {S : Nat → Prop} {w w' : World} {base g many nodes : Nat} {ex : Nat → Nat → Bool} {nd mn : Nat → Nat → Nat} {f : Nat → Option Value}
theorem TrM.fr (h : TrM w base g ex nd mn f many nodes) (hf : Fr S w w') (hS : ∀ b, b < w.heap.size → S b → ∀ t cs, Bk w b t cs → t ≠ 133 ∧ t ≠ 139 ∧ t ≠ 83) : TrM w' base g ex nd mn f many nodes := by
  refine ⟨h.top.fr hf fun hs => (hS _ h.top.lt hs _ _ h.top).1 rfl, fun l p hl hp => ?_, fun k v hk hv => ?_, h.apart, h.lo, h.loN⟩
  · have hn := h.node l p hl hp
    obtain ⟨cs, hb⟩ := hn.ty
    exact hn.fr hf fun hs => (hS _ hb.lt hs _ _ hb).2.1 rfl
  · have hb := h.val k v hk hv
    exact hb.fr hf fun hs => (hS _ hb.lt hs _ _ hb).2.2 rfl
theorem TrM.below0 (h : TrM w base g ex nd mn f many nodes) (hb : Below w.heap.size w w') : TrM w' base g ex nd mn f many nodes := h.fr (S := fun _ => False) (Fr.of_below0 hb) fun _ _ hs => hs.elim
theorem TrM.alloc (h : TrM w base g ex nd mn f many nodes) (o : Obj) : TrM (w.alloc o) base g ex nd mn f many nodes := h.below0 ((Fr.refl (fun _ => False) w).alloc o).below0
theorem TrM.drewN (h : TrM w base g ex nd mn f many nodes) (n : Nat) : TrM (w.drewN n) base g ex nd mn f many nodes := h.below0 ((Fr.refl (fun _ => False) w).drewN n).below0
theorem TrM.nd_ne (h : TrM w base g ex nd mn f many nodes) {l p : Nat} (hl : l ≤ 3) (hp : ex l p = true) : nd l p ≠ g := by
  obtain ⟨cs, hb⟩ := (h.node l p hl hp).ty
  exact hb.ne h.top (by decide)
theorem TrM.val_ne (h : TrM w base g ex nd mn f many nodes) {k : Nat} {v : Value} (hk : ex 4 k = true) (hv : f k = some v) : nd 4 k ≠ g ∧ ∀ l p, l ≤ 3 → ex l p = true → nd 4 k ≠ nd l p := by
  refine ⟨(h.val k v hk hv).ne h.top (by decide), fun l p hl hp => ?_⟩
  obtain ⟨cs, hb⟩ := (h.node l p hl hp).ty
  exact (h.val k v hk hv).ne hb (by decide)
/-- What the walk reads. -/
theorem TrM.rootC (h : TrM w base g ex nd mn f many nodes) : w.cell? ⟨g, 0, none⟩ = some (ptrIf (ex 0 0) (nd 0 0)) := h.top.cell 0
theorem TrM.manyC (h : TrM w base g ex nd mn f many nodes) : w.cell? ⟨g, 1, none⟩ = some (.int .i64 many) := h.top.cell 1
theorem TrM.nodesC (h : TrM w base g ex nd mn f many nodes) : w.cell? ⟨g, 2, none⟩ = some (.int .i64 nodes) := h.top.cell 2
theorem TrM.topFree (h : TrM w base g ex nd mn f many nodes) (i : Nat) : w.frozen? ⟨g, i, none⟩ = false := h.top.free i
theorem TrM.dnC (h : TrM w base g ex nd mn f many nodes) {l p d : Nat} (hl : l ≤ 2) (hp : ex l p = true) (hd : d < 16) : w.cell? ⟨nd l p, d, none⟩ = some (ptrIf (ex (l + 1) (16 * p + d)) (nd (l + 1) (16 * p + d))) := by
  rw [(h.node l p (by omega) hp).dn hd]
  unfold dnOf
  rw [if_neg (by omega)]
theorem TrM.hsC (h : TrM w base g ex nd mn f many nodes) {p d : Nat} (hp : ex 3 p = true) (hd : d < 16) : w.cell? ⟨nd 3 p, 16 + d, none⟩ = some (ptrIf (ex 4 (16 * p + d)) (nd 4 (16 * p + d))) := (h.node 3 p (by omega) hp).hs hd
theorem TrM.mnC (h : TrM w base g ex nd mn f many nodes) {l p : Nat} (hl : l ≤ 3) (hp : ex l p = true) : w.cell? ⟨nd l p, 32, none⟩ = some (.int .i64 (mn l p)) := (h.node l p hl hp).many
theorem TrM.nodeFree (h : TrM w base g ex nd mn f many nodes) {l p : Nat} (hl : l ≤ 3) (hp : ex l p = true) (i : Nat) : w.frozen? ⟨nd l p, i, none⟩ = false := (h.node l p hl hp).free i
theorem TrM.valC (h : TrM w base g ex nd mn f many nodes) {k : Nat} {v : Value} (hk : ex 4 k = true) (hv : f k = some v) (i : Nat) : w.cell? ⟨nd 4 k, i, none⟩ = v.cells[i]? := (h.val k v hk hv).cell i
end
end Go.Proofs.YteifdbfaclpcdaaR.Rr
