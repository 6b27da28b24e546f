/- Slots: a step of both, any deed; words for SlotsPlays' loop. -/
import Derived.Test.YtcbfaahnhdmagaaDoorSlDr
import Derived.Test.YtcbfaahnhdmagaaDoorSlLk
import Derived.BigQuiet
namespace Go.Proofs.YtcbfaahnhdmagaaDoor
open Go.RowKit

theorem step_any {w0 w : World} {S : Nat → Prop} {gs gd gl gb g gw a many bs cL c : Nat} {l : List Bool} {pg : Nat → List UInt8} {f : Nat → Bool} {A AL : Option Addr} {rs : List Pg} (hT : Tab w0) (h : Bth w0 w S gs gd gl gb g gw l a many pg f bs AL cL rs)
    (hA : RdB w0 w0.heap.size A l) (hl : l.length ≤ 3000) (ha : a ≤ 800000) (kd nd : Int) (fd : UInt8) {dA : Option Addr} {dc : Nat} {db : List UInt8} (hd : RdY w0 w0.heap.size dA db) (hdc : db.length ≤ dc) :
    Calls Tryd.prog 34 #[.pointer (some ⟨gs, 0, none⟩), .agg #[.int .i64 many, .slice A l.length c, .int .i64 a, .slice AL rs.length cL], .agg #[.int .i64 kd, .int .i64 nd, .int .u8 (fd.toNat : Int), .slice dA db.length dc]] w (StepQ w0 w S gs gd gl gb g gw l a many bs A c) := by
  have hk : (kd = 0 ∨ kd = 1 ∨ kd = 2) ∨ kd = 3 ∨ kd = 4 ∨ (kd < 0 ∨ 4 < kd) := by omega
  rcases hk with hk | rfl | rfl | hk
  · exact step_put hT h hA hl ha hd hdc hk
  · exact step_page h hA hl ha nd fd dA db.length dc
  · exact step_drop h hA hl ha nd fd dA db.length dc
  · exact step_look h hA hl ha hk nd fd dA db.length dc

section
variable {P : Program}
theorem run_load_row {o : Oper} {a : Act} (w : World) (ty : TypeId) (x : Operand) (ho : o.op = .load ty x) (g : Nat) (hx : a.eval x = .pointer (some ⟨g, 0, none⟩)) (t : TypeId) (cs : Array Value) (d : TypeDesc) (hg : Bk w g t cs)
    (hu : P.underlying ty = some d) (hd : (match d with | .struct _ | .array _ _ => true | _ => false) = true) (hi : (P.info? ty).map (·.size) = some cs.size) : (execOp a.eval o).run P w = .ok (.value (.agg cs)) w := by
  unfold execOp
  simp only [ho, hx, Instr.loadAt, Instr.sureAddr, Sem.run_bind, Sem.run_pure, Result.andThen_ok, run_loadVar_row w g t ty cs (0, 0) d hg hu hd hi]
theorem quiet_load_row {o : Oper} {a : Act} {C : World → Prop} {K : Act → Prop} (ty : TypeId) (x : Operand) (ho : o.op = .load ty x) (g : Nat) (hx : a.eval x = .pointer (some ⟨g, 0, none⟩)) (t : TypeId) (cs : Array Value) (d : TypeDesc) (hg : ∀ w, C w → Bk w g t cs)
    (hu : P.underlying ty = some d) (hd : (match d with | .struct _ | .array _ _ => true | _ => false) = true) (hi : (P.info? ty).map (·.size) = some cs.size) (h : K (a.put o.dst (.agg cs))) : o.quiet P a C K :=
  ⟨.agg cs, fun w hw => by unfold Oper.quietAt; rw [run_load_row w ty x ho g hx t cs d (hg w hw) hu hd hi]; exact ⟨rfl, rfl⟩, h⟩
/-- A quiet region, of whatever class of worlds. -/
theorem wp_region_class {id : Nat} {Q : Exit → Act → World → Prop} {a : Act} {w : World} {l : List Oper} (C : World → Prop) (hm : P.follows .mixedOrders = true) (hB : Region.lexB .any l.toArray = true) (hC : C w.drew)
    (h : wpQuiet P l.toArray C (fun a' => ∀ w', C w' → Q .normal a' w') l a) : (Code.region id l.toArray true).wp P Q a w :=
  wp_region_quiet (C := C) hm hB hC (by simpa using h)
end
/-- Both, and the law's variable that has the reference's. -/
structure PlS (w0 w : World) (S : Nat → Prop) (gs gd gl gb g gw gx : Nat) (A : Option Addr) (c : Nat) (l : List Bool) (a many : Nat) (pg : Nat → List UInt8) (f : Nat → Bool) (bs : Nat) (AL : Option Addr) (cL : Nat) (rs : List Pg) : Prop where
  bth : Bth w0 w S gs gd gl gb g gw l a many pg f bs AL cL rs
  var : Bk w gx 70 #[.int .i64 many, .slice A l.length c, .int .i64 a, .slice AL rs.length cL]
  lo : bs ≤ gx
section
variable {w0 w w' : World} {S : Nat → Prop} {gs gd gl gb g gw gx a many bs cL c : Nat} {l : List Bool} {pg : Nat → List UInt8} {f : Nat → Bool} {A AL : Option Addr} {rs : List Pg}
theorem PlS.below0 (h : PlS w0 w S gs gd gl gb g gw gx A c l a many pg f bs AL cL rs) (hb : Below w.heap.size w w') : PlS w0 w' S gs gd gl gb g gw gx A c l a many pg f bs AL cL rs :=
  ⟨h.bth.below0 hb, h.var.below' hb, h.lo⟩
theorem PlS.drewN (h : PlS w0 w S gs gd gl gb g gw gx A c l a many pg f bs AL cL rs) (n : Nat) : PlS w0 (w.drewN n) S gs gd gl gb g gw gx A c l a many pg f bs AL cL rs :=
  ⟨h.bth.drewN n, h.var.drewN n, h.lo⟩
/-- A box of the reference's that was stored anew. -/
theorem Bth.setS {q : Nat} {cs : Array Value} (h : Bth w0 w S gs gd gl gb g gw l a many pg f bs AL cL rs) (hZ : Bk w q 70 cs) (hq : bs ≤ q) (b0 b1 b2 b3 : Value) : Bth w0 ((((w.setCell ⟨q, 0, none⟩ b0).setCell ⟨q, 1, none⟩ b1).setCell ⟨q, 2, none⟩ b2).setCell ⟨q, 3, none⟩ b3) S gs gd gl gb g gw l a many pg f bs AL cL rs := by
  have hf := fr_set4 w q b0 b1 b2 b3
  refine ⟨h.sl.far hf fun k e => ?_, h.ref.far hZ hf, h.ties, h.old, h.lo, Nat.le_trans h.hi hf.size⟩
  subst e
  exact ⟨Nat.le_trans h.lo hq, h.farB hq⟩
end
end Go.Proofs.YtcbfaahnhdmagaaDoor
