/- The walk of gunnylaw22.EntryPlays: words. -/
import Derived.Test.YteifdbfaclpcdaaREntG
import Derived.Deep.DeepCutAuto
import Derived.Deep.CutBlock
import Derived.Deep.RegionHeld3
import Derived.BigQuiet
namespace Go.Proofs.YteifdbfaclpcdaaR
open Go.RowKit

section
variable {P : Program}
theorem run_load_row {o : Oper} {a : Act} (w : World) (ty : TypeId) (x : Operand) (ho : o.op = .load ty x) (g : Nat) (hx : a.eval x = .pointer (some ⟨g, 0, none⟩)) (t : TypeId) (cs : Array Value) (d : TypeDesc) (hg : Bk w g t cs)
    (hu : P.underlying ty = some d) (hd : (match d with | .struct _ | .array _ _ => true | _ => false) = true) (hi : (P.info? ty).map (·.size) = some cs.size) : (execOp a.eval o).run P w = .ok (.value (.agg cs)) w := by
  unfold execOp
  simp only [ho, hx, Instr.loadAt, Instr.sureAddr, Sem.run_bind, Sem.run_pure, Result.andThen_ok, run_loadVar_row w g t ty cs (0, 0) d hg hu hd hi]
theorem quiet_load_row {o : Oper} {a : Act} {C : World → Prop} {K : Act → Prop} (ty : TypeId) (x : Operand) (ho : o.op = .load ty x) (g : Nat) (hx : a.eval x = .pointer (some ⟨g, 0, none⟩)) (t : TypeId) (cs : Array Value) (d : TypeDesc) (hg : ∀ w, C w → Bk w g t cs)
    (hu : P.underlying ty = some d) (hd : (match d with | .struct _ | .array _ _ => true | _ => false) = true) (hi : (P.info? ty).map (·.size) = some cs.size) (h : K (a.put o.dst (.agg cs))) : o.quiet P a C K :=
  ⟨.agg cs, fun w hw => by unfold Oper.quietAt; rw [run_load_row w ty x ho g hx t cs d (hg w hw) hu hd hi]; exact ⟨rfl, rfl⟩, h⟩
/-- A quiet region, of whatever class of worlds. -/
theorem wp_region_class {id : Nat} {Q : Exit → Act → World → Prop} {a : Act} {w : World} {l : List Oper} (C : World → Prop) (hm : P.follows .mixedOrders = true) (hB : Region.lexB .any l.toArray = true) (hC : C w.drew)
    (h : wpQuiet P l.toArray C (fun a' => ∀ w', C w' → Q .normal a' w') l a) : (Code.region id l.toArray true).wp P Q a w :=
  wp_region_quiet (C := C) hm hB hC (by simpa using h)
end
theorem refBuild (w : World) : (Instr.build 62 #[]).run Try.prog w = .ok (.agg (refCells (refOf fun _ => false) 0)) w := by
  rw [← refZero]
  kernel_rfl
theorem wpList_build_ref {ops : Array Oper} {rest : List Oper} {o : Oper} {a : Act} {w : World} {Q : Exit → Act → World → Prop} (hgd : o.guard = none) (ho : o.op = .build 62 #[])
    (h : wpList Try.prog ops Q rest (a.put o.dst (.agg (refCells (refOf fun _ => false) 0))) w) : wpList Try.prog ops Q (o :: rest) a w :=
  wpList_plain hgd fun _ hK => by
    unfold Oper.wp execOp
    simp only [ho, Array.map_empty, refBuild, Sem.run_bind, Sem.run_pure, Result.andThen_ok]
    exact hK _ _ h

/-- A list of numbers, in a slice. -/
structure Ls where
  A : Option Addr
  c : Nat
  ks : List Int
instance : Inhabited Ls := ⟨⟨none, 0, []⟩⟩
def LsAt (w : World) (B : Nat) (A : Option Addr) (L : List Ls) : Prop :=
  ∀ i d, L[i]? = some d → ∃ b o, A = some ⟨b, o, none⟩ ∧ b < B ∧ w.cell? ⟨b, o + i, none⟩ = some (.slice d.A d.ks.length d.c) ∧ RdI w B d.A d.ks
theorem LsAt.below {w w' : World} {B : Nat} {A : Option Addr} {L : List Ls} (h : LsAt w B A L) (hb : Below B w w') : LsAt w' B A L := fun i d hd => by
  obtain ⟨b, o, h1, h2, h3, h4⟩ := h i d hd
  exact ⟨b, o, h1, h2, (hb.cell (p := ⟨b, o + i, none⟩) h2).trans h3, h4.below hb⟩

section
variable {w0 w w' w'' : World} {e g gw z y last last2 : Nat} {f f2 : Nat → Bool}
theorem EpRun.lts (h : EpRun w0 w e g gw z f last) : e < w.heap.size ∧ g < w.heap.size ∧ gw < w.heap.size ∧ z < w.heap.size :=
  ⟨h.ent.top.lt, h.ent.set.lt.1, h.ent.set.lt.2, h.bk.lt⟩
theorem EpRun.far (h : EpRun w0 w e g gw z f last) (hF : Fr (fun x => x = y) w w') (h1 : y ≠ e ∧ y ≠ g ∧ y ≠ gw ∧ y ≠ z) (hy : w0.heap.size ≤ y) : EpRun w0 w' e g gw z f last :=
  ⟨h.ent.fr hF (fun h => h1.1 h.symm) (fun h => h1.2.1 h.symm) (fun h => h1.2.2.1 h.symm), h.bk.fr hF (fun h => h1.2.2.2 h.symm), h.ne, h.b, h.below.trans (hF.below h.below.size fun k hk e => by omega)⟩
theorem EpRun.ent' (h : EpRun w0 w e g gw z f last) (hF : Fr (fun x => x = z) w w') : EntAt w' e g gw f last :=
  h.ent.fr hF (fun e => h.ne.1 e.symm) (fun e => h.ne.2.1 e.symm) (fun e => h.ne.2.2 e.symm)
theorem EpRun.put (h : EpRun w0 w e g gw z f last) (hz : Bk w' z 62 (refCells (refOf f2) last2)) (hF : Fr (fun x => x = z) w w') (hE : EntAt w'' e g gw f2 last2) (hF2 : Fr (fun b => b = e ∨ b = g ∨ b = gw) w' w'') : EpRun w0 w'' e g gw z f2 last2 :=
  have hb := h.below.trans (hF.below h.below.size fun k hk e => by have := h.b; omega)
  ⟨hE, hz.fr hF2 (fun hh => by have := h.ne; omega), h.ne, h.b, hb.trans (hF2.below hb.size fun k hk e => by have := h.b; omega)⟩
end
end Go.Proofs.YteifdbfaclpcdaaR
