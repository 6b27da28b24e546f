/- Words for a drawn region walked by hand: a whole block loaded. Nothing of the program stands here. -/
import Derived.Test.YteifdbfaclpcdaaRGyRow
import Derived.Deep.RegionHeld3
namespace Go.Proofs.YteifdbfaclpcdaaR
open Go.RowKit
section
variable {P : Program}
theorem run_load_row' {o : Oper} {a : Act} (w : World) (ty : TypeId) (x : Operand) (ho : o.op = .load ty x) (g : Nat) (hx : a.eval x = .pointer (some ⟨g, 0, none⟩)) (t : TypeId) (cs : Array Value) (d : TypeDesc) (hg : Bk w g t cs)
    (hu : P.underlying ty = some d) (hd : (match d with | .struct _ | .array _ _ => true | _ => false) = true) (hi : (P.info? ty).map (·.size) = some cs.size) : (execOp a.eval o).run P w = .ok (.value (.agg cs)) w := by
  unfold execOp
  simp only [ho, hx, Instr.loadAt, Instr.sureAddr, Sem.run_bind, Sem.run_pure, Result.andThen_ok, run_loadVar_row w g t ty cs (0, 0) d hg hu hd hi]
end
end Go.Proofs.YteifdbfaclpcdaaR
