/- The listed variable math/bits.deBruijn64tab: its cells; the door's own heap. -/
import Derived.Test.YtcbfaahnhdmagaaDoorRows
import Derived.Test.YtcbfaahnhdmagaaDoorBtsA
import Derived.WalkKit
import Derived.ProofKit
import Derived.LaidMore
import Derived.OpenShut
import Derived.Stop.Joined
namespace Go.Proofs.YtcbfaahnhdmagaaDoor
open Go.ChangeShapes Go.WideShapes Go.ChangeAt Go.WideElems Go.RowKit

def laidT : List (String × DataW Unit) := [("math/bits.deBruijn64tab", Rows.laid_math_bits_deBruijn64tab)]
theorem gTab : Tryd.prog.globalNamed "math/bits.deBruijn64tab" = some 0 := by kernel_rfl
theorem tTab : (Tryd.prog.globals[0]?).map (·.type) = some 103 := by kernel_rfl

theorem door_met (os : Os) (args : Array Value) : laidMetH Tryd.prog laidT ((World.doorLaid Tryd.prog 400 os).forCall (fun _ _ => 0) ⟨#[], args, []⟩).memory :=
  laidMetH_of_parts3 (fuel := 8) (laidMet_of_run' 8 (by kernel_rfl) (by kernel_rfl)) (by kernel_rfl) (by kernel_rfl)

theorem tab_of_laid {W : World} (h : laidMetH Tryd.prog laidT W) : Tab W := by
  rw [MakeChecks.laidMetH_plain _ _ _ (by kernel_rfl)] at h
  obtain ⟨ps, ⟨g0, t0, cs0, f0, p0, q0, hg0, ht0, hv0, hd0, _⟩, _, _⟩ := h
  obtain rfl := Option.some.inj (gTab.symm.trans hg0)
  obtain rfl := Option.some.inj (tTab.symm.trans ht0)
  obtain ⟨xs, m1, rfl, hx1, hlen, hn3, hel⟩ := DataW.trod_array Tryd.underlying103 hd0
  have c1 : Tryd.prog.cellsOf 5 = 1 := by kernel_rfl
  simp only [Prod.mk.injEq] at hx1
  intro j hj
  have hj : j < 64 := hj
  have h0 := hel j (by omega)
  have hj2 : j < xs.length := by omega
  rw [List.getElem?_eq_getElem hj2, c1, Nat.mul_one] at h0
  obtain ⟨k, e1, e2, _⟩ := DataW.trod_int Tryd.underlying5 h0
  have el : (Rows.laid_math_bits_deBruijn64tab : DataW Unit) = .agg (Lib.deBruijn64tab.map fun n : Nat => .lit (.int .u8 (n : Int))) := by rfl
  have hx2 : Lib.deBruijn64tab.map (fun n : Nat => (.lit (.int .u8 (n : Int)) : DataW Unit)) = xs.map (·.1) := by
    have := el.symm.trans hx1.1
    injection this
  have h3 : (Lib.deBruijn64tab.map fun n : Nat => (.lit (.int .u8 (n : Int)) : DataW Unit))[j]? = some xs[j].1 := by
    rw [hx2, List.getElem?_map, List.getElem?_eq_getElem hj2]
    rfl
  rw [e2, List.getElem?_map] at h3
  have h4 : Lib.deBruijn64tab[j]? = some (Lib.deBruijn64tab.getD j 0) := by
    rw [List.getD_eq_getElem?_getD, List.getElem?_eq_getElem (show j < Lib.deBruijn64tab.length from hj)]
    rfl
  rw [h4] at h3
  simp at h3
  have h5 := World.var?_cell hg0 hv0 j
  have h6 : cs0.toList[j]? = some (.int .u8 k) := by
    have : (List.take 1 (List.drop j cs0.toList))[0]? = some (Value.int .u8 k) := by rw [e1]; rfl
    simpa using this
  rw [h5, ← Array.getElem?_toList, h6, ← h3]
  simp
end Go.Proofs.YtcbfaahnhdmagaaDoor
