/- Radix: New, grown, Len, Nodes. -/
import Derived.Test.YteifdbfaclpcdaaRRrB
import Derived.BigQuiet
import Derived.Deep.QuietTactic
namespace Go.Proofs.YteifdbfaclpcdaaR.Rr
open Go.RowKit

theorem Node.zero {w : World} {b : Nat} (h : Bk w b 139 #[.pointer none, .pointer none, .pointer none, .pointer none, .pointer none, .pointer none, .pointer none, .pointer none, .pointer none, .pointer none, .pointer none, .pointer none, .pointer none, .pointer none, .pointer none, .pointer none, .pointer none, .pointer none, .pointer none, .pointer none, .pointer none, .pointer none, .pointer none, .pointer none, .pointer none, .pointer none, .pointer none, .pointer none, .pointer none, .pointer none, .pointer none, .pointer none, .int .i64 0]) : Node w b (fun _ => .pointer none) (fun _ => .pointer none) 0 := by
  refine ⟨_, h, fun d hd => ?_, fun d hd => ?_, rfl⟩
  · rcases (by omega : d = 0 ∨ d = 1 ∨ d = 2 ∨ d = 3 ∨ d = 4 ∨ d = 5 ∨ d = 6 ∨ d = 7 ∨ d = 8 ∨ d = 9 ∨ d = 10 ∨ d = 11 ∨ d = 12 ∨ d = 13 ∨ d = 14 ∨ d = 15) with rfl | rfl | rfl | rfl | rfl | rfl | rfl | rfl | rfl | rfl | rfl | rfl | rfl | rfl | rfl | rfl <;> rfl
  · rcases (by omega : d = 0 ∨ d = 1 ∨ d = 2 ∨ d = 3 ∨ d = 4 ∨ d = 5 ∨ d = 6 ∨ d = 7 ∨ d = 8 ∨ d = 9 ∨ d = 10 ∨ d = 11 ∨ d = 12 ∨ d = 13 ∨ d = 14 ∨ d = 15) with rfl | rfl | rfl | rfl | rfl | rfl | rfl | rfl | rfl | rfl | rfl | rfl | rfl | rfl | rfl | rfl <;> rfl

theorem rGrownHas (w : World) (g b : Nat) : Calls Try.prog 81 #[.pointer (some ⟨g, 0, none⟩), .pointer (some ⟨b, 0, none⟩)] w fun e w' => e = .returned (.pointer (some ⟨b, 0, none⟩)) ∧ w' = w := by
  go_enter Try.func81, Try.ntmps81
  go_wp2_with fail
  go_ret
  exact ⟨rfl, rfl⟩
set_option maxRecDepth 100000 in
theorem rGrownNew {w : World} {g : Nat} {r : Value} {many nodes : Nat} (h : Bk w g 133 #[r, .int .i64 many, .int .i64 nodes]) (hn : nodes < 100000) :
    Calls Try.prog 81 #[.pointer (some ⟨g, 0, none⟩), .pointer none] w fun e w' => ∃ b, e = .returned (.pointer (some ⟨b, 0, none⟩)) ∧ w.heap.size ≤ b ∧ Node w' b (fun _ => .pointer none) (fun _ => .pointer none) 0 ∧
      Bk w' g 133 #[r, .int .i64 many, .int .i64 (nodes + 1 : Nat)] ∧ Fr (fun k => k = g) w w' := by
  have HT := Lib.hid h
  have hc : w.cell? ⟨g, 2, none⟩ = some (.int .i64 nodes) := h.cell 2
  have hf : w.frozen? ⟨g, 2, none⟩ = false := h.free 2
  clear h
  go_enter Try.func81, Try.ntmps81
  go_wp2_with (with_reducible refine wpList_dst 15 ?_; refine wpList_box_abs rfl 139 (.tmp 14) rfl _ rfl ?_; intro W b hb hN hB)
  go_ret
  have hF := (Fr.refl (fun k => k = g) w).set ⟨g, 2, none⟩ (.int .i64 (nodes + 1)) fun _ => rfl
  have h2 := HT.out.set 2 (.int .i64 (nodes + 1))
  refine ⟨b, rfl, by simpa [World.setCell] using hb, Node.zero hN, ?_, hF.trans (Fr.of_below0 (S := fun _ => False) hB) fun _ _ => False.elim⟩
  have h3 := h2.below' hB
  simpa using h3

theorem rNew (w : World) : Calls Try.prog 69 #[] w fun e w' => ∃ g, e = .returned (.pointer (some ⟨g, 0, none⟩)) ∧ w.heap.size ≤ g ∧ Bk w' g 133 #[.pointer none, .int .i64 0, .int .i64 0] ∧ Below w.heap.size w w' := by
  go_enter Try.func69, Try.ntmps69
  go_wp2_with fail
  go_ret
  exact ⟨_, rfl, Nat.le_refl _, Bk.new _ _ _, (Below.refl _ _).alloc (Nat.le_refl _) _⟩
theorem rLen {w : World} {base g many nodes : Nat} {ex : Nat → Nat → Bool} {nd mn : Nat → Nat → Nat} {f : Nat → Option Value} (h : TrM w base g ex nd mn f many nodes) :
    Calls Try.prog 73 #[.pointer (some ⟨g, 0, none⟩)] w fun e w' => e = .returned (.int .i64 many) ∧ w' = w := by
  have hc := h.manyC
  clear h
  go_enter Try.func73, Try.ntmps73
  go_wp2_with fail
  go_ret
  exact ⟨rfl, rfl⟩
end Go.Proofs.YteifdbfaclpcdaaR.Rr
