/- gunnylaw27: lives and CountBack. -/
import Derived.Test.YteifdbfaclpcdaaRCntF
import Derived.Deep.RegionHeld3
namespace Go.Proofs.YteifdbfaclpcdaaR
open Go.RowKit

/-- A literal slice of ints, just made. -/
theorem rd_lit (w : World) (l : List Int) {n : Nat} (hn : n = w.heap.size) : RdI (w.alloc (.cells (l.map (Value.int .i64)).toArray 3)) (n + 1) (some ⟨n, 0, none⟩) l := by
  subst hn
  intro k u hu
  have hb0 : Bk (w.alloc (.cells (l.map (Value.int .i64)).toArray 3)) w.heap.size 3 (l.map (Value.int .i64)).toArray := Bk.new _ _ _
  refine ⟨_, rfl, by simp, ?_⟩
  have e : ((⟨w.heap.size, 0, none⟩ : Addr).add k) = ⟨w.heap.size, k, none⟩ := by unfold Addr.add; split <;> simp_all
  rw [e, hb0.cell]
  simpa using hu

theorem cntAt_new (w : World) : CntAt (w.alloc (.cells (cntCells fun _ => 0) 99)) w.heap.size (fun _ => 0) := Bk.new _ _ _

set_option maxRecDepth 100000 in
set_option maxHeartbeats 2000000 in
theorem cntLives (w : World) : Calls Try.prog 20 #[] w fun e w' => e = .returned (.bool true) ∧ Below w.heap.size w w' := by
  go_enter Try.func20, Try.ntmps20
  go_wp2_with (go_at_call 21; refine (cNew_any _).mono ?_; rintro e w1 ⟨rfl, hw1⟩; have hc1 : CntAt w1 w.heap.size (fun _ => 0) := hw1 ▸ cntAt_new w; have hB1 : Below w.heap.size w w1 := hw1 ▸ (Below.refl _ _).alloc (Nat.le_refl _) _; have hs1 : w1.heap.size = w.heap.size + 1 := (by rw [hw1]; simp); clear hw1)
  have HR := Lib.hid (rd_lit w1 [1, 1, 2] hs1.symm)
  refine (cIn_any (ks := [1, 1, 2]) (hc1.fr ((Fr.refl (fun _ => False) w1).alloc _) id) HR.out (by simp; omega) (fun ad e _ => by injection e with e; subst e; simp) 0 (fun _ => Nat.le_refl _) (by simp)).mono ?_
  rintro e w2 ⟨rfl, hc2, hF2⟩
  rw [show valid [1, 1, 2] = 3 from rfl]
  go_wp2_with fail
  refine (cTurn_any hc2 3 (putN_le (M := 0) (fun _ => Nat.le_refl _) _) (by omega) 1 3).mono ?_
  rintro e w3 ⟨rfl, hc3, hF3⟩
  rw [show turnOk (putN (fun _ => 0) [1, 1, 2]) 1 3 = true from rfl]
  go_wp2_with fail
  have hbd : ∀ i, turned (putN (fun _ => 0) [1, 1, 2]) 1 3 i ≤ 10 := fun i => by
    have h3 := putN_le (f := fun _ => 0) (M := 0) (fun _ => Nat.le_refl _) [1, 1, 2]
    unfold turned
    split
    · have a1 := h3 (1 : Int).toNat
      have a2 := h3 (3 : Int).toNat
      have a3 := h3 i
      simp only [List.length_cons, List.length_nil] at a1 a2 a3
      unfold upd
      repeat' split
      all_goals omega
    · have := h3 i
      simp at this
      omega
  have HB := Lib.hid hbd
  clear hbd
  have hb3 : Below w.heap.size w w3 := (hB1.trans (((Fr.refl (fun _ => False) w1).alloc _).below (B := w.heap.size) (by omega) (fun _ _ => id))).trans (((hF2.trans hF3 fun _ _ h => h).below (B := w.heap.size) (by simp; omega) (fun k hk e => by omega)))
  clear hc2 hF2 hF3 HR hc1
  refine (cOf_any (ks := [1]) (hc3.fr ((Fr.refl (fun _ => False) w3).alloc _) id) (rd_lit w3 [1] rfl) 10 HB.out (by omega) (by simp)).mono ?_
  rintro e w4 ⟨rfl, rfl⟩
  rw [show ofN (turned (putN (fun _ => 0) [1, 1, 2]) 1 3) [1] = 1 from rfl]
  go_wp2_with fail
  refine (cOf_any (ks := [2]) (hc3.fr (((Fr.refl (fun _ => False) w3).alloc _).alloc _) id) (rd_lit _ [2] (by simp)) 10 HB.out (by omega) (by simp)).mono ?_
  rintro e w4 ⟨rfl, rfl⟩
  rw [show ofN (turned (putN (fun _ => 0) [1, 1, 2]) 1 3) [2] = 1 from rfl]
  go_wp2_with fail
  refine (cOf_any (ks := [3]) (hc3.fr ((((Fr.refl (fun _ => False) w3).alloc _).alloc _).alloc _) id) (rd_lit _ [3] (by simp)) 10 HB.out (by omega) (by simp)).mono ?_
  rintro e w4 ⟨rfl, rfl⟩
  rw [show ofN (turned (putN (fun _ => 0) [1, 1, 2]) 1 3) [3] = 1 from rfl]
  go_wp2
  go_ret
  exact ⟨rfl, ((hb3.alloc hb3.size _).alloc (by have := hb3.size; simp; omega) _).alloc (by have := hb3.size; simp; omega) _⟩
end Go.Proofs.YteifdbfaclpcdaaR
