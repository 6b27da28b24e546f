/- The law's lives. -/
import Derived.Test.YteifdbfaclpcdaaRTrH
namespace Go.Proofs.YteifdbfaclpcdaaR.Rr
open Go.RowKit

theorem off_z (g k : Nat) : ((⟨g, 0, none⟩ : Addr).add k) = ⟨g, k, none⟩ := by unfold Addr.add; split <;> simp_all
/-- The two entries of lives. -/
def liv2 : Nat → Option Value := updF (updF (fun _ => none) 1 (some (Rec.mk 1 0 0 5).v)) 2 (some (Rec.mk 4 0 0 0).v)
theorem liv2_none {k : Nat} (h1 : k ≠ 1) (h2 : k ≠ 2) : liv2 k = none := by
  unfold liv2 updF
  rw [if_neg h2, if_neg h1]
theorem liv_cnt : cntF [1, 4] (seg liv2 0 0 65536) = 2 := by
  rw [show 65536 = 1 + (1 + (1 + 65533)) from rfl, seg_add, seg_add, seg_add, seg_none (n := 65533) (fun k h1 h2 => liv2_none (by omega) (by omega)), seg_none (n := 1) (a := 0) (fun k h1 h2 => liv2_none (by omega) (by omega)), seg_one, seg_one]
  rfl
set_option maxRecDepth 100000 in
set_option maxHeartbeats 2000000 in
theorem lives (w : World) : Calls Try.prog 54 #[] w fun e w' => e = .returned (.bool true) ∧ Below w.heap.size w w' := by
  go_enter Try.func54, Try.ntmps54
  go_wp2_with fail
  refine (twNew w).mono ?_
  rintro e w1 ⟨t, rfl, h1, hB1⟩
  have HB1 := Lib.hid hB1
  have HA := Lib.hid (twAdd h1 hB1.size ⟨1, 0, 0, 5⟩ rfl (nextOf_now (f := fun _ => false) (last := 0) rfl))
  clear h1 hB1
  go_wp2_with fail
  refine HA.out.mono ?_
  rintro e w2 ⟨rfl, h2, hB2, -⟩
  have HB2 := Lib.hid (HB1.out.trans hB2)
  have HA2 := Lib.hid (twAdd h2 (HB1.out.trans hB2).size ⟨4, 0, 0, 0⟩ rfl (k := 1) (nextOf_now rfl))
  clear h2 hB2 HA
  go_wp2_with fail
  refine HA2.out.mono ?_
  rintro e w3 ⟨rfl, h3, hB3, -⟩
  have HB3 := Lib.hid (HB2.out.trans hB3)
  obtain ⟨w4, hw4⟩ : ∃ w4, w4 = w3.alloc (.cells #[.int .i64 1, .int .i64 4] 3) := ⟨_, rfl⟩
  have hb4 : Below w3.heap.size w3 w4 := by rw [hw4]; exact (Below.refl _ _).alloc (Nat.le_refl _) _
  have hk4 : Bk w4 w3.heap.size 3 #[.int .i64 1, .int .i64 4] := by rw [hw4]; exact Bk.new _ _ _
  have hr4 : RdI w4 w4.heap.size (some ⟨w3.heap.size, 0, none⟩) [1, 4] := by
    intro k u hu
    refine ⟨_, rfl, hk4.lt, ?_⟩
    rw [off_z, hk4.cell]
    rcases k with _ | _ | k
    · simpa using hu
    · simpa using hu
    · simp at hu
  have HC := Lib.hid (twCount (c := 2) (h3.below0 hb4) hr4 (Nat.le_refl _) (by decide))
  have hz : cntF [1, 4] (seg (updF (updF (fun _ => none) (0 + 1) (some (Rec.mk 1 0 0 5).v)) (1 + 1) (some (Rec.mk 4 0 0 0).v)) 0 0 65536) = 2 := liv_cnt
  rw [hz] at HC
  have HB4 := Lib.hid (HB3.out.trans (hb4.mono HB3.out.size))
  have HW4 := Lib.hid hw4
  clear h3 hB3 HA2 hz hw4 hb4 hk4 hr4
  go_wp2_with fail
  rw [← HW4.out]
  refine HC.out.mono ?_
  rintro e w5 ⟨rfl, hB5⟩
  have HB5 := Lib.hid (HB4.out.trans (hB5.mono HB4.out.size))
  clear hB5
  go_wp2_with fail
  go_ret
  exact ⟨rfl, HB5.out⟩
end Go.Proofs.YteifdbfaclpcdaaR.Rr
