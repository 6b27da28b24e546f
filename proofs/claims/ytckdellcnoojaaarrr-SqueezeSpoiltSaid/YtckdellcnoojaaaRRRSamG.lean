/- The reference's Put of 8 bytes. -/
import Derived.Test.YtckdellcnoojaaaRRRSamF
namespace Go.Proofs.YtckdellcnoojaaaRRR
open Go.RowKit

set_option maxRecDepth 100000 in
set_option maxHeartbeats 2000000 in
theorem rPut8_any (w : World) (n : Nat) (hn : n ≤ 18446744073709551615) :
    Calls Try.prog 61 #[.int .i64 8, .int .u64 n] w fun e w' => ∃ A' c', e = .returned (.slice A' 8 c') ∧ OwnY w' w.heap.size (.slice A' 8 c') (putN n 8) ∧ Below w.heap.size w w' := by
  obtain ⟨i0, hi0, hz0, hz1, hz2⟩ := info_parts u8_info
  go_enter Try.func61, Try.ntmps61
  go_wp2
  go_loopw [1, 5, 6] (fun x v j wr => ∃ (k cv : Nat) (Av : Option Addr), k ≤ 8 ∧ j = .int .i64 k ∧ x = .int .u64 (n / 2 ^ (8 * k) : Nat) ∧ v = .slice Av k cv ∧ OwnY wr w.heap.size (.slice Av k cv) (putN n k) ∧ Below w.heap.size w wr) (fun _ _ j _ => 8 - (intOf j).toNat)
  case atStart => exact ⟨0, 0, none, by omega, rfl, by simp, rfl, OwnY.nil _ _, Below.refl _ _⟩
  case round =>
    obtain ⟨k, cv, Av, hk, rfl, rfl, rfl, hO, hB⟩ := hrel
    have hsz := hB.size
    rcases Nat.lt_or_ge k 8 with h | h
    · have hki : (k : Int) < 8 := by omega
      have HS := Lib.hid (putN_succ n k)
      have hxb : n / 2 ^ (8 * k) ≤ 18446744073709551615 := Nat.le_trans (Nat.div_le_self _ _) hn
      have HD : Hid (n / 2 ^ (8 * (k + 1)) = n / 2 ^ (8 * k) / 256) := by
        show _ = _
        rw [show 8 * (k + 1) = 8 * k + 8 by omega, Nat.pow_add, Nat.div_div_eq_div_mul]
      generalize n / 2 ^ (8 * k) = x at *
      generalize hx2 : n / 2 ^ (8 * (k + 1)) = x2 at *
      have HX2 := Lib.hid hx2
      clear hx2
      have hq : ((x : Int) % 256) = ((UInt8.ofNat (x % 256)).toNat : Int) := by rw [byte_of]; omega
      have hq2 : ((x : Int) / 256) = (x2 : Int) := by have := HD.out; omega
      generalize UInt8.ofNat (x % 256) = y at *
      have HO2 : Hid ((wr.alloc (.cells #[.int .u8 (y.toNat : Int)] 5)).ownsRow w.heap.size 5 1 (.slice Av k cv) k ((putN n k).map bv)) := by
        have := hO.below (w' := wr.alloc (.cells #[.int .u8 (y.toNat : Int)] 5)) ((Below.refl _ _).alloc (Nat.le_refl _) _)
        unfold OwnY at this
        rwa [putN_len] at this
      have HR3 := Lib.hid (rd_one wr y rfl)
      go_wp2_with (at_builtin; refine wpList_append_rd rfl (.tmp 12) (.tmp 16) 22 rfl w.heap.size 5 i0 (.int .u8 0) 1 Try.underlying22 hi0 hz0 hz1 hz2 rfl (.slice Av k cv) k _ rfl HO2.out _ (some ⟨wr.heap.size, 0, none⟩) 1 1 ([y].map bv) rfl rfl HR3.out (oneY _) (by simp [maxLen]; omega) (by simp; omega) (by simp; omega) ?_; intro v2 w2 hown hg hat)
      have hO2 : OwnY w2 w.heap.size v2 (putN n (k + 1)) := by
        rw [HS.out]
        exact own_app (by simp [putN_len]) hown
      have hB2 : Below w.heap.size w w2 := (hB.alloc hsz _).grown hg (by simp; omega) (fun q hq => (World.ownsRow.lt HO2.out q hq).1)
      obtain ⟨A2, c2, rfl⟩ := hO2.form
      rw [putN_len] at hO2
      simp only [putN_len] at *
      clear hown hg hat HO2 HR3
      go_wp2
      go_roundw
      case rel => exact ⟨k + 1, c2, A2, by omega, by go_num, by rw [HX2.out], rfl, hO2, hB2⟩
      case measure => simp [intOf]; omega
    · obtain rfl : k = 8 := by omega
      go_wp2
      go_ret
      exact ⟨Av, cv, rfl, hO, hB⟩
end Go.Proofs.YtckdellcnoojaaaRRR
