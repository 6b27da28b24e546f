/- Find of the finder and of the reference; the number of three bytes. -/
import Derived.Test.YtckdellcnoojaaaRRRMatA
namespace Go.Proofs.YtckdellcnoojaaaRRR
open Go.RowKit

set_option maxHeartbeats 1000000 in
theorem number_any {w : World} {g i c : Nat} {x y z : UInt8} (h0 : w.cell? ⟨g, i, none⟩ = some (.int .u8 (x.toNat : Int))) (h1 : w.cell? ⟨g, i + 1, none⟩ = some (.int .u8 (y.toNat : Int))) (h2 : w.cell? ⟨g, i + 2, none⟩ = some (.int .u8 (z.toNat : Int))) :
    Calls Try.prog 54 #[.slice (some ⟨g, i, none⟩) 3 c] w fun e w' => e = .returned (.int .i64 (((x.toNat * 961 + y.toNat * 31 + z.toNat) % 1024 : Nat) : Int)) ∧ ∃ n, w' = w.drewN n := by
  have hx := byte_le x
  have hy := byte_le y
  have hz := byte_le z
  generalize x.toNat = a at *
  generalize y.toNat = b at *
  generalize z.toNat = d at *
  go_enter Try.func54, Try.ntmps54
  go_wp2
  go_quiet (fail)
  go_wp2
  go_ret
  exact ⟨ret_int (by omega), nq, rfl⟩

/-- What Find's loop holds: k places are left (the next one is z), the best so far, and the world drawn from m times. -/
structure FindRel (w : World) (b : List UInt8) (a : Nat) (k m b1 b2 b3 : Nat) (z : Int) (be di se pp : Value) (wr : World) : Prop where
  e1 : be = .int .i64 b1
  e2 : di = .int .i64 b2
  e3 : se = .int .i64 b3
  e4 : pp = .int .i64 z
  hz : z = (k : Int) - 1
  hk : k ≤ a
  h1 : b1 ≤ 130
  h2 : b2 ≤ a
  h3 : b3 ≤ 32
  go : findI b (a : Int) = goM b a k (b1, b2, b3)
  wr : wr = w.drewN m

set_option maxRecDepth 100000 in
set_option maxHeartbeats 1000000 in
theorem refFind_any {w : World} {B : Nat} {A : Option Addr} {c : Nat} {b : List UInt8} (h : RdY w B A b) (hlen : b.length ≤ 100000) (a : Int) :
    Calls Try.prog 28 #[.slice A b.length c, .int .i64 a] w fun e w' => e = .returned (.tuple #[.int .i64 (findI b a).1, .int .i64 (findI b a).2.1]) ∧ ∃ n, w' = w.drewN n := by
  have HO := Lib.hid h
  clear h
  rcases Int.lt_or_le a 0 with h1 | h1
  · have HZ : Hid (findI b a = (0, 0, 0)) := by show _ = _; unfold findI; rw [if_neg (by omega)]
    go_enter Try.func28, Try.ntmps28
    go_wp2
    go_ret2
    exact ⟨by rw [HZ.out]; rfl, 0, rfl⟩
  rcases Int.lt_or_le a (b.length : Int) with h3 | h3
  · obtain ⟨a, rfl⟩ := Int.eq_ofNat_of_zero_le h1
    have h3' : a < b.length := by omega
    have HF : Hid (findI b (a : Int) = goM b a a (0, 0, 0)) := by
      show _ = _
      unfold findI
      rw [if_pos ⟨h1, h3⟩, Int.toNat_natCast]
      rfl
    have HW : Hid (∀ (p m : Nat), p < a → Calls Try.prog 29 #[.slice A b.length c, .int .i64 a, .int .i64 p] (w.drewN m) fun e w' => e = .returned (.int .i64 (withN b a p)) ∧ ∃ n, w' = (w.drewN m).drewN n) := fun p m hp => by
      have := refWith_any (c := c) (HO.out.drewN m) hlen a p
      have e : withI b (a : Int) (p : Int) = withN b a p := by
        unfold withI
        rw [if_pos (by omega), Int.toNat_natCast, Int.toNat_natCast]
      rw [e] at this
      exact this
    have hd : decide (b.length ≤ a) = false := by simp; omega
    clear h1 h3
    go_enter Try.func28, Try.ntmps28
    go_wp2
    go_loopw [6, 7, 8, 9] (fun be di se pp wr => ∃ (k m b1 b2 b3 : Nat) (z : Int), FindRel w b a k m b1 b2 b3 z be di se pp wr) (fun _ _ _ pp _ => (intOf pp + 1).toNat)
    case atStart => exact ⟨a, 0, 0, 0, 0, _, rfl, rfl, rfl, rfl, rfl, by omega, by omega, by omega, by omega, HF.out, rfl⟩
    case round =>
      clear HF
      obtain ⟨k, m, b1, b2, b3, z, rfl, rfl, rfl, rfl, hz, hk, hb1, hb2, hb3, hgo, rfl⟩ := hrel
      have HF := Lib.hid hgo
      clear hgo
      rcases k with _ | k
      · obtain rfl : z = -1 := by omega
        have HE : Hid (findI b (a : Int) = (b1, b2, b3)) := HF.out
        clear hz
        go_wp2
        go_ret2
        exact ⟨by rw [HE.out]; rfl, m, rfl⟩
      · obtain rfl : z = (k : Int) := by omega
        clear hz
        rcases Nat.lt_or_ge b3 32 with hs | hs
        · have HC := Lib.hid (HW.out k m (by omega))
          have hwle := withN_le b a k
          have HG : Hid (findI b (a : Int) = goM b a k (stepM b a k (b1, b2, b3))) := by
            show _ = _
            rw [HF.out]
            simp only [goM]
            rw [if_pos hs]
          have HSt : Hid (stepM b a k (b1, b2, b3) = if 3 ≤ withN b a k then (if b1 < withN b a k then (withN b a k, a - k, b3 + 1) else (b1, b2, b3 + 1)) else (b1, b2, b3)) := rfl
          generalize withN b a k = n at *
          rcases Nat.lt_or_ge n 3 with hn | hn
          · have HS2 : Hid (findI b (a : Int) = goM b a k (b1, b2, b3)) := by show _ = _; rw [HG.out, HSt.out, if_neg (by omega)]
            go_wp2_with (go_at_call 29; refine HC.out.mono ?_; rintro e w2 ⟨rfl, q, rfl⟩)
            go_roundw
            case rel => exact ⟨k, m + q, b1, b2, b3, (k : Int) - 1, by go_num, by go_num, by go_num, by go_num, rfl, by omega, hb1, hb2, hb3, HS2.out, (by first | rfl | exact World.drewN_drewN _ _ _)⟩
            case measure => simp [intOf] <;> omega
          · rcases Nat.lt_or_ge b1 n with hbn | hbn
            · have HS2 : Hid (findI b (a : Int) = goM b a k (n, a - k, b3 + 1)) := by show _ = _; rw [HG.out, HSt.out, if_pos hn, if_pos hbn]
              go_wp2_with (go_at_call 29; refine HC.out.mono ?_; rintro e w2 ⟨rfl, q, rfl⟩)
              go_roundw
              case rel => exact ⟨k, m + q, n, a - k, b3 + 1, (k : Int) - 1, by go_num, by go_num, by go_num, by go_num, rfl, by omega, by omega, by omega, by omega, HS2.out, (by first | rfl | exact World.drewN_drewN _ _ _)⟩
              case measure => simp [intOf] <;> omega
            · have HS2 : Hid (findI b (a : Int) = goM b a k (b1, b2, b3 + 1)) := by show _ = _; rw [HG.out, HSt.out, if_pos hn, if_neg (by omega)]
              go_wp2_with (go_at_call 29; refine HC.out.mono ?_; rintro e w2 ⟨rfl, q, rfl⟩)
              go_roundw
              case rel => exact ⟨k, m + q, b1, b2, b3 + 1, (k : Int) - 1, by go_num, by go_num, by go_num, by go_num, rfl, by omega, by omega, by omega, by omega, HS2.out, (by first | rfl | exact World.drewN_drewN _ _ _)⟩
              case measure => simp [intOf] <;> omega
        · obtain rfl : b3 = 32 := by omega
          have HE : Hid (findI b (a : Int) = (b1, b2, 32)) := by show _ = _; rw [HF.out, goM_full _ _ _ (by simp)]
          go_wp2
          go_ret2
          exact ⟨by rw [HE.out]; rfl, m, rfl⟩
  · have HZ : Hid (findI b a = (0, 0, 0)) := by show _ = _; unfold findI; rw [if_neg (by omega)]
    go_enter Try.func28, Try.ntmps28
    go_wp2
    go_ret2
    exact ⟨by rw [HZ.out]; rfl, 0, rfl⟩
end Go.Proofs.YtckdellcnoojaaaRRR
