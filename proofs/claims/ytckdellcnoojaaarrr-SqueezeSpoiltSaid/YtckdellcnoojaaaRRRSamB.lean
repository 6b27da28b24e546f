/- The reference's Get of 8 bytes. -/
import Derived.Test.YtckdellcnoojaaaRRRSamA
namespace Go.Proofs.YtckdellcnoojaaaRRR
open Go.RowKit

theorem get_step {l : List UInt8} {a m x : Nat} (h : x * 2 ^ (8 * (m + 1)) + getN l a (m + 1) = getN l a 8) (hx : x < 2 ^ (8 * (8 - (m + 1)))) (hm : m < 8) :
    (x * 256 + (l[a + m]?.getD 0).toNat) * 2 ^ (8 * m) + getN l a m = getN l a 8 ∧ x * 256 + (l[a + m]?.getD 0).toNat < 2 ^ (8 * (8 - m)) := by
  have e : 2 ^ (8 * (m + 1)) = 2 ^ (8 * m) * 256 := by rw [show 8 * (m + 1) = 8 * m + 8 by omega, Nat.pow_add]
  have e2 : 2 ^ (8 * (8 - m)) = 2 ^ (8 * (8 - (m + 1))) * 256 := by rw [show 8 * (8 - m) = 8 * (8 - (m + 1)) + 8 by omega, Nat.pow_add]
  have hb := byte_le (l[a + m]?.getD 0)
  have hg : getN l a (m + 1) = getN l a m + (l[a + m]?.getD 0).toNat * 2 ^ (8 * m) := rfl
  rw [hg, e] at h
  rw [e2]
  generalize (l[a + m]?.getD 0).toNat = y at *
  generalize 2 ^ (8 * m) = P at *
  generalize 2 ^ (8 * (8 - (m + 1))) = Q at *
  refine ⟨?_, by omega⟩
  rw [Nat.add_mul, Nat.mul_assoc, Nat.mul_comm 256 P]
  omega

set_option maxRecDepth 100000 in
set_option maxHeartbeats 1000000 in
theorem rGet8_any {w : World} {B : Nat} {A : Option Addr} {c : Nat} {l : List UInt8} (h : RdY w B A l) (hl : l.length ≤ 1000000) (a : Nat) (ha : a + 8 ≤ l.length) :
    Calls Try.prog 59 #[.slice A l.length c, .int .i64 a, .int .i64 8] w fun e w' => e = .returned (.int .u64 (getN l a 8)) ∧ w = w' := by
  have HR := Lib.hid h
  clear h
  obtain ⟨ad, rfl, _, _⟩ := HR.out.at_ (k := 0) (by omega)
  go_enter Try.func59, Try.ntmps59
  go_wp2
  go_loopw [7, 8] (fun v j wr => ∃ m x : Nat, m ≤ 8 ∧ j = .int .i64 ((m : Int) - 1) ∧ v = .int .u64 x ∧ x * 2 ^ (8 * m) + getN l a m = getN l a 8 ∧ x < 2 ^ (8 * (8 - m)) ∧ wr = w) (fun _ j _ => (intOf j + 1).toNat)
  case atStart => exact ⟨8, 0, Nat.le_refl _, rfl, rfl, by simp, by simp, rfl⟩
  case round =>
    obtain ⟨m, x, hm, rfl, rfl, hv, hx, rfl⟩ := hrel
    rcases Nat.eq_zero_or_pos m with h0 | h0
    · subst h0
      have hxe : x = getN l a 8 := by simpa [getN] using hv
      subst hxe
      clear hv hx
      go_wp2
      go_ret
      exact ⟨rfl, rfl⟩
    · obtain ⟨m, rfl⟩ : ∃ q, m = q + 1 := ⟨m - 1, by omega⟩
      obtain ⟨g1, g2⟩ := get_step hv hx (by omega)
      have hc := HR.out.cell (k := a + m) (by omega)
      have hby := byte_le (l[a + m]?.getD 0)
      generalize (l[a + m]?.getD 0).toNat = y at *
      have hx64 : x * 256 + y < 18446744073709551616 := Nat.lt_of_lt_of_le g2 (by
        have : 2 ^ (8 * (8 - m)) ≤ 2 ^ 64 := Nat.pow_le_pow_right (by omega) (by omega)
        exact this)
      have w1 : IntKind.u64.wrap (256 * (x : Int)) = 256 * (x : Int) := IntWalk.u64_in _ (by omega)
      have w2 : IntKind.u64.wrap (256 * (x : Int) + (y : Int)) = 256 * (x : Int) + (y : Int) := IntWalk.u64_in _ (by omega)
      have hmi : (m : Int) ≤ 7 := by omega
      have hm1 : ((m + 1 : Nat) : Int) - 1 = (m : Int) := by omega
      rw [hm1]
      have hai : (a : Int) + (m : Int) < l.length := by omega
      have HG1 := Lib.hid g1
      have HG2 := Lib.hid g2
      clear hv hx g1 g2 hx64 hm1
      go_wp2
      go_roundw
      case rel => exact ⟨m, x * 256 + y, by omega, by go_num, by congr 1; omega, HG1.out, HG2.out, trivial⟩
      case measure => simp [intOf]
end Go.Proofs.YtckdellcnoojaaaRRR
