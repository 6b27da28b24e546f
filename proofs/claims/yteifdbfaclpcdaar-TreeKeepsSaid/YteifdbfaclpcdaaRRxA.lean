/- Radix: a key's digit, and what is a key. -/
import Derived.Test.YteifdbfaclpcdaaRGy
import Derived.Test.YteifdbfaclpcdaaRGyRow
import Derived.Test.YteifdbfaclpcdaaRRxN
import Derived.Test.YteifdbfaclpcdaaRProg
namespace Go.Proofs.YteifdbfaclpcdaaR
open Go.RowKit

theorem and15_i64 (n : Int) : bits .and .i64 n 15 = n % 16 := by
  have h15 : (BitVec.ofInt 64 15).toNat = 2 ^ 4 - 1 := by decide
  have key : (BitVec.ofInt 64 n &&& BitVec.ofInt 64 15).toNat = (n % ((2 ^ 64 : Nat) : Int)).toNat % 2 ^ 4 := by
    rw [BitVec.toNat_and, BitVec.toNat_ofInt, h15, Nat.and_two_pow_sub_one_eq_mod]
  show IntKind.i64.wrap ((BitVec.ofInt 64 n &&& BitVec.ofInt 64 15).toNat : Nat) = n % 16
  rw [key, IntKind.wrap_i64]
  omega
theorem rxAt (w : World) {key l : Nat} (hl : l ≤ 3) : Calls Try.prog 60 #[.int .i64 (key : Int), .int .i64 (l : Int)] w fun e w' => e = .returned (.int .i64 ((key / rxD (l + 1) % 16 : Nat) : Int)) ∧ w' = w := by
  rcases (by omega : l = 0 ∨ l = 1 ∨ l = 2 ∨ l = 3) with rfl | rfl | rfl | rfl
  all_goals
    go_enter Try.func60, Try.ntmps60
    go_wp2_with fail
    go_ret
    exact ⟨ret_int (by rw [and15_i64]; first | rfl | (rw [rxD_4]; omega)), rfl⟩
theorem rxMay (w : World) (key : Int) : Calls Try.prog 58 #[.int .i64 key] w fun e w' => e = .returned (.bool (decide (0 ≤ key ∧ key < 65536))) ∧ w' = w := by
  by_cases h1 : 0 ≤ key
  · have h2 := decide_eq_true h1
    go_enter Try.func58, Try.ntmps58
    go_wp2_with fail
    go_ret
    exact ⟨ret_bool (by simp [h1]), rfl⟩
  · have h2 := decide_eq_false h1
    go_enter Try.func58, Try.ntmps58
    go_wp2_with fail
    go_ret
    exact ⟨ret_bool (by rfl), rfl⟩
theorem rxAt' (w : World) {key l : Nat} (hl : l ≤ 3) : Calls Try.prog 60 #[.int .i64 (key : Int), .int .i64 (l : Int)] w fun e w' => e = .returned (.int .i64 ((key / rxD (l + 1) % 16 : Nat) : Int)) ∧ w = w' := (rxAt w hl).mono fun _ _ ⟨h1, h2⟩ => ⟨h1, h2.symm⟩
theorem rxMay' (w : World) (key : Int) : Calls Try.prog 58 #[.int .i64 key] w fun e w' => e = .returned (.bool (decide (0 ≤ key ∧ key < 65536))) ∧ w = w' := (rxMay w key).mono fun _ _ ⟨h1, h2⟩ => ⟨h1, h2.symm⟩
end Go.Proofs.YteifdbfaclpcdaaR
