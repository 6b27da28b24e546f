/- Records: which may be. -/
import Derived.Test.YteifdbfaclpcdaaRGy
import Derived.Test.YteifdbfaclpcdaaRProg
import Derived.BigQuiet
import Derived.Deep.QuietTactic
namespace Go.Proofs.YteifdbfaclpcdaaR.Rr
open Go.RowKit

def mayRec (a b c d : Int) : Bool :=
  if a = 0 then decide (b = 0 ∧ c = 0 ∧ d = 0)
  else if a = 1 then decide (b = 0 ∧ c = 0)
  else if a = 4 then decide (0 ≤ b ∧ b < 128 ∧ c = 0 ∧ d = 0)
  else if a = 2 then decide (1 ≤ b ∧ b ≤ 512 ∧ 1 ≤ c ∧ c ≤ 3072 ∧ d = 0)
  else if a = 3 then decide (1 ≤ b ∧ b ≤ 512 ∧ c = 4096 ∧ d = 0)
  else false
set_option maxRecDepth 100000 in
set_option maxHeartbeats 2000000 in
theorem recMay (w : World) (a b c d : Int) : Calls Try.prog 80 #[.agg #[.int .i64 a, .int .i64 b, .int .i64 c, .int .u64 d]] w fun e w' => e = .returned (.bool (mayRec a b c d)) ∧ Below w.heap.size w w' := by
  by_cases h0 : a = 0
  · subst h0
    go_enter Try.func80, Try.ntmps80
    go_wp2
    all_goals
      go_ret
      refine ⟨ret_bool ?_, (Below.refl _ _).alloc (Nat.le_refl _) _⟩
      unfold mayRec
      first
        | rfl
        | (simp; done)
        | (simp; omega)
        | (simp [*]; done)
        | (simp [*]; omega)
        | (rw [Bool.eq_iff_iff]; simp; done)
        | (rw [Bool.eq_iff_iff]; simp; omega)
        | (rw [Bool.eq_iff_iff]; simp [*]; omega)
  · have d0 : (a == 0) = false := beq_eq_false_iff_ne.2 h0
    by_cases h1 : a = 1
    · subst h1
      go_enter Try.func80, Try.ntmps80
      go_wp2
      all_goals
        go_ret
        refine ⟨ret_bool ?_, (Below.refl _ _).alloc (Nat.le_refl _) _⟩
        unfold mayRec
        first
          | rfl
          | (simp; done)
          | (simp; omega)
          | (simp [*]; done)
          | (simp [*]; omega)
          | (rw [Bool.eq_iff_iff]; simp; done)
          | (rw [Bool.eq_iff_iff]; simp; omega)
          | (rw [Bool.eq_iff_iff]; simp [*]; omega)
    · have d1 : (a == 1) = false := beq_eq_false_iff_ne.2 h1
      by_cases h4 : a = 4
      · subst h4
        go_enter Try.func80, Try.ntmps80
        go_wp2
        all_goals
          go_ret
          refine ⟨ret_bool ?_, (Below.refl _ _).alloc (Nat.le_refl _) _⟩
          unfold mayRec
          first
            | rfl
            | (simp; done)
            | (simp; omega)
            | (simp [*]; done)
            | (simp [*]; omega)
            | (rw [Bool.eq_iff_iff]; simp; done)
            | (rw [Bool.eq_iff_iff]; simp; omega)
            | (rw [Bool.eq_iff_iff]; simp [*]; omega)
      · have d4 : (a == 4) = false := beq_eq_false_iff_ne.2 h4
        by_cases h2 : a = 2
        · subst h2
          go_enter Try.func80, Try.ntmps80
          go_wp2
          all_goals
            go_ret
            refine ⟨ret_bool ?_, (Below.refl _ _).alloc (Nat.le_refl _) _⟩
            unfold mayRec
            first
              | rfl
              | (simp; done)
              | (simp; omega)
              | (simp [*]; done)
              | (simp [*]; omega)
              | (rw [Bool.eq_iff_iff]; simp; done)
              | (rw [Bool.eq_iff_iff]; simp; omega)
              | (rw [Bool.eq_iff_iff]; simp [*]; omega)
        · have d2 : (a == 2) = false := beq_eq_false_iff_ne.2 h2
          by_cases h3 : a = 3
          · subst h3
            go_enter Try.func80, Try.ntmps80
            go_wp2
            all_goals
              go_ret
              refine ⟨ret_bool ?_, (Below.refl _ _).alloc (Nat.le_refl _) _⟩
              unfold mayRec
              first
                | rfl
                | (simp; done)
                | (simp; omega)
                | (simp [*]; done)
                | (simp [*]; omega)
                | (rw [Bool.eq_iff_iff]; simp; done)
                | (rw [Bool.eq_iff_iff]; simp; omega)
                | (rw [Bool.eq_iff_iff]; simp [*]; omega)
          · have d3 : (a == 3) = false := beq_eq_false_iff_ne.2 h3
            go_enter Try.func80, Try.ntmps80
            go_wp2
            all_goals
              go_ret
              refine ⟨ret_bool ?_, (Below.refl _ _).alloc (Nat.le_refl _) _⟩
              unfold mayRec
              first
                | rfl
                | (simp; done)
                | (simp; omega)
                | (simp [*]; done)
                | (simp [*]; omega)
                | (rw [Bool.eq_iff_iff]; simp; done)
                | (rw [Bool.eq_iff_iff]; simp; omega)
                | (rw [Bool.eq_iff_iff]; simp [*]; omega)
set_option maxRecDepth 100000 in
set_option maxHeartbeats 2000000 in
theorem refMay (w : World) (a b c d : Int) : Calls Try.prog 50 #[.agg #[.int .i64 a, .int .i64 b, .int .i64 c, .int .u64 d]] w fun e w' => e = .returned (.bool (mayRec a b c d)) ∧ Below w.heap.size w w' := by
  by_cases h0 : a = 0
  · subst h0
    go_enter Try.func50, Try.ntmps50
    go_wp2
    all_goals
      go_ret
      refine ⟨ret_bool ?_, (Below.refl _ _).alloc (Nat.le_refl _) _⟩
      unfold mayRec
      first
        | rfl
        | (simp; done)
        | (simp; omega)
        | (simp [*]; done)
        | (simp [*]; omega)
        | (rw [Bool.eq_iff_iff]; simp; done)
        | (rw [Bool.eq_iff_iff]; simp; omega)
        | (rw [Bool.eq_iff_iff]; simp [*]; omega)
  · have d0 : (a == 0) = false := beq_eq_false_iff_ne.2 h0
    by_cases h1 : a = 1
    · subst h1
      go_enter Try.func50, Try.ntmps50
      go_wp2
      all_goals
        go_ret
        refine ⟨ret_bool ?_, (Below.refl _ _).alloc (Nat.le_refl _) _⟩
        unfold mayRec
        first
          | rfl
          | (simp; done)
          | (simp; omega)
          | (simp [*]; done)
          | (simp [*]; omega)
          | (rw [Bool.eq_iff_iff]; simp; done)
          | (rw [Bool.eq_iff_iff]; simp; omega)
          | (rw [Bool.eq_iff_iff]; simp [*]; omega)
    · have d1 : (a == 1) = false := beq_eq_false_iff_ne.2 h1
      by_cases h2 : a = 2
      · subst h2
        go_enter Try.func50, Try.ntmps50
        go_wp2
        all_goals
          go_ret
          refine ⟨ret_bool ?_, (Below.refl _ _).alloc (Nat.le_refl _) _⟩
          unfold mayRec
          first
            | rfl
            | (simp; done)
            | (simp; omega)
            | (simp [*]; done)
            | (simp [*]; omega)
            | (rw [Bool.eq_iff_iff]; simp; done)
            | (rw [Bool.eq_iff_iff]; simp; omega)
            | (rw [Bool.eq_iff_iff]; simp [*]; omega)
      · have d2 : (a == 2) = false := beq_eq_false_iff_ne.2 h2
        by_cases h3 : a = 3
        · subst h3
          go_enter Try.func50, Try.ntmps50
          go_wp2
          all_goals
            go_ret
            refine ⟨ret_bool ?_, (Below.refl _ _).alloc (Nat.le_refl _) _⟩
            unfold mayRec
            first
              | rfl
              | (simp; done)
              | (simp; omega)
              | (simp [*]; done)
              | (simp [*]; omega)
              | (rw [Bool.eq_iff_iff]; simp; done)
              | (rw [Bool.eq_iff_iff]; simp; omega)
              | (rw [Bool.eq_iff_iff]; simp [*]; omega)
        · have d3 : (a == 3) = false := beq_eq_false_iff_ne.2 h3
          by_cases h4 : a = 4
          · subst h4
            go_enter Try.func50, Try.ntmps50
            go_wp2
            all_goals
              go_ret
              refine ⟨ret_bool ?_, (Below.refl _ _).alloc (Nat.le_refl _) _⟩
              unfold mayRec
              first
                | rfl
                | (simp; done)
                | (simp; omega)
                | (simp [*]; done)
                | (simp [*]; omega)
                | (rw [Bool.eq_iff_iff]; simp; done)
                | (rw [Bool.eq_iff_iff]; simp; omega)
                | (rw [Bool.eq_iff_iff]; simp [*]; omega)
          · have d4 : (a == 4) = false := beq_eq_false_iff_ne.2 h4
            go_enter Try.func50, Try.ntmps50
            go_wp2
            all_goals
              go_ret
              refine ⟨ret_bool ?_, (Below.refl _ _).alloc (Nat.le_refl _) _⟩
              unfold mayRec
              first
                | rfl
                | (simp; done)
                | (simp; omega)
                | (simp [*]; done)
                | (simp [*]; omega)
                | (rw [Bool.eq_iff_iff]; simp; done)
                | (rw [Bool.eq_iff_iff]; simp; omega)
                | (rw [Bool.eq_iff_iff]; simp [*]; omega)
end Go.Proofs.YteifdbfaclpcdaaR.Rr
