/- The plain law: one stretch is one word. -/
import Derived.Test.YtckdellcnoojaaaRRRSamE
namespace Go.Proofs.YtckdellcnoojaaaRRR
open Go.RowKit

theorem diffW_zero {p : List UInt8} {n : Nat} (h : diffW p n = 0) : ∀ k, k ≤ n → getN p (8 * k) 8 = getN p 0 8 := by
  induction n with
  | zero => intro k hk; obtain rfl : k = 0 := by omega
            rfl
  | succ n ih =>
    have e : diffW p n + (if getN p (8 * n) 8 = getN p (8 * (n + 1)) 8 then 0 else 1) = 0 := h
    have h1 : diffW p n = 0 := by omega
    intro k hk
    rcases Nat.lt_or_ge k (n + 1) with h2 | h2
    · exact ih h1 k (by omega)
    · obtain rfl : k = n + 1 := by omega
      by_cases h3 : getN p (8 * n) 8 = getN p (8 * (n + 1)) 8
      · rw [← h3]; exact ih h1 n (Nat.le_refl _)
      · rw [if_neg h3] at e; omega
theorem diffW_all {p : List UInt8} {n : Nat} (h : ∀ k, k ≤ n → getN p (8 * k) 8 = getN p 0 8) : diffW p n = 0 := by
  induction n with
  | zero => rfl
  | succ n ih =>
    show diffW p n + (if getN p (8 * n) 8 = getN p (8 * (n + 1)) 8 then 0 else 1) = 0
    rw [ih fun k hk => h k (by omega), if_pos ((h n (by omega)).trans (h (n + 1) (Nat.le_refl _)).symm)]
/-- All words are the first one, just if each byte is the one of its place in the first word. -/
theorem one_word {p : List UInt8} : diffW p 511 = 0 ↔ ∀ i, 8 ≤ i → i < 4096 → p[i]?.getD 0 = p[i % 8]?.getD 0 := by
  constructor
  · intro h i h1 h2
    have := getN_inj (diffW_zero h (i / 8) (by omega)) (i % 8) (by omega)
    rw [show 8 * (i / 8) + i % 8 = i by omega, Nat.zero_add] at this
    exact this
  · intro h
    refine diffW_all fun k hk => getN_congr fun j hj => ?_
    rcases Nat.eq_zero_or_pos k with h0 | h0
    · subst h0; rfl
    · have := h (8 * k + j) (by omega) (by omega)
      rw [show (8 * k + j) % 8 = j by omega] at this
      rw [this, Nat.zero_add]
theorem runsTo_all {p : List UInt8} (hl : p.length = 4096) : runsTo p 512 = runsW p := by
  unfold runsTo runsW
  rw [if_neg (by omega), if_pos hl]

theorem rRuns_any {w : World} {B : Nat} {A : Option Addr} {c : Nat} {p : List UInt8} (h : RdY w B A p) (hcap : p.length ≤ c) :
    Calls Try.prog 44 #[.slice A p.length c] w fun e w' => e = .returned (.int .i64 (runsW p)) ∧ ∃ n, w' = w.drewN n := by
  by_cases hl : p.length = 4096
  · rw [← runsTo_all hl]
    exact rRuns_yes h hl (by omega)
  · rw [show runsW p = 0 by unfold runsW; rw [if_neg hl]]
    refine (rRuns_len hl).mono ?_
    rintro e w' ⟨rfl, rfl⟩
    exact ⟨rfl, 0, rfl⟩
theorem rOf_all {w : World} {B : Nat} {A : Option Addr} {c : Nat} {p : List UInt8} (h : RdY w B A p) :
    Calls Try.prog 42 #[.slice A p.length c] w fun e w' => e = .returned (.tuple #[.int .u64 (wordOf p), .bool (decide (runsW p = 1))]) ∧ ∃ n, w' = w.drewN n := by
  by_cases hl : p.length = 4096
  · have hr : runsW p = 1 + diffW p 511 := by unfold runsW; rw [if_pos hl]
    refine (rOf_any h hl (decide (runsW p = 1)) (fun h1 => ?_) (fun h1 => ?_)).mono ?_
    · have := of_decide_eq_true h1
      exact one_word.1 (by omega)
    · have h2 := of_decide_eq_false h1
      refine Classical.byContradiction fun hn => h2 ?_
      have : diffW p 511 = 0 := one_word.2 fun i a1 a2 => Classical.byContradiction fun hx => hn ⟨i, a1, a2, hx⟩
      omega
    · rintro e w' ⟨rfl, hw⟩
      refine ⟨?_, hw⟩
      unfold wordOf
      by_cases h1 : runsW p = 1
      · rw [if_pos h1, decide_eq_true h1]; rfl
      · rw [if_neg h1, decide_eq_false h1]; rfl
  · have hr : runsW p = 0 := by unfold runsW; rw [if_neg hl]
    rw [show wordOf p = 0 by unfold wordOf; rw [hr]; rfl, hr]
    refine (rOf_len hl).mono ?_
    rintro e w' ⟨rfl, rfl⟩
    exact ⟨rfl, 0, rfl⟩
end Go.Proofs.YtckdellcnoojaaaRRR
