/- Plain laws of pages of one word. -/
import Derived.Test.YtckdellcnoojaaaRRRSamK
namespace Go.Proofs.YtckdellcnoojaaaRRR
open Go.RowKit

theorem pageL_len (n : Nat) : (pageL n).length = 4096 := pgTo_len _ _ _
theorem pageL_at (n : Nat) {i : Nat} (hi : i < 4096) : (pageL n)[i]?.getD 0 = (putN n 8)[i % 8]?.getD 0 := by
  rw [pageL_rep]
  unfold repB
  rw [List.getElem?_map, List.getElem?_range hi]
  rfl
theorem putN_at (n : Nat) {k j : Nat} (hj : j < k) : ((putN n k)[j]?.getD 0).toNat = n / 2 ^ (8 * j) % 256 := by
  unfold putN
  rw [List.getElem?_map, List.getElem?_range hj]
  exact byte_of _
theorem getN_putN (n k : Nat) : ∀ j, j ≤ k → getN (putN n k) 0 j = n % 2 ^ (8 * j) := by
  intro j
  induction j with
  | zero => intro _; simp [getN, Nat.mod_one]
  | succ j ih =>
    intro hj
    have e : 2 ^ (8 * (j + 1)) = 2 ^ (8 * j) * 256 := by rw [show 8 * (j + 1) = 8 * j + 8 by omega, Nat.pow_add]
    rw [getN, ih (by omega), Nat.zero_add, putN_at n (by omega), e, Nat.mod_mul, Nat.mul_comm (n / 2 ^ (8 * j) % 256)]
theorem runs_page (n : Nat) : runsW (pageL n) = 1 := by
  unfold runsW
  rw [if_pos (pageL_len n), one_word.2 fun i h1 h2 => ?_]
  rw [pageL_at n h2, pageL_at n (by omega), show i % 8 % 8 = i % 8 by omega]
theorem word_page (n : Nat) (hn : n ≤ 18446744073709551615) : wordOf (pageL n) = n := by
  unfold wordOf
  rw [if_pos (runs_page n)]
  have h1 : getN (pageL n) 0 8 = getN (putN n 8) 0 8 := getN_congr fun j hj => by
    rw [Nat.zero_add, pageL_at n (by omega), show j % 8 = j by omega]
  rw [h1, getN_putN n 8 8 (Nat.le_refl _)]
  exact Nat.mod_eq_of_lt (by omega)
theorem page_back {p : List UInt8} (hl : p.length = 4096) (h : runsW p = 1) : pageL (wordOf p) = p := by
  have hd : diffW p 511 = 0 := by
    unfold runsW at h
    rw [if_pos hl] at h
    omega
  have hw := one_word.1 hd
  have hg : getN (putN (wordOf p) 8) 0 8 = getN p 0 8 := by
    rw [getN_putN _ 8 8 (Nat.le_refl _)]
    unfold wordOf
    rw [if_pos h]
    exact Nat.mod_eq_of_lt (getN_lt p 0 8)
  have hj := getN_inj hg
  have key : ∀ i, i < 4096 → (pageL (wordOf p))[i]?.getD 0 = p[i]?.getD 0 := fun i hi => by
    rw [pageL_at _ hi]
    have := hj (i % 8) (by omega)
    rw [Nat.zero_add] at this
    rw [this]
    rcases Nat.lt_or_ge i 8 with h8 | h8
    · rw [Nat.mod_eq_of_lt h8]
    · exact (hw i h8 hi).symm
  apply List.ext_getElem?
  intro i
  rcases Nat.lt_or_ge i 4096 with h1 | h1
  · have a := key i h1
    rw [List.getElem?_eq_getElem (by rw [pageL_len]; exact h1), List.getElem?_eq_getElem (by omega)] at a ⊢
    simpa using a
  · rw [List.getElem?_eq_none (by rw [pageL_len]; exact h1), List.getElem?_eq_none (by omega)]
theorem zeros_page : List.replicate 4096 (0 : UInt8) = pageL 0 := by
  symm
  refine List.eq_replicate_iff.2 ⟨pageL_len 0, fun b hb => ?_⟩
  rw [pageL_rep] at hb
  unfold repB at hb
  obtain ⟨i, _, rfl⟩ := List.mem_map.1 hb
  have : putN 0 8 = List.replicate 8 0 := by decide +kernel
  rw [this, List.getElem?_replicate]
  split <;> rfl
/-- One byte otherwise: more than one stretch. -/
theorem runs_off (n k : Nat) (hk : k < 4096) (x : UInt8) (hx : x ≠ (pageL n)[k]?.getD 0) : 1 < runsW ((pageL n).set k x) := by
  have hl : ((pageL n).set k x).length = 4096 := by rw [List.length_set, pageL_len]
  have hr : runsW ((pageL n).set k x) = 1 + diffW ((pageL n).set k x) 511 := by unfold runsW; rw [if_pos hl]
  rw [hr]
  refine Nat.lt_add_of_pos_right (Nat.pos_of_ne_zero fun h0 => ?_)
  have hw := one_word.1 h0
  have hat : ∀ i, i < 4096 → ((pageL n).set k x)[i]?.getD 0 = if k = i then x else (pageL n)[i]?.getD 0 := fun i hi => by
    rw [List.getElem?_set]
    by_cases hki : k = i
    · subst hki
      rw [if_pos rfl, if_pos rfl, if_pos (by rw [pageL_len]; exact hk)]
      rfl
    · rw [if_neg hki, if_neg hki]
  rcases Nat.lt_or_ge k 8 with h8 | h8
  · have h1 := hw (k + 8) (by omega) (by omega)
    rw [hat _ (by omega), hat _ (by omega), if_neg (by omega), if_pos (by omega)] at h1
    apply hx
    rw [← h1, pageL_at n (by omega), pageL_at n (by omega), show (k + 8) % 8 = k % 8 by omega]
  · have h1 := hw k h8 hk
    rw [hat _ (by omega), hat _ (by omega), if_pos rfl, if_neg (by omega)] at h1
    apply hx
    rw [h1, pageL_at n (by omega), pageL_at n (by omega), show k % 8 % 8 = k % 8 by omega]
end Go.Proofs.YtckdellcnoojaaaRRR
