/- Squeeze: how long packed pages are (plain). -/
import Derived.Test.YtckdellcnoojaaaRRRSqA
namespace Go.Proofs.YtckdellcnoojaaaRRR
open Go.RowKit

theorem putL_len {l : List UInt8} (h : 0 < l.length) : (tkL l).put.length = l.length + 1 := by
  simp [Tk.put, tkL, putT, h]
theorem putC_len (n d : Nat) : (tkC n d).put.length = 3 := by simp [Tk.put, tkC, putT]
theorem lit_len (l : List UInt8) : (putAll (litT l)).length = l.length + (l.length + 127) / 128 := by
  generalize hn : l.length = n
  induction n using Nat.strongRecOn generalizing l with
  | _ n ih =>
    rcases Nat.eq_zero_or_pos l.length with h0 | h0
    · obtain rfl : l = [] := List.eq_nil_of_length_eq_zero h0
      rw [litT_nil]
      simp [putAll]
      simp at hn
      omega
    · have ht : (l.take 128).length = min 128 l.length := List.length_take ..
      have hd : (l.drop 128).length = l.length - 128 := List.length_drop ..
      rw [litT_cons h0, putAll_cons, List.length_append, putL_len (by omega), ih (l.drop 128).length (by omega) _ rfl]
      omega
theorem lit_many (l : List UInt8) : (litT l).length = (l.length + 127) / 128 := by
  generalize hn : l.length = n
  induction n using Nat.strongRecOn generalizing l with
  | _ n ih =>
    rcases Nat.eq_zero_or_pos l.length with h0 | h0
    · obtain rfl : l = [] := List.eq_nil_of_length_eq_zero h0
      rw [litT_nil]
      simp at hn
      simp
      omega
    · have hd : (l.drop 128).length = l.length - 128 := List.length_drop ..
      rw [litT_cons h0, List.length_cons, ih (l.drop 128).length (by omega) _ rfl]
      omega
/-- A page packed. -/
def packB (P : List UInt8) : List UInt8 := if 4128 < (putAll (packT P 0 0)).length then putAll (litT P) else putAll (packT P 0 0)
theorem packB_plays {P : List UInt8} (hP : P.length = 4096) : ∃ L, packB P = putAll L ∧ Plays L [] P ∧ (packB P).length ≤ 4128 := by
  unfold packB
  split
  · refine ⟨litT P, rfl, ?_, by rw [lit_len]; omega⟩
    have := plays_lit P [] [] P rfl
    simpa using this
  · exact ⟨packT P 0 0, rfl, plays_pack (by omega) (Nat.le_refl _) (Nat.zero_le _), by omega⟩

/-- What is found is at least what stands a few places ahead. -/
theorem goM_mono (b : List UInt8) (a k : Nat) (s : Nat × Nat × Nat) : s.1 ≤ (goM b a k s).1 := by
  induction k generalizing s with
  | zero => exact Nat.le_refl _
  | succ k ih =>
    simp only [goM]
    split
    · refine Nat.le_trans ?_ (ih _)
      unfold stepM
      split
      · split
        · simp only; omega
        · exact Nat.le_refl _
      · exact Nat.le_refl _
    · exact Nat.le_refl _
theorem goM_ge {b : List UInt8} {a j k : Nat} {s : Nat × Nat × Nat} (hj : j < k) (hs : s.2.2 + (k - 1 - j) < 32) (hw : 3 ≤ withN b a j) : withN b a j ≤ (goM b a k s).1 := by
  induction k generalizing s with
  | zero => omega
  | succ k ih =>
    simp only [goM]
    rw [if_pos (by omega)]
    rcases Nat.lt_or_ge j k with h | h
    · refine ih h ?_
      unfold stepM
      split
      · split <;> (simp only; omega)
      · omega
    · obtain rfl : j = k := by omega
      refine Nat.le_trans ?_ (goM_mono _ _ _ _)
      unfold stepM
      rw [if_pos hw]
      split
      · exact Nat.le_refl _
      · simp only; omega
theorem find_le (P : List UInt8) {a : Nat} (ha : a ≤ P.length) : (findM P a).1 ≤ 130 ∧ a + (findM P a).1 ≤ P.length := by
  rcases foundM P a with ⟨h, _⟩ | ⟨_, p, hp, _, hw, _⟩
  · rw [h]; exact ⟨by simp, by simpa using ha⟩
  · have := withN_le P a p
    have := withN_end P (a := a) p ha
    omega
theorem pack_tail {P : List UInt8} (hl : P.length = 4096) {fr a : Nat} (ha : 4093 ≤ a) (h2 : a ≤ 4096) : packT P fr a = litT (P.drop fr) := by
  generalize hn : 4096 - a = n
  induction n using Nat.strongRecOn generalizing a with
  | _ n ih =>
    rcases Nat.lt_or_ge a 4096 with h | h
    · have := find_le P (a := a) (by omega)
      rw [packT_skip (by omega) (by omega)]
      exact ih (4096 - (a + 1)) (by omega) (by omega) (by omega) rfl
    · exact packT_end (by omega)
section
variable {P : List UInt8} (hl : P.length = 4096) (hp : ∀ i, i + 8 < 4096 → P[i + 8]?.getD 0 = P[i]?.getD 0)
include hl hp
theorem find_per {a : Nat} (h8 : 8 ≤ a) (ha : a + 3 ≤ 4096) : (findM P a).1 = min 130 (4096 - a) := by
  have hle := find_le P (a := a) (by omega)
  have hw : min 130 (4096 - a) ≤ withN P a (a - 8) := withN_ge fun m hm => by
    have := hp (a - 8 + m) (by omega)
    rw [show a - 8 + m + 8 = a + m by omega] at this
    simp only [okAt, Bool.and_eq_true, decide_eq_true_eq, beq_iff_eq]
    exact ⟨by omega, by omega, this⟩
  have := goM_ge (b := P) (a := a) (j := a - 8) (k := a) (s := (0, 0, 0)) (by omega) (by show 0 + _ < 32; omega) (by omega)
  have e : findM P a = goM P a a (0, 0, 0) := rfl
  rw [← e] at this
  omega
theorem pack_run {a : Nat} (h8 : 8 ≤ a) (ha : a ≤ 4096) : (putAll (packT P a a)).length ≤ 3 * ((4096 - a + 129) / 130) + 4 := by
  generalize hn : 4096 - a = n
  induction n using Nat.strongRecOn generalizing a with
  | _ n ih =>
    rcases Nat.lt_or_ge 4092 a with h | h
    · rw [pack_tail hl (by omega) ha, lit_len, List.length_drop]
      omega
    · have hf := find_per hl hp h8 (by omega)
      rw [packT_copy (by omega) (by omega), hf, putAll_app, putAll_cons, List.length_append, List.length_append, putC_len, lit_len, List.length_drop, List.length_take]
      have := ih (4096 - (a + min 130 (4096 - a))) (by omega) (a := a + min 130 (4096 - a)) (by omega) (by omega) rfl
      omega
theorem pack_first {fr a : Nat} (h8 : a ≤ 8) (hfr : fr ≤ a) : (putAll (packT P fr a)).length ≤ 115 + 10 * (8 - fr) := by
  generalize hn : 8 - a = n
  induction n using Nat.strongRecOn generalizing fr a with
  | _ n ih =>
    have hle := find_le P (a := a) (by omega)
    rcases Nat.lt_or_ge 3 (findM P a).1 with h | h
    · rw [packT_copy (by omega) h, putAll_app, putAll_cons, List.length_append, List.length_append, putC_len, lit_len, List.length_drop, List.length_take]
      generalize (findM P a).1 = f at *
      generalize (findM P a).2.1 = d at *
      rcases Nat.lt_or_ge 8 (a + f) with h3 | h3
      · have := pack_run hl hp (a := a + f) (by omega) (by omega)
        omega
      · have := ih (8 - (a + f)) (by omega) (fr := a + f) (a := a + f) h3 (Nat.le_refl _) rfl
        omega
    · rcases Nat.lt_or_ge a 8 with h3 | h3
      · rw [packT_skip (by omega) h]
        exact ih (8 - (a + 1)) (by omega) (by omega) (by omega) rfl
      · have := find_per hl hp (a := a) (by omega) (by omega)
        omega
theorem packB_short : (packB P).length ≤ 200 := by
  have := pack_first hl hp (fr := 0) (a := 0) (by omega) (Nat.le_refl _)
  unfold packB
  rw [if_neg (by omega)]
  omega
end
theorem packB_some {P : List UInt8} (hP : P.length = 4096) : 0 < (packB P).length := by
  obtain ⟨L, e, h, _⟩ := packB_plays hP
  rw [e]
  cases L with
  | nil => rw [← (show [] = P from h)] at hP; simp at hP
  | cons t r =>
    rw [putAll_cons, List.length_append]
    have : 1 ≤ t.put.length := by
      unfold Tk.put putT
      split <;> simp
    omega
end Go.Proofs.YtckdellcnoojaaaRRR
