/- Plain laws for TokenBack. -/
import Derived.Test.YtckdellcnoojaaaRRRTokI
namespace Go.Proofs.YtckdellcnoojaaaRRR
open Go.RowKit

theorem at_pre {pre l : List UInt8} (j : Nat) : (pre ++ l)[pre.length + j]? = l[j]? := by
  rw [List.getElem?_append_right (Nat.le_add_right _ _), Nat.add_sub_cancel_left]

theorem takeF_put {pre rest : List UInt8} {t : Tk} (h : t.may = true) : takeF (pre ++ (t.put ++ rest)) (pre.length : Int) = ⟨t.b, t.n, t.d, (pre.length + t.put.length : Nat), 0⟩ := by
  obtain ⟨tA, tc, tb, tn, td⟩ := t
  unfold Tk.may at h
  unfold Tk.put
  simp only at h ⊢
  obtain ⟨p0, hp⟩ : ∃ p0, pre.length = p0 := ⟨_, rfl⟩
  have hn0 : ¬ ((p0 : Int) < 0 ∨ ((pre ++ (putT tb tn.toNat td.toNat ++ rest)).length : Int) ≤ (p0 : Int)) := by
    have : 1 ≤ (putT tb tn.toNat td.toNat).length := by unfold putT; split <;> simp
    rw [List.length_append, List.length_append, hp]
    omega
  have at' : ∀ j, (pre ++ (putT tb tn.toNat td.toNat ++ rest))[p0 + j]? = (putT tb tn.toNat td.toNat ++ rest)[j]? := fun j => by rw [← hp]; exact at_pre j
  have at0 := at' 0
  rw [Nat.add_zero] at at0
  rcases Nat.eq_zero_or_pos tb.length with h0 | h0
  · obtain rfl : tb = [] := List.eq_nil_of_length_eq_zero h0
    obtain ⟨h1, h2, h3, h4⟩ := mayT_copy h
    obtain ⟨n, rfl⟩ := Int.eq_ofNat_of_zero_le (show 0 ≤ tn by omega)
    obtain ⟨d, rfl⟩ := Int.eq_ofNat_of_zero_le (show 0 ≤ td by omega)
    have hpt : putT [] n d = [UInt8.ofNat (125 + n), UInt8.ofNat (d % 256), UInt8.ofNat (d / 256)] := rfl
    simp only [Int.toNat_natCast] at hn0 at' at0 ⊢
    rw [hpt] at hn0 at' at0 ⊢
    have e1 := at' 1
    have e2 := at' 2
    have hlen : (pre ++ ([UInt8.ofNat (125 + n), UInt8.ofNat (d % 256), UInt8.ofNat (d / 256)] ++ rest)).length = p0 + 3 + rest.length := by simp; omega
    rw [hp]
    generalize pre ++ ([UInt8.ofNat (125 + n), UInt8.ofNat (d % 256), UInt8.ofNat (d / 256)] ++ rest) = q at *
    have g0 : (q[p0]?.getD 0).toNat = 125 + n := by rw [at0]; exact u8_small (by omega)
    have g1 : (q[p0 + 1]?.getD 0).toNat = d % 256 := by rw [e1]; exact u8_small (by omega)
    have g2 : (q[p0 + 1 + 1]?.getD 0).toNat = d / 256 := by rw [show p0 + 1 + 1 = p0 + 2 by omega, e2]; exact u8_small (by omega)
    have hgn : getN q (p0 + 1) 2 = d := by rw [getN2, g1, g2]; omega
    unfold takeF
    rw [if_neg hn0]
    simp only [Int.toNat_natCast]
    rw [g0, if_neg (by omega), if_neg (by omega), hgn, if_neg (by omega)]
    simp
    omega
  · obtain ⟨h1, rfl, rfl⟩ := mayT_lit h h0
    have hpt : putT tb 0 0 = UInt8.ofNat (tb.length - 1) :: tb := by unfold putT; rw [if_pos h0]
    simp only [show (0 : Int).toNat = 0 from rfl] at hn0 at' at0 ⊢
    rw [hpt] at hn0 at' at0 ⊢
    have hlen : (pre ++ (UInt8.ofNat (tb.length - 1) :: tb ++ rest)).length = p0 + 1 + tb.length + rest.length := by simp; omega
    have hdr : ((pre ++ (UInt8.ofNat (tb.length - 1) :: tb ++ rest)).drop (p0 + 1)).take tb.length = tb := by
      rw [show pre ++ (UInt8.ofNat (tb.length - 1) :: tb ++ rest) = (pre ++ [UInt8.ofNat (tb.length - 1)]) ++ (tb ++ rest) by simp]
      rw [List.drop_append_of_le_length (by simp; omega), List.drop_of_length_le (by simp; omega)]
      simp
    rw [hp]
    generalize pre ++ (UInt8.ofNat (tb.length - 1) :: tb ++ rest) = q at *
    have g0 : (q[p0]?.getD 0).toNat = tb.length - 1 := by rw [at0]; exact u8_small (by omega)
    unfold takeF
    rw [if_neg hn0]
    simp only [Int.toNat_natCast]
    rw [g0, if_pos (by omega), if_neg (by omega), show tb.length - 1 + 1 = tb.length by omega, hdr]
    simp
    omega

theorem growL_old (b : List UInt8) (d k j : Nat) (hj : j < b.length + k) (e : Nat) (he : k ≤ e) : (growL b d e)[j]? = (growL b d k)[j]? := by
  induction e with
  | zero => obtain rfl : k = 0 := by omega
            rfl
  | succ e ih =>
    rcases Nat.lt_or_ge e k with h | h
    · obtain rfl : k = e + 1 := by omega
      rfl
    · rw [growL, List.getElem?_append_left (by rw [growL_len]; omega)]
      exact ih h
theorem growL_pre (b : List UInt8) (d k : Nat) : (growL b d k).take b.length = b := by
  apply List.ext_getElem?
  intro j
  rw [List.getElem?_take]
  split
  · exact growL_old b d 0 j (by omega) k (Nat.zero_le _)
  · exact (List.getElem?_eq_none (by omega)).symm
theorem growL_back (b : List UInt8) (d k j : Nat) (hd : 1 ≤ d) (hdb : d ≤ b.length) (h1 : b.length ≤ j) (h2 : j < b.length + k) : (growL b d k)[j]?.getD 0 = (growL b d k)[j - d]?.getD 0 := by
  obtain ⟨e, rfl⟩ : ∃ e, j = b.length + e := ⟨j - b.length, by omega⟩
  rw [growL_old b d (e + 1) (b.length + e) (by omega) k (by omega), growL_old b d (e + 1) (b.length + e - d) (by omega) k (by omega)]
  have hl := growL_len b d e
  have e1 : (growL b d (e + 1))[b.length + e]? = some ((growL b d e)[(growL b d e).length - d]?.getD 0) := by
    rw [growL, ← hl, List.getElem?_append_right (Nat.le_refl _)]
    simp
  have e2 : (growL b d (e + 1))[b.length + e - d]? = (growL b d e)[b.length + e - d]? := by
    rw [growL, List.getElem?_append_left (by rw [hl]; omega)]
  rw [e1, e2, hl]
  rfl

theorem growTo_len {b l : List UInt8} {n d : Int} (h : growErr b.length l.length n d = 0) : (growTo b l n d).length = b.length + sizeT l.length n d ∧ (growTo b l n d).take b.length = b ∧ ∀ j, b.length ≤ j → j < (growTo b l n d).length → 0 < d → d ≤ j ∧ (growTo b l n d)[j]?.getD 0 = (growTo b l n d)[j - d.toNat]?.getD 0 := by
  have hm : mayT l.length n d = true := by
    unfold growErr at h
    split at h
    · assumption
    · cases h
  have hdb : d ≤ b.length := by
    unfold growErr at h
    rw [if_pos hm] at h
    split at h
    · cases h
    · omega
  have e : growTo b l n d = growL (b ++ l) d.toNat n.toNat := by unfold growTo; rw [if_pos h]
  have hs : sizeT l.length n d = l.length + n.toNat := by unfold sizeT; rw [if_pos hm]
  rw [e, hs, growL_len]
  refine ⟨by simp; omega, ?_, fun j h1 h2 h3 => ?_⟩
  · have := growL_pre (b ++ l) d.toNat n.toNat
    have h2 : (growL (b ++ l) d.toNat n.toNat).take b.length = ((growL (b ++ l) d.toNat n.toNat).take (b ++ l).length).take b.length := by
      rw [List.take_take, Nat.min_eq_left (by simp)]
    rw [h2, this]
    simp
  · rcases Nat.eq_zero_or_pos l.length with h0 | h0
    · obtain rfl : l = [] := List.eq_nil_of_length_eq_zero h0
      rw [List.append_nil] at h2 ⊢
      exact ⟨by omega, growL_back b d.toNat n.toNat j (by omega) (by omega) h1 h2⟩
    · obtain ⟨_, _, hd0⟩ := mayT_lit hm h0
      omega
end Go.Proofs.YtckdellcnoojaaaRRR
