/- The reference's Runs. -/
import Derived.Test.YtckdellcnoojaaaRRRSamC
namespace Go.Proofs.YtckdellcnoojaaaRRR
open Go.RowKit

set_option maxHeartbeats 1000000 in
theorem rRuns_len {w : World} {A : Option Addr} {n c : Nat} (hn : n ≠ 4096) :
    Calls Try.prog 44 #[.slice A n c] w fun e w' => e = .returned (.int .i64 0) ∧ w = w' := by
  have h1 : ((n : Int) != 4096) = true := bne_iff_ne.2 (by omega)
  go_enter Try.func44, Try.ntmps44
  go_wp2
  go_ret
  exact ⟨rfl, rfl⟩

/-- The 8 bytes of a word. -/
def word8 (p : List UInt8) (i : Nat) : List UInt8 := (p.drop (8 * i)).take 8
theorem getN_inj {l m : List UInt8} {a b k : Nat} (h : getN l a k = getN m b k) : ∀ j, j < k → (l[a + j]?.getD 0) = (m[b + j]?.getD 0) := by
  induction k with
  | zero => intro j hj; omega
  | succ k ih =>
    intro j hj
    have h1 := getN_lt l a k
    have h2 := getN_lt m b k
    have hb1 := byte_le (l[a + k]?.getD 0)
    have hb2 := byte_le (m[b + k]?.getD 0)
    have e : getN l a k + (l[a + k]?.getD 0).toNat * 2 ^ (8 * k) = getN m b k + (m[b + k]?.getD 0).toNat * 2 ^ (8 * k) := h
    have hd : (l[a + k]?.getD 0).toNat = (m[b + k]?.getD 0).toNat ∧ getN l a k = getN m b k := by
      generalize (l[a + k]?.getD 0).toNat = x at *
      generalize (m[b + k]?.getD 0).toNat = y at *
      generalize getN l a k = u at *
      generalize getN m b k = v at *
      have hP : 0 < 2 ^ (8 * k) := Nat.two_pow_pos _
      generalize 2 ^ (8 * k) = P at *
      have q1 : (u + x * P) / P = x := by rw [Nat.add_mul_div_right _ _ hP, Nat.div_eq_of_lt h1, Nat.zero_add]
      have q2 : (v + y * P) / P = y := by rw [Nat.add_mul_div_right _ _ hP, Nat.div_eq_of_lt h2, Nat.zero_add]
      have hxy : x = y := by rw [← q1, ← q2, e]
      subst hxy
      exact ⟨rfl, by omega⟩
    rcases Nat.lt_or_ge j k with h3 | h3
    · exact ih hd.2 j h3
    · obtain rfl : j = k := by omega
      exact UInt8.toNat.inj hd.1
theorem getN_congr {l m : List UInt8} {a b k : Nat} (h : ∀ j, j < k → (l[a + j]?.getD 0) = (m[b + j]?.getD 0)) : getN l a k = getN m b k := by
  induction k with
  | zero => rfl
  | succ k ih =>
    rw [getN, getN, ih fun j hj => h j (by omega), h k (by omega)]
theorem word8_at {p : List UInt8} (i j : Nat) (hj : j < 8) : (word8 p i)[j]?.getD 0 = p[8 * i + j]?.getD 0 := by
  unfold word8
  rw [List.getElem?_take, if_pos hj, List.getElem?_drop]
theorem word8_len {p : List UInt8} (hl : p.length = 4096) {i : Nat} (hi : i < 512) : (word8 p i).length = 8 := by
  unfold word8
  rw [List.length_take, List.length_drop]
  omega
theorem word8_eq {p : List UInt8} (hl : p.length = 4096) {i k : Nat} (hi : i < 512) (hk : k < 512) : word8 p i = word8 p k ↔ getN p (8 * i) 8 = getN p (8 * k) 8 := by
  constructor
  · intro h
    refine getN_congr fun j hj => ?_
    rw [← word8_at i j hj, ← word8_at k j hj, h]
  · intro h
    have hj := getN_inj h
    apply List.ext_getElem?
    intro j
    rcases Nat.lt_or_ge j 8 with h8 | h8
    · have a1 := word8_at (p := p) i j h8
      have a2 := word8_at (p := p) k j h8
      rw [← hj j h8] at a2
      have l1 := word8_len hl hi
      have l2 := word8_len hl hk
      rw [List.getElem?_eq_getElem (by omega), List.getElem?_eq_getElem (by omega)]
      rw [List.getElem?_eq_getElem (by omega)] at a1 a2
      simp only [Option.getD_some] at a1 a2
      rw [a1, ← a2]
    · rw [List.getElem?_eq_none (by rw [word8_len hl hi]; exact h8), List.getElem?_eq_none (by rw [word8_len hl hk]; exact h8)]
end Go.Proofs.YtckdellcnoojaaaRRR
