/- Slots: pages out of sectors; how many of eight accesses are asked for (plain). -/
import Derived.Test.YtcbfaahnhdmagaaDoorSlI
namespace Go.Proofs.YtcbfaahnhdmagaaDoor
open Go.RowKit

/-- The first sectors of a slot's page; its page. -/
def pgTo (bs : List UInt8) (n k : Nat) : List UInt8 := (bs.drop (n * 4096)).take (k * 512)
def pageOf (bs : List UInt8) (n : Nat) : List UInt8 := pgTo bs n 8
theorem pgTo_zero (bs : List UInt8) (n : Nat) : pgTo bs n 0 = [] := by simp [pgTo]
theorem pgTo_succ (bs : List UInt8) (n k : Nat) : pgTo bs n (k + 1) = pgTo bs n k ++ sec bs (n * 8 + k) := by
  unfold pgTo sec
  rw [show (k + 1) * 512 = k * 512 + 512 by omega, List.take_add, List.drop_drop, show n * 4096 + k * 512 = (n * 8 + k) * 512 by omega]
theorem pgTo_len {bs : List UInt8} {m n k : Nat} (h : bs.length = 512 * (m * 8)) (hn : n < m) (hk : k ≤ 8) : (pgTo bs n k).length = k * 512 := by
  unfold pgTo
  rw [List.length_take, List.length_drop]
  omega
theorem pgTo_same {a b : List UInt8} {n m k : Nat} (h : ∀ j, j < k → sec a (n * 8 + j) = sec b (m * 8 + j)) : pgTo a n k = pgTo b m k := by
  induction k with
  | zero => simp [pgTo]
  | succ k ih => rw [pgTo_succ, pgTo_succ, ih fun j hj => h j (by omega), h k (by omega)]
theorem sec_wr {bs p : List UInt8} {m n k : Nat} (h : bs.length = 512 * (m * 8)) (hn : n < m) (hp : p.length = 4096) (hk : k ≤ 8) (q : Nat) :
    sec (wrP bs n p k) q = if n * 8 ≤ q ∧ q < n * 8 + k then secP p (q - n * 8) else sec bs q := by
  induction k with
  | zero => rw [if_neg (by omega)]; rfl
  | succ k ih =>
    show sec (putS (wrP bs n p k) (n * 8 + k) (secP p k)) q = _
    rw [sec_put (wrP_len h hn hp (by omega)) (by omega) (secP_len hp (by omega))]
    by_cases e : q = n * 8 + k
    · subst e
      rw [if_pos rfl, if_pos (by omega), show n * 8 + k - n * 8 = k by omega]
    · rw [if_neg e, ih (by omega)]
      by_cases e2 : n * 8 ≤ q ∧ q < n * 8 + k
      · rw [if_pos e2, if_pos (by omega)]
      · rw [if_neg e2, if_neg (by omega)]
theorem page_other {bs p : List UInt8} {m n k i : Nat} (h : bs.length = 512 * (m * 8)) (hn : n < m) (hp : p.length = 4096) (hk : k ≤ 8) (hi : i ≠ n) : pageOf (wrP bs n p k) i = pageOf bs i := by
  refine pgTo_same fun j hj => ?_
  rw [sec_wr h hn hp hk, if_neg (by omega)]
theorem page_new {bs p : List UInt8} {m n : Nat} (h : bs.length = 512 * (m * 8)) (hn : n < m) (hp : p.length = 4096) : pageOf (wrP bs n p 8) n = p := by
  have e : pageOf (wrP bs n p 8) n = pgTo p 0 8 := pgTo_same fun j hj => by
    rw [sec_wr h hn hp (by omega), if_pos (by omega)]
    unfold secP sec
    rw [show n * 8 + j - n * 8 = j by omega, show 0 * 8 + j = j by omega]
  rw [e]
  unfold pgTo
  rw [Nat.zero_mul, List.drop_zero, List.take_of_length_le (by omega)]

theorem ask8_succ (l : List Bool) (a k : Nat) (h : ask8 l a k = none) : ask8 l a (k + 1) = if l[a + k]?.getD false then some k else none := by
  show (match ask8 l a k with | some j => some j | none => _) = _
  rw [h]
theorem ask8_stop {l : List Bool} {a k j m : Nat} (h : ask8 l a k = some j) (hm : k ≤ m) : ask8 l a m = some j := by
  induction m with
  | zero => obtain rfl : k = 0 := by omega
            exact h
  | succ m ih =>
    rcases Nat.lt_or_ge m k with h2 | h2
    · obtain rfl : k = m + 1 := by omega
      exact h
    · show (match ask8 l a m with | some j => some j | none => _) = _
      rw [ih h2]
theorem ask8_lt {l : List Bool} {a k j : Nat} (h : ask8 l a k = some j) : j < k := by
  induction k with
  | zero => cases h
  | succ k ih =>
    cases h2 : ask8 l a k with
    | some i =>
      have e := ask8_stop h2 (Nat.le_succ k)
      rw [h] at e
      injection e with e
      subst e
      have := ih h2
      omega
    | none =>
      rw [ask8_succ l a k h2] at h
      split at h
      · injection h with h; omega
      · cases h
/-- Of eight accesses: does one fail, and how many are asked for? -/
def bad8 (l : List Bool) (a : Nat) : Bool := (ask8 l a 8).isSome
def cnt8 (l : List Bool) (a : Nat) : Nat := match ask8 l a 8 with
  | some k => k + 1
  | none => 8
theorem bad8_some {l : List Bool} {a k : Nat} (h : ask8 l a 8 = some k) : bad8 l a = true ∧ cnt8 l a = k + 1 := by
  unfold bad8 cnt8
  rw [h]
  exact ⟨rfl, rfl⟩
theorem bad8_none {l : List Bool} {a : Nat} (h : ask8 l a 8 = none) : bad8 l a = false ∧ cnt8 l a = 8 := by
  unfold bad8 cnt8
  rw [h]
  exact ⟨rfl, rfl⟩
theorem cnt8_le (l : List Bool) (a : Nat) : cnt8 l a ≤ 8 := by
  cases h : ask8 l a 8 with
  | some k => rw [(bad8_some h).2]; exact ask8_lt h
  | none => rw [(bad8_none h).2]; exact Nat.le_refl _
theorem bad8_nil (a : Nat) : bad8 [] a = false ∧ cnt8 [] a = 8 := by
  have h : ∀ k, ask8 [] a k = none := fun k => by
    induction k with
    | zero => rfl
    | succ k ih => rw [ask8_succ _ _ _ ih]; simp
  exact bad8_none (h 8)
end Go.Proofs.YtcbfaahnhdmagaaDoor
