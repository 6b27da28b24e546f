/- Squeeze: the tokens of a page, and bytes unpacked (plain). -/
import Derived.Test.YtckdellcnoojaaaRRRTokJ
import Derived.Test.YtckdellcnoojaaaRRRMatL
namespace Go.Proofs.YtckdellcnoojaaaRRR
open Go.RowKit

/-- A token of bytes; a copy. -/
def tkL (l : List UInt8) : Tk := ⟨none, 0, l, 0, 0⟩
def tkC (n d : Nat) : Tk := ⟨none, 0, [], n, d⟩
/-- Bytes alone, 128 a token. -/
def litT (l : List UInt8) : List Tk := if l.length = 0 then [] else tkL (l.take 128) :: litT (l.drop 128)
termination_by l.length
decreasing_by rw [List.length_drop]; omega
theorem litT_nil : litT [] = [] := by rw [litT]; rfl
theorem litT_cons {l : List UInt8} (h : 0 < l.length) : litT l = tkL (l.take 128) :: litT (l.drop 128) := by rw [litT, if_neg (by omega)]
/-- The tokens of a page, from a place on; what is not yet told begins at fr. -/
def packT (P : List UInt8) (fr at_ : Nat) : List Tk :=
  if at_ < P.length then
    if (findM P at_).1 ≤ 3 then packT P fr (at_ + 1)
    else litT ((P.take at_).drop fr) ++ tkC (findM P at_).1 (findM P at_).2.1 :: packT P (at_ + (findM P at_).1) (at_ + (findM P at_).1)
  else litT (P.drop fr)
termination_by P.length - at_
decreasing_by all_goals omega
theorem packT_skip {P : List UInt8} {fr a : Nat} (h : a < P.length) (h2 : (findM P a).1 ≤ 3) : packT P fr a = packT P fr (a + 1) := by rw [packT, if_pos h, if_pos h2]
theorem packT_copy {P : List UInt8} {fr a : Nat} (h : a < P.length) (h2 : 3 < (findM P a).1) : packT P fr a = litT ((P.take a).drop fr) ++ tkC (findM P a).1 (findM P a).2.1 :: packT P (a + (findM P a).1) (a + (findM P a).1) := by rw [packT, if_pos h, if_neg (by omega)]
theorem packT_end {P : List UInt8} {fr a : Nat} (h : P.length ≤ a) : packT P fr a = litT (P.drop fr) := by rw [packT, if_neg (by omega)]

/-- What tokens make of bytes. -/
def Plays : List Tk → List UInt8 → List UInt8 → Prop
  | [], cur, fin => cur = fin
  | t :: r, cur, fin => t.may = true ∧ t.d ≤ cur.length ∧ Plays r (growL (cur ++ t.b) t.d.toNat t.n.toNat) fin
theorem tkL_may {l : List UInt8} (h0 : 0 < l.length) (h : l.length ≤ 128) : (tkL l).may = true := by
  simp [Tk.may, tkL, mayT, h0, h]
theorem plays_lit (l r cur fin) (h : Plays r (cur ++ l) fin) : Plays (litT l ++ r) cur fin := by
  generalize hn : l.length = n
  induction n using Nat.strongRecOn generalizing l cur with
  | _ n ih =>
    rcases Nat.eq_zero_or_pos l.length with h0 | h0
    · obtain rfl : l = [] := List.eq_nil_of_length_eq_zero h0
      rw [litT_nil]
      simpa using h
    · rw [litT_cons h0]
      refine ⟨tkL_may (by simp; omega) (by simp; omega), by show (0 : Int) ≤ _; omega, ?_⟩
      have e : growL (cur ++ (tkL (l.take 128)).b) (tkL (l.take 128)).d.toNat (tkL (l.take 128)).n.toNat = cur ++ l.take 128 := rfl
      rw [e]
      refine ih (l.drop 128).length (by simp; omega) (l.drop 128) (cur ++ l.take 128) ?_ rfl
      rw [List.append_assoc, List.take_append_drop]
      exact h
theorem grow_copy {P : List UInt8} {a p k : Nat} (hp : p < a) (ha : a ≤ P.length) (hk : k ≤ withN P a p) : growL (P.take a) (a - p) k = P.take (a + k) := by
  induction k with
  | zero => rfl
  | succ k ih =>
    have he := withN_end P (a := a) p ha
    have hs := withN_same (b := P) (a := a) (p := p) (k := k) (by omega)
    show growL (P.take a) (a - p) k ++ [(growL (P.take a) (a - p) k)[(growL (P.take a) (a - p) k).length - (a - p)]?.getD 0] = _
    rw [ih (by omega)]
    have hl : (P.take (a + k)).length = a + k := by rw [List.length_take]; omega
    rw [hl, show a + k - (a - p) = p + k by omega, List.getElem?_take, if_pos (by omega), ← hs, show a + (k + 1) = a + k + 1 by omega, List.take_add_one]
    have hx : a + k < P.length := by omega
    simp [hx]
theorem plays_pack {P : List UInt8} (hP : P.length ≤ 4096) {fr a : Nat} (h1 : fr ≤ a) (h2 : a ≤ P.length) : Plays (packT P fr a) (P.take fr) P := by
  generalize hn : P.length - a = n
  induction n using Nat.strongRecOn generalizing fr a with
  | _ n ih =>
    rcases Nat.lt_or_ge a P.length with h | h
    · rcases Nat.lt_or_ge 3 (findM P a).1 with h3 | h3
      · rw [packT_copy h h3]
        apply plays_lit
        have e : P.take fr ++ (P.take a).drop fr = P.take a := by
          have : P.take fr = (P.take a).take fr := by rw [List.take_take, Nat.min_eq_left h1]
          rw [this, List.take_append_drop]
        rw [e]
        rcases foundM P a with ⟨h4, _⟩ | ⟨_, p, hp, hd, hw, hw3⟩
        · rw [h4] at h3; simp at h3
        · have hw2 := withN_le P a p
          have hwe := withN_end P (a := a) p h2
          generalize findM P a = s at *
          refine ⟨?_, ?_, ?_⟩
          · show mayT 0 (s.1 : Int) (s.2.1 : Int) = true
            unfold mayT
            rw [if_neg (by omega)]
            simp only [Bool.and_eq_true, decide_eq_true_eq]
            omega
          · show (s.2.1 : Int) ≤ _
            rw [List.length_take]
            omega
          · have e2 : growL (P.take a ++ (tkC s.1 s.2.1).b) (tkC s.1 s.2.1).d.toNat (tkC s.1 s.2.1).n.toNat = growL (P.take a) s.2.1 s.1 := by simp [tkC]
            rw [e2, hd, grow_copy hp h2 (by omega)]
            exact ih (P.length - (a + s.1)) (by omega) (Nat.le_refl _) (by omega) rfl
      · rw [packT_skip h h3]
        exact ih (P.length - (a + 1)) (by omega) (by omega) (by omega) rfl
    · rw [packT_end h]
      have := plays_lit (P.drop fr) [] (P.take fr) P (by rw [List.take_append_drop]; rfl)
      simpa using this

/-- What comes of bytes unpacked, from a place on: the page, how many tokens, the error's number. -/
def unpF (b page : List UInt8) (at_ n : Nat) : List UInt8 × Nat × Nat :=
  if page.length < 4096 then
    if (takeF b at_).err ≠ 0 then ([], 0, (takeF b at_).err.toNat)
    else if (page.length : Int) < (takeF b at_).d then ([], 0, 3)
    else if 4096 < page.length + sizeT (takeF b at_).lit.length (takeF b at_).n (takeF b at_).d then ([], 0, 5)
    else if (takeF b at_).lit.length + (takeF b at_).n.toNat = 0 then ([], 0, 99)
    else unpF b (growL (page ++ (takeF b at_).lit) (takeF b at_).d.toNat (takeF b at_).n.toNat) (takeF b at_).fin.toNat (n + 1)
  else if at_ < b.length then ([], 0, 3) else (page, n, 0)
termination_by 4096 - page.length
decreasing_by rw [growL_len, List.length_append]; omega
theorem takeF_may {b : List UInt8} {a : Int} (h : (takeF b a).err = 0) : mayT (takeF b a).lit.length (takeF b a).n (takeF b a).d = true ∧ 0 ≤ (takeF b a).fin ∧ (takeF b a).fin ≤ b.length ∧ a < (takeF b a).fin := by
  unfold takeF at h ⊢
  split
  · rename_i h1; rw [if_pos h1] at h; simp at h
  · rename_i h1
    rw [if_neg h1] at h
    split
    · rename_i h2
      rw [if_pos h2] at h
      split
      · rename_i h3; rw [if_pos h3] at h; simp at h
      · rename_i h3
        have hl : ((b.drop (a.toNat + 1)).take ((b[a.toNat]?.getD 0).toNat + 1)).length = (b[a.toNat]?.getD 0).toNat + 1 := by rw [List.length_take, List.length_drop]; omega
        refine ⟨?_, by simp only; omega, by simp only; omega, by simp only; omega⟩
        simp only [hl]
        simp [mayT]
        omega
    · rename_i h2
      rw [if_neg h2] at h
      split
      · rename_i h3; rw [if_pos h3] at h; simp at h
      · rename_i h3
        rw [if_neg h3] at h
        split
        · rename_i h4; rw [if_pos h4] at h; simp at h
        · rename_i h4
          have hx := byte_le (b[a.toNat]?.getD 0)
          refine ⟨?_, by simp only; omega, by simp only; omega, by simp only; omega⟩
          simp [mayT]
          omega
theorem mayT_pos {m : Nat} {n d : Int} (h : mayT m n d = true) : 0 < m + n.toNat ∧ sizeT m n d = m + n.toNat := by
  refine ⟨?_, by unfold sizeT; rw [if_pos h]⟩
  rcases Nat.eq_zero_or_pos m with h0 | h0
  · subst h0
    have := mayT_copy h
    omega
  · omega
section
variable {b page : List UInt8} {a n : Nat}
theorem unpF_err (h : page.length < 4096) (he : (takeF b a).err ≠ 0) : unpF b page a n = ([], 0, (takeF b a).err.toNat) := by rw [unpF, if_pos h, if_pos he]
theorem unpF_far (h : page.length < 4096) (he : (takeF b a).err = 0) (hd : (page.length : Int) < (takeF b a).d) : unpF b page a n = ([], 0, 3) := by rw [unpF, if_pos h, if_neg (by omega), if_pos hd]
theorem unpF_long (h : page.length < 4096) (he : (takeF b a).err = 0) (hd : (takeF b a).d ≤ (page.length : Int)) (hs : 4096 < page.length + sizeT (takeF b a).lit.length (takeF b a).n (takeF b a).d) : unpF b page a n = ([], 0, 5) := by rw [unpF, if_pos h, if_neg (by omega), if_neg (by omega), if_pos hs]
theorem unpF_step (h : page.length < 4096) (he : (takeF b a).err = 0) (hd : (takeF b a).d ≤ (page.length : Int)) (hs : page.length + sizeT (takeF b a).lit.length (takeF b a).n (takeF b a).d ≤ 4096) : unpF b page a n = unpF b (growL (page ++ (takeF b a).lit) (takeF b a).d.toNat (takeF b a).n.toNat) (takeF b a).fin.toNat (n + 1) := by
  have := (mayT_pos (takeF_may he).1).1
  rw [unpF, if_pos h, if_neg (by omega), if_neg (by omega), if_neg (by omega), if_neg (by omega)]
theorem unpF_more (h : 4096 ≤ page.length) (ha : a < b.length) : unpF b page a n = ([], 0, 3) := by rw [unpF, if_neg (by omega), if_pos ha]
theorem unpF_done (h : 4096 ≤ page.length) (ha : b.length ≤ a) : unpF b page a n = (page, n, 0) := by rw [unpF, if_neg (by omega), if_neg (by omega)]
end

theorem putAll_cons (t : Tk) (r : List Tk) : putAll (t :: r) = t.put ++ putAll r := by simp [putAll]
theorem putAll_app (l r : List Tk) : putAll (l ++ r) = putAll l ++ putAll r := by simp [putAll]
theorem plays_le {L : List Tk} {cur fin : List UInt8} (h : Plays L cur fin) : cur.length ≤ fin.length := by
  induction L generalizing cur with
  | nil => rw [show cur = fin from h]; exact Nat.le_refl _
  | cons t r ih =>
    have := ih h.2.2
    rw [growL_len, List.length_append] at this
    omega
/-- Tokens' bytes are unpacked to what they make; bytes behind are told. -/
theorem unp_plays {L : List Tk} {cur fin : List UInt8} (h : Plays L cur fin) (hf : fin.length = 4096) (pre rest : List UInt8) (n : Nat) : unpF (pre ++ (putAll L ++ rest)) cur pre.length n = if 0 < rest.length then ([], 0, 3) else (fin, n + L.length, 0) := by
  induction L generalizing cur pre n with
  | nil =>
    obtain rfl : cur = fin := h
    have e : (pre ++ (putAll [] ++ rest)).length = pre.length + rest.length := by simp [putAll]
    by_cases h0 : 0 < rest.length
    · rw [if_pos h0, unpF_more (by omega) (by omega)]
    · rw [if_neg h0, unpF_done (by omega) (by omega)]
      rfl
  | cons t r ih =>
    obtain ⟨h1, h2, h3⟩ := h
    have hle := plays_le h3
    rw [growL_len, List.length_append] at hle
    have hpos := mayT_pos h1
    have ht := takeF_put (pre := pre) (rest := putAll r ++ rest) h1
    have e : pre ++ (putAll (t :: r) ++ rest) = pre ++ (t.put ++ (putAll r ++ rest)) := by rw [putAll_cons, List.append_assoc]
    have e3 : pre ++ (t.put ++ (putAll r ++ rest)) = (pre ++ t.put) ++ (putAll r ++ rest) := by rw [List.append_assoc]
    rw [e, unpF_step (by omega) (by rw [ht]) (by rw [ht]; exact h2) (by rw [ht]; show cur.length + sizeT t.b.length t.n t.d ≤ 4096; omega), ht]
    have := ih h3 (pre ++ t.put) (n + 1)
    rw [← e3, List.length_append] at this
    show unpF _ _ ((pre.length + t.put.length : Nat) : Int).toNat _ = _
    rw [Int.toNat_natCast, this, List.length_cons, show n + 1 + r.length = n + (r.length + 1) by omega]
/-- A token cut off ends too early. -/
theorem takeF_cut {pre : List UInt8} {t : Tk} (h : t.may = true) {j : Nat} (hj : j < t.put.length) : (takeF (pre ++ t.put.take j) (pre.length : Int)).err = 4 := by
  have hlen : (pre ++ t.put.take j).length = pre.length + j := by rw [List.length_append, List.length_take]; omega
  rcases Nat.eq_zero_or_pos j with rfl | h0
  · unfold takeF
    rw [if_pos (by omega)]
  · have hx : (pre ++ t.put.take j)[pre.length]? = t.put[0]? := by
      rw [List.getElem?_append_right (Nat.le_refl _), Nat.sub_self, List.getElem?_take, if_pos h0]
    obtain ⟨tA, tc, tb, tn, td⟩ := t
    unfold Tk.may at h
    unfold Tk.put at hj hlen hx ⊢
    simp only at h hj hlen hx ⊢
    rcases Nat.eq_zero_or_pos tb.length with hb | hb
    · obtain rfl : tb = [] := List.eq_nil_of_length_eq_zero hb
      have hm := mayT_copy h
      have hpt : putT [] tn.toNat td.toNat = [UInt8.ofNat (125 + tn.toNat), UInt8.ofNat (td.toNat % 256), UInt8.ofNat (td.toNat / 256)] := rfl
      rw [hpt] at hj hlen hx ⊢
      generalize pre ++ [UInt8.ofNat (125 + tn.toNat), UInt8.ofNat (td.toNat % 256), UInt8.ofNat (td.toNat / 256)].take j = q at *
      have g0 : (q[pre.length]?.getD 0).toNat = 125 + tn.toNat := by rw [hx]; exact u8_small (by omega)
      simp at hj
      unfold takeF
      rw [if_neg (by omega)]
      simp only [Int.toNat_natCast]
      rw [g0, if_neg (by omega), if_pos (by omega)]
    · obtain ⟨h1, rfl, rfl⟩ := mayT_lit h hb
      have hpt : putT tb (0 : Int).toNat (0 : Int).toNat = UInt8.ofNat (tb.length - 1) :: tb := by unfold putT; rw [if_pos hb]
      rw [hpt] at hj hlen hx ⊢
      generalize pre ++ (UInt8.ofNat (tb.length - 1) :: tb).take j = q at *
      have g0 : (q[pre.length]?.getD 0).toNat = tb.length - 1 := by rw [hx]; exact u8_small (by omega)
      simp at hj
      unfold takeF
      rw [if_neg (by omega)]
      simp only [Int.toNat_natCast]
      rw [g0, if_pos (by omega), if_pos (by omega)]
theorem unp_cut {L : List Tk} {cur fin : List UInt8} (h : Plays L cur fin) (hf : fin.length = 4096) (pre : List UInt8) (n : Nat) {j : Nat} (hj : j < (putAll L).length) : (unpF (pre ++ (putAll L).take j) cur pre.length n).2.2 ≠ 0 := by
  induction L generalizing cur pre n j with
  | nil => simp [putAll] at hj
  | cons t r ih =>
    obtain ⟨h1, h2, h3⟩ := h
    have hle := plays_le h3
    rw [growL_len, List.length_append] at hle
    have hpos := mayT_pos h1
    rw [putAll_cons, List.length_append] at hj
    rcases Nat.lt_or_ge j t.put.length with hlt | hge
    · have e : (putAll (t :: r)).take j = t.put.take j := by rw [putAll_cons, List.take_append_of_le_length (by omega)]
      have hc := takeF_cut (pre := pre) h1 hlt
      rw [e, unpF_err (by omega) (by rw [hc]; decide), hc]
      decide
    · obtain ⟨i, rfl⟩ : ∃ i, j = t.put.length + i := ⟨j - t.put.length, by omega⟩
      have e : (putAll (t :: r)).take (t.put.length + i) = t.put ++ (putAll r).take i := by rw [putAll_cons, List.take_append, Nat.add_sub_cancel_left, List.take_of_length_le (Nat.le_add_right _ _)]
      have ht := takeF_put (pre := pre) (rest := (putAll r).take i) h1
      rw [e, unpF_step (by omega) (by rw [ht]) (by rw [ht]; exact h2) (by rw [ht]; show cur.length + sizeT t.b.length t.n t.d ≤ 4096; omega), ht]
      have := ih h3 (pre ++ t.put) (n + 1) (j := i) (by omega)
      rw [List.append_assoc, List.length_append] at this
      exact this
end Go.Proofs.YtckdellcnoojaaaRRR
