/- Plain laws of matches: the chain of places of one number tells what a look at each place tells. Nothing of the program stands here. -/
namespace Go.Proofs.YtckdellcnoojaaaRRR

/-- Is a byte the same, so many behind two places? -/
def okAt (b : List UInt8) (a p n : Nat) : Bool := decide (n < 130) && (decide (a + n < b.length) && (b[a + n]?.getD 0 == b[p + n]?.getD 0))
/-- How many bytes are the same from two places on. -/
def withN (b : List UInt8) (a p : Nat) : Nat := ((List.range 130).find? fun n => !okAt b a p n).getD 130
theorem withN_eq {b : List UInt8} {a p n : Nat} (h : ∀ m, m < n → okAt b a p m = true) (hn : okAt b a p n = false) : withN b a p = n := by
  have hle : n ≤ 130 := by
    rcases Nat.lt_or_ge 130 n with h1 | h1
    · have := h 130 h1
      simp [okAt] at this
    · exact h1
  unfold withN
  rcases Nat.lt_or_ge n 130 with h1 | h1
  · have e : (List.range 130).find? (fun n => !okAt b a p n) = some n := by
      rw [List.find?_range_eq_some]
      exact ⟨by simp [hn], by simpa using h1, fun j hj => by simp [h j hj]⟩
    rw [e]
    rfl
  · obtain rfl : n = 130 := by omega
    have e : (List.range 130).find? (fun n => !okAt b a p n) = none := by
      rw [List.find?_eq_none]
      intro j hj
      simp [h j (List.mem_range.1 hj)]
    rw [e]
    rfl
theorem withN_ok (b : List UInt8) (a p : Nat) : (∀ m, m < withN b a p → okAt b a p m = true) ∧ okAt b a p (withN b a p) = false := by
  unfold withN
  cases hf : (List.range 130).find? (fun n => !okAt b a p n) with
  | none =>
    rw [List.find?_eq_none] at hf
    refine ⟨fun m hm => by simpa using hf m (List.mem_range.2 hm), by simp [okAt]⟩
  | some n =>
    rw [List.find?_range_eq_some] at hf
    exact ⟨fun m hm => by simpa using hf.2.2 m hm, by simpa using hf.1⟩
theorem okAt_lt {b : List UInt8} {a p n : Nat} (h : okAt b a p n = true) : n < 130 ∧ a + n < b.length ∧ b[a + n]?.getD 0 = b[p + n]?.getD 0 := by
  simpa [okAt, and_assoc] using h
theorem withN_le (b : List UInt8) (a p : Nat) : withN b a p ≤ 130 := by
  rcases Nat.lt_or_ge 130 (withN b a p) with h | h
  · have := (withN_ok b a p).1 130 h
    simp [okAt] at this
  · exact h
theorem withN_end (b : List UInt8) {a : Nat} (p : Nat) (ha : a ≤ b.length) : a + withN b a p ≤ b.length := by
  rcases hn : withN b a p with _ | n
  · omega
  · have := okAt_lt ((withN_ok b a p).1 n (by omega))
    omega
theorem withN_same {b : List UInt8} {a p k : Nat} (h : k < withN b a p) : b[a + k]?.getD 0 = b[p + k]?.getD 0 := (okAt_lt ((withN_ok b a p).1 k h)).2.2
theorem withN_next {b : List UInt8} {a p : Nat} (h : withN b a p < 130) (h2 : a + withN b a p < b.length) : b[a + withN b a p]?.getD 0 ≠ b[p + withN b a p]?.getD 0 := fun e => by
  have := (withN_ok b a p).2
  unfold okAt at this
  rw [e] at this
  simp [h, h2] at this
theorem withN_ge {b : List UInt8} {a p k : Nat} (h : ∀ m, m < k → okAt b a p m = true) : k ≤ withN b a p := by
  rcases Nat.lt_or_ge (withN b a p) k with h1 | h1
  · have := h _ h1
    rw [(withN_ok b a p).2] at this
    cases this
  · exact h1
/-- With, of any places. -/
def withI (b : List UInt8) (a p : Int) : Nat := if 0 ≤ p ∧ p < a ∧ a < b.length then withN b a.toNat p.toNat else 0

/-- The number of three bytes. -/
def num3 (b : List UInt8) (i : Nat) : Nat := ((b[i]?.getD 0).toNat * 961 + (b[i + 1]?.getD 0).toNat * 31 + (b[i + 2]?.getD 0).toNat) % 1024
theorem num3_lt (b : List UInt8) (i : Nat) : num3 b i < 1024 := Nat.mod_lt _ (by omega)
theorem num3_same {b : List UInt8} {a p : Nat} (h : 3 ≤ withN b a p) : num3 b a = num3 b p := by
  have h0 := withN_same (b := b) (a := a) (p := p) (k := 0) (by omega)
  have h1 := withN_same (b := b) (a := a) (p := p) (k := 1) (by omega)
  have h2 := withN_same (b := b) (a := a) (p := p) (k := 2) (by omega)
  simp only [Nat.add_zero] at h0
  unfold num3
  rw [h0, h1, h2]
/-- The greatest place below k with a number, plus 1; 0: none. -/
def headOf (b : List UInt8) (n : Nat) : Nat → Nat
  | 0 => 0
  | k + 1 => if num3 b k = n then k + 1 else headOf b n k
theorem headOf_le (b : List UInt8) (n k : Nat) : headOf b n k ≤ k := by
  induction k with
  | zero => simp [headOf]
  | succ k ih =>
    simp only [headOf]
    split <;> omega
theorem headOf_hit {b : List UInt8} {n k p : Nat} (h : headOf b n k = p + 1) : num3 b p = n := by
  induction k with
  | zero => simp [headOf] at h
  | succ k ih =>
    simp only [headOf] at h
    split at h
    · obtain rfl : k = p := by omega
      assumption
    · exact ih h
theorem headOf_miss {b : List UInt8} {n k j : Nat} (h : headOf b n k ≤ j) (hj : j < k) : num3 b j ≠ n := by
  induction k with
  | zero => omega
  | succ k ih =>
    simp only [headOf] at h
    split at h
    · omega
    · rcases Nat.lt_or_ge j k with h1 | h1
      · exact ih h h1
      · obtain rfl : j = k := by omega
        assumption
/-- Where a place leads, plus 1; 0: nowhere. -/
def lastOf (b : List UInt8) (i : Nat) : Nat := if i + 3 ≤ b.length then headOf b (num3 b i) i else 0
theorem lastOf_le (b : List UInt8) (i : Nat) : lastOf b i ≤ i := by
  unfold lastOf
  split
  · exact headOf_le _ _ _
  · omega

/-- What a look at a place makes of the best, its distance, and how many were seen. -/
def stepM (b : List UInt8) (a p : Nat) (s : Nat × Nat × Nat) : Nat × Nat × Nat :=
  if 3 ≤ withN b a p then (if s.1 < withN b a p then (withN b a p, a - p, s.2.2 + 1) else (s.1, s.2.1, s.2.2 + 1)) else s
/-- All looks from below k on. -/
def goM (b : List UInt8) (a : Nat) : Nat → Nat × Nat × Nat → Nat × Nat × Nat
  | 0, s => s
  | k + 1, s => if s.2.2 < 32 then goM b a k (stepM b a k s) else s
theorem goM_full (b : List UInt8) (a : Nat) (k : Nat) {s : Nat × Nat × Nat} (h : 32 ≤ s.2.2) : goM b a k s = s := by
  cases k with
  | zero => rfl
  | succ k => simp only [goM]; rw [if_neg (by omega)]
theorem goM_skip {b : List UInt8} {a : Nat} {k j : Nat} {s : Nat × Nat × Nat} (hj : j ≤ k) (h : ∀ p, j ≤ p → p < k → withN b a p < 3) : goM b a k s = goM b a j s := by
  induction k with
  | zero =>
    obtain rfl : j = 0 := by omega
    rfl
  | succ k ih =>
    rcases Nat.lt_or_ge j (k + 1) with h1 | h1
    · rcases Nat.lt_or_ge s.2.2 32 with h2 | h2
      · simp only [goM]
        rw [if_pos h2]
        have e : stepM b a k s = s := by
          unfold stepM
          rw [if_neg (by have := h k (by omega) (by omega); omega)]
        rw [e]
        exact ih (by omega) (fun p h3 h4 => h p h3 (by omega))
      · rw [goM_full _ _ _ h2, goM_full _ _ _ h2]
    · obtain rfl : j = k + 1 := by omega
      rfl
/-- The look along the chain: from p on (plus 1) it is as from lastOf p on, behind p's own look. -/
theorem goM_chain {b : List UInt8} {a p : Nat} {s : Nat × Nat × Nat} (ha : a + 3 ≤ b.length) (hpa : p < a) (hn : num3 b p = num3 b a) (hs : s.2.2 < 32) : goM b a (p + 1) s = goM b a (lastOf b p) (stepM b a p s) := by
  simp only [goM]
  rw [if_pos hs]
  refine goM_skip (lastOf_le b p) fun q h1 h2 => ?_
  rcases Nat.lt_or_ge (withN b a q) 3 with h3 | h3
  · exact h3
  · have e := num3_same h3
    unfold lastOf at h1
    rw [if_pos (by omega)] at h1
    exact absurd (e.symm.trans hn.symm) (headOf_miss h1 h2)
theorem goM_first (b : List UInt8) (a : Nat) (s : Nat × Nat × Nat) : goM b a a s = goM b a (lastOf b a) s := by
  refine goM_skip (lastOf_le b a) fun q h1 h2 => ?_
  rcases Nat.lt_or_ge (withN b a q) 3 with h3 | h3
  · exact h3
  · have e := num3_same h3
    have h4 := okAt_lt ((withN_ok b a q).1 2 (by omega))
    unfold lastOf at h1
    rw [if_pos (by omega)] at h1
    exact absurd e.symm (headOf_miss h1 h2)
theorem lastOf_hit {b : List UInt8} {i p : Nat} (h : lastOf b i = p + 1) : p < i ∧ num3 b p = num3 b i := by
  have h1 := lastOf_le b i
  unfold lastOf at h
  split at h
  · exact ⟨by have := headOf_le b (num3 b i) i; omega, headOf_hit h⟩
  · omega
/-- Find. -/
def findM (b : List UInt8) (a : Nat) : Nat × Nat × Nat := goM b a a (0, 0, 0)
def findI (b : List UInt8) (a : Int) : Nat × Nat × Nat := if 0 ≤ a ∧ a < b.length then findM b a.toNat else (0, 0, 0)

theorem stepM_bd {b : List UInt8} {a p k : Nat} {s : Nat × Nat × Nat} (h : s.1 ≤ 130 ∧ s.2.1 ≤ k ∧ s.2.2 ≤ 32) (ha : a ≤ k) (hs : s.2.2 < 32) : (stepM b a p s).1 ≤ 130 ∧ (stepM b a p s).2.1 ≤ k ∧ (stepM b a p s).2.2 ≤ 32 := by
  have := withN_le b a p
  unfold stepM
  split
  · split
    · exact ⟨this, by simp only; omega, by simp only; omega⟩
    · exact ⟨h.1, h.2.1, by simp only; omega⟩
  · exact h

/-- What is found: nothing, and then nothing stands there; or a place with its bytes. -/
def FoundM (b : List UInt8) (a k : Nat) (s : Nat × Nat × Nat) : Prop :=
  (s = (0, 0, 0) ∧ ∀ p, k ≤ p → p < a → withN b a p < 3) ∨ (0 < s.2.2 ∧ ∃ p, p < a ∧ s.2.1 = a - p ∧ s.1 = withN b a p ∧ 3 ≤ s.1)
theorem foundM_step {b : List UInt8} {a k : Nat} {s : Nat × Nat × Nat} (h : FoundM b a (k + 1) s) (hk : k < a) : FoundM b a k (stepM b a k s) := by
  unfold stepM
  rcases h with ⟨rfl, h⟩ | ⟨h0, p, h1, h2, h3, h4⟩
  · split
    · rename_i hw
      rw [if_pos (by simp only; omega)]
      exact .inr ⟨by simp, k, hk, rfl, rfl, hw⟩
    · rename_i hw
      refine .inl ⟨rfl, fun p h1 h2 => ?_⟩
      rcases Nat.lt_or_ge k p with h3 | h3
      · exact h p (by omega) h2
      · obtain rfl : p = k := by omega
        omega
  · split
    · split
      · rename_i hw _
        exact .inr ⟨by simp, k, hk, rfl, rfl, hw⟩
      · exact .inr ⟨by simp, p, h1, h2, h3, h4⟩
    · exact .inr ⟨h0, p, h1, h2, h3, h4⟩
theorem foundM_go {b : List UInt8} {a k : Nat} {s : Nat × Nat × Nat} (h : FoundM b a k s) (hk : k ≤ a) : FoundM b a 0 (goM b a k s) := by
  induction k generalizing s with
  | zero => exact h
  | succ k ih =>
    simp only [goM]
    split
    · exact ih (foundM_step h (by omega)) (by omega)
    · rcases h with ⟨rfl, _⟩ | h
      · rename_i h2
        simp at h2
      · exact .inr h
theorem foundM (b : List UInt8) (a : Nat) : FoundM b a 0 (findM b a) := foundM_go (.inl ⟨rfl, fun p h1 h2 => by omega⟩) (Nat.le_refl _)
end Go.Proofs.YtckdellcnoojaaaRRR
