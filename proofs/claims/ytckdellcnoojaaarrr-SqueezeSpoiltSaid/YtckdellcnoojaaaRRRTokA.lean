/- Tokens: may one be, how many bytes it stands for. -/
import Derived.Test.YtckdellcnoojaaaRRRByt
namespace Go.Proofs.YtckdellcnoojaaaRRR
open Go.RowKit

/-- May a token be one that has so many bytes, a length and a distance? -/
def mayT (m : Nat) (n d : Int) : Bool := if 0 < m then decide (m ≤ 128) && (decide (n = 0) && decide (d = 0)) else decide (3 ≤ n) && (decide (n ≤ 130) && (decide (1 ≤ d) && decide (d ≤ 4095)))
theorem mayT_lit {m : Nat} {n d : Int} (h : mayT m n d = true) (hm : 0 < m) : m ≤ 128 ∧ n = 0 ∧ d = 0 := by
  simpa [mayT, hm, and_assoc] using h
theorem mayT_copy {n d : Int} (h : mayT 0 n d = true) : 3 ≤ n ∧ n ≤ 130 ∧ 1 ≤ d ∧ d ≤ 4095 := by
  simpa [mayT, and_assoc] using h
theorem mayT_lit_no {m : Nat} {n d : Int} (h : mayT m n d = false) (hm : 0 < m) : 128 < m ∨ (m ≤ 128 ∧ n ≠ 0) ∨ (m ≤ 128 ∧ n = 0 ∧ d ≠ 0) := by
  simp [mayT, hm] at h
  by_cases h1 : m ≤ 128
  · by_cases h2 : n = 0
    · exact .inr (.inr ⟨h1, h2, h h1 h2⟩)
    · exact .inr (.inl ⟨h1, h2⟩)
  · exact .inl (by omega)
theorem mayT_copy_no {n d : Int} (h : mayT 0 n d = false) : n < 3 ∨ (3 ≤ n ∧ 130 < n) ∨ (3 ≤ n ∧ n ≤ 130 ∧ d < 1) ∨ (3 ≤ n ∧ n ≤ 130 ∧ 1 ≤ d ∧ 4095 < d) := by
  simp [mayT] at h
  by_cases h1 : 3 ≤ n
  · by_cases h2 : n ≤ 130
    · by_cases h3 : 1 ≤ d
      · exact .inr (.inr (.inr ⟨h1, h2, h3, h h1 h2 h3⟩))
      · exact .inr (.inr (.inl ⟨h1, h2, by omega⟩))
    · exact .inr (.inl ⟨h1, by omega⟩)
  · exact .inl (by omega)

theorem bcell {W w1 : World} (hb : Below W.heap.size W w1) : (∀ b o, b < W.heap.size → w1.cell? ⟨b, o, none⟩ = W.cell? ⟨b, o, none⟩) ∧ (∀ b o, b < W.heap.size → w1.frozen? ⟨b, o, none⟩ = W.frozen? ⟨b, o, none⟩) :=
  ⟨fun b o h => hb.cell (p := ⟨b, o, none⟩) h, fun b o h => hb.frozen (p := ⟨b, o, none⟩) h⟩
/-- A token, as a value. -/
def tokV (A : Option Addr) (m c : Nat) (n d : Int) : Value := .agg #[.slice A m c, .int .i64 n, .int .i64 d]

theorem tLit_any (w : World) (A : Option Addr) (m c : Nat) (n d : Int) : Calls Try.prog 55 #[.agg #[.slice A m c, .int .i64 n, .int .i64 d]] w fun e w' => e = .returned (.bool (decide (0 < m))) ∧ Below w.heap.size w w' := by
  go_enter Try.func55, Try.ntmps55
  go_wp2
  go_ret
  exact ⟨ret_bool (by simp), (Below.refl _ _).alloc (Nat.le_refl _) _⟩
set_option maxHeartbeats 1000000 in
theorem tMay_any (w : World) (A : Option Addr) (m c : Nat) (n d : Int) (hm : m ≤ 9223372036854775807) : Calls Try.prog 33 #[.agg #[.slice A m c, .int .i64 n, .int .i64 d]] w fun e w' => e = .returned (.bool (mayT m n d)) ∧ Below w.heap.size w w' := by
  rcases Nat.eq_zero_or_pos m with h0 | h0
  · subst h0
    have HL := Lib.hid (fun W => tLit_any W A 0 c n d)
    cases hb : mayT 0 n d
    · have hc := mayT_copy_no hb
      clear hb
      rcases hc with h1 | ⟨h1, h2⟩ | ⟨h1, h2, h3⟩ | ⟨h1, h2, h3, h4⟩
      all_goals
        go_enter Try.func33, Try.ntmps33
        go_wp2_with (go_at_call 55; refine (HL.out _).mono ?_; rintro e w2 ⟨rfl, hB⟩; obtain ⟨hcc, hff⟩ := bcell hB)
        go_ret
        exact ⟨by first | rfl | exact ret_bool (by simp; omega), ((Below.refl _ _).alloc (Nat.le_refl _) _).trans (hB.mono (by simp))⟩
    · obtain ⟨h1, h2, h3, h4⟩ := mayT_copy hb
      clear hb
      go_enter Try.func33, Try.ntmps33
      go_wp2_with (go_at_call 55; refine (HL.out _).mono ?_; rintro e w2 ⟨rfl, hB⟩; obtain ⟨hcc, hff⟩ := bcell hB)
      go_ret
      exact ⟨by first | rfl | exact ret_bool (by simp; omega), ((Below.refl _ _).alloc (Nat.le_refl _) _).trans (hB.mono (by simp))⟩
  · have HL : Hid (∀ W, Calls Try.prog 55 #[.agg #[.slice A m c, .int .i64 n, .int .i64 d]] W fun e w' => e = .returned (.bool true) ∧ Below W.heap.size W w') := fun W => by
      have := tLit_any W A m c n d
      rwa [decide_eq_true h0] at this
    cases hb : mayT m n d
    · have hc := mayT_lit_no hb h0
      clear hb
      rcases hc with h1 | ⟨h1, h2⟩ | ⟨h1, rfl, h3⟩
      · have h1i : (128 : Int) < (m : Int) := by omega
        go_enter Try.func33, Try.ntmps33
        go_wp2_with (go_at_call 55; refine (HL.out _).mono ?_; rintro e w2 ⟨rfl, hB⟩; obtain ⟨hcc, hff⟩ := bcell hB)
        go_ret
        exact ⟨by first | rfl | exact ret_bool (by simp; omega), ((Below.refl _ _).alloc (Nat.le_refl _) _).trans (hB.mono (by simp))⟩
      · have h1i : (m : Int) ≤ 128 := by omega
        have h2q : (n == 0) = false := beq_eq_false_iff_ne.2 h2
        go_enter Try.func33, Try.ntmps33
        go_wp2_with (go_at_call 55; refine (HL.out _).mono ?_; rintro e w2 ⟨rfl, hB⟩; obtain ⟨hcc, hff⟩ := bcell hB)
        go_ret
        exact ⟨by first | rfl | exact ret_bool (by simp [h2]), ((Below.refl _ _).alloc (Nat.le_refl _) _).trans (hB.mono (by simp))⟩
      · have h1i : (m : Int) ≤ 128 := by omega
        have h2q : (d == 0) = false := beq_eq_false_iff_ne.2 h3
        go_enter Try.func33, Try.ntmps33
        go_wp2_with (go_at_call 55; refine (HL.out _).mono ?_; rintro e w2 ⟨rfl, hB⟩; obtain ⟨hcc, hff⟩ := bcell hB)
        go_ret
        exact ⟨by first | rfl | exact ret_bool (by simp [h3]), ((Below.refl _ _).alloc (Nat.le_refl _) _).trans (hB.mono (by simp))⟩
    · obtain ⟨h1, rfl, rfl⟩ := mayT_lit hb h0
      clear hb
      have h1i : (m : Int) ≤ 128 := by omega
      go_enter Try.func33, Try.ntmps33
      go_wp2_with (go_at_call 55; refine (HL.out _).mono ?_; rintro e w2 ⟨rfl, hB⟩; obtain ⟨hcc, hff⟩ := bcell hB)
      go_ret
      exact ⟨by first | rfl | exact ret_bool (by simp; omega), ((Below.refl _ _).alloc (Nat.le_refl _) _).trans (hB.mono (by simp))⟩

/-- How many bytes a token stands for. -/
def sizeT (m : Nat) (n d : Int) : Nat := if mayT m n d then m + n.toNat else 0
theorem mayT_bd {m : Nat} {n d : Int} (h : mayT m n d = true) : m ≤ 128 ∧ 0 ≤ n ∧ n ≤ 130 ∧ 0 ≤ d ∧ d ≤ 4095 := by
  rcases Nat.eq_zero_or_pos m with h0 | h0
  · subst h0
    obtain ⟨h1, h2, h3, h4⟩ := mayT_copy h
    omega
  · obtain ⟨h1, h2, h3⟩ := mayT_lit h h0
    omega
set_option maxHeartbeats 1000000 in
theorem tSize_any (w : World) (A : Option Addr) (m c : Nat) (n d : Int) (hm : m ≤ 9223372036854775807) : Calls Try.prog 34 #[.agg #[.slice A m c, .int .i64 n, .int .i64 d]] w fun e w' => e = .returned (.int .i64 (sizeT m n d)) ∧ Below w.heap.size w w' := by
  have HM := Lib.hid (fun W => tMay_any W A m c n d hm)
  cases hb : mayT m n d
  · have HS : Hid (sizeT m n d = 0) := by show _ = _; simp [sizeT, hb]
    rw [hb] at HM
    clear hb
    go_enter Try.func34, Try.ntmps34
    go_wp2_with (go_at_call 33; refine (HM.out _).mono ?_; rintro e w2 ⟨rfl, hB⟩; obtain ⟨hcc, hff⟩ := bcell hB)
    go_ret
    exact ⟨by rw [HS.out]; rfl, ((Below.refl _ _).alloc (Nat.le_refl _) _).trans (hB.mono (by simp))⟩
  · obtain ⟨b1, b2, b3, _, _⟩ := mayT_bd hb
    have HS : Hid (((m : Int) + n) = (sizeT m n d : Nat)) := by show _ = _; simp only [sizeT, hb, if_true]; omega
    rw [hb] at HM
    clear hb
    go_enter Try.func34, Try.ntmps34
    go_wp2_with (go_at_call 33; refine (HM.out _).mono ?_; rintro e w2 ⟨rfl, hB⟩; obtain ⟨hcc, hff⟩ := bcell hB)
    go_ret
    exact ⟨ret_int HS.out, ((Below.refl _ _).alloc (Nat.le_refl _) _).trans (hB.mono (by simp))⟩

theorem tGreat_any (w : World) (A : Option Addr) (m c : Nat) (n d : Int) : Calls Try.prog 17 #[.agg #[.slice A m c, .int .i64 n, .int .i64 d]] w fun e w' => e = .returned (.bool (decide (300 < m))) ∧ Below w.heap.size w w' := by
  go_enter Try.func17, Try.ntmps17
  go_wp2
  go_ret
  exact ⟨ret_bool (by simp; omega), (Below.refl _ _).alloc (Nat.le_refl _) _⟩
set_option maxHeartbeats 1000000 in
theorem rMay_any (w : World) (A : Option Addr) (m c : Nat) (n d : Int) : Calls Try.prog 31 #[.agg #[.slice A m c, .int .i64 n, .int .i64 d]] w fun e w' => e = .returned (.bool (mayT m n d)) ∧ Below w.heap.size w w' := by
  rcases Nat.eq_zero_or_pos m with h0 | h0
  · subst h0
    cases hb : mayT 0 n d
    · have hc := mayT_copy_no hb
      clear hb
      rcases hc with h1 | ⟨h1, h2⟩ | ⟨h1, h2, h3⟩ | ⟨h1, h2, h3, h4⟩
      all_goals
        go_enter Try.func31, Try.ntmps31
        go_wp2
        go_ret
        exact ⟨by first | rfl | exact ret_bool (by simp; omega), (Below.refl _ _).alloc (Nat.le_refl _) _⟩
    · obtain ⟨h1, h2, h3, h4⟩ := mayT_copy hb
      clear hb
      go_enter Try.func31, Try.ntmps31
      go_wp2
      go_ret
      exact ⟨by first | rfl | exact ret_bool (by simp; omega), (Below.refl _ _).alloc (Nat.le_refl _) _⟩
  · have h0i : (0 : Int) < (m : Int) := by omega
    cases hb : mayT m n d
    · have hc := mayT_lit_no hb h0
      clear hb
      rcases hc with h1 | ⟨h1, h2⟩ | ⟨h1, rfl, h3⟩
      · have h1i : (128 : Int) < (m : Int) := by omega
        go_enter Try.func31, Try.ntmps31
        go_wp2
        go_ret
        exact ⟨by first | rfl | exact ret_bool (by simp; omega), (Below.refl _ _).alloc (Nat.le_refl _) _⟩
      · have h1i : (m : Int) ≤ 128 := by omega
        have h2q : (n == 0) = false := beq_eq_false_iff_ne.2 h2
        go_enter Try.func31, Try.ntmps31
        go_wp2
        go_ret
        exact ⟨by first | rfl | exact ret_bool (by simp [h2]), (Below.refl _ _).alloc (Nat.le_refl _) _⟩
      · have h1i : (m : Int) ≤ 128 := by omega
        have h2q : (d == 0) = false := beq_eq_false_iff_ne.2 h3
        go_enter Try.func31, Try.ntmps31
        go_wp2
        go_ret
        exact ⟨by first | rfl | exact ret_bool (by simp [h3]), (Below.refl _ _).alloc (Nat.le_refl _) _⟩
    · obtain ⟨h1, rfl, rfl⟩ := mayT_lit hb h0
      clear hb
      have h1i : (m : Int) ≤ 128 := by omega
      go_enter Try.func31, Try.ntmps31
      go_wp2
      go_ret
      exact ⟨by first | rfl | exact ret_bool (by simp; omega), (Below.refl _ _).alloc (Nat.le_refl _) _⟩
end Go.Proofs.YtckdellcnoojaaaRRR
