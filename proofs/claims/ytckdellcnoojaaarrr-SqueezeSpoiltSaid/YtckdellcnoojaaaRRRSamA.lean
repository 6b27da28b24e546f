/- Package same: word, Runs, Of. -/
import Derived.Test.YtckdellcnoojaaaRRRNumA
namespace Go.Proofs.YtckdellcnoojaaaRRR
open Go.RowKit

/-- How many of the first words are other than the next one. -/
def diffW (p : List UInt8) : Nat → Nat
  | 0 => 0
  | n + 1 => diffW p n + if getN p (8 * n) 8 = getN p (8 * (n + 1)) 8 then 0 else 1
def runsW (p : List UInt8) : Nat := if p.length = 4096 then 1 + diffW p 511 else 0
theorem diffW_le (p : List UInt8) (n : Nat) : diffW p n ≤ n := by
  induction n with
  | zero => exact Nat.le_refl _
  | succ n ih => unfold diffW; split <;> omega

set_option maxHeartbeats 1000000 in
theorem sWord_any {w : World} {B : Nat} {A : Option Addr} {c : Nat} {p : List UInt8} (h : RdY w B A p) (hl : p.length = 4096) (i : Nat) (hi : i < 512) :
    Calls Try.prog 58 #[.slice A p.length c, .int .i64 i] w fun e w' => e = .returned (.int .u64 (getN p (8 * i) 8)) ∧ w = w' := by
  have HG : Hid (Calls Try.prog 57 #[.slice A p.length c, .int .i64 (8 * (i : Int)), .int .i64 8] w fun e w' => e = .returned (.tuple #[.int .u64 (getN p (8 * i) 8), .bool true]) ∧ w = w') := by
    have := numGet_any (c := c) h (by omega) (8 * i) 8 (by omega) (by omega) (by omega)
    rw [show ((8 * i : Nat) : Int) = 8 * (i : Int) by omega] at this
    exact this
  have hii : (i : Int) ≤ 511 := by omega
  clear h hl hi
  go_enter Try.func58, Try.ntmps58
  go_wp2_with (go_at_call 57; refine HG.out.mono ?_; rintro e w2 ⟨rfl, rfl⟩)
  go_ret
  exact ⟨rfl, rfl⟩

set_option maxRecDepth 100000 in
set_option maxHeartbeats 1000000 in
theorem sRuns_no {w : World} {A : Option Addr} {n c : Nat} (hn : n ≠ 4096) :
    Calls Try.prog 43 #[.slice A n c] w fun e w' => e = .returned (.int .i64 0) ∧ w = w' := by
  have h1 : ((n : Int) != 4096) = true := bne_iff_ne.2 (by omega)
  go_enter Try.func43, Try.ntmps43
  go_wp2
  go_ret
  exact ⟨rfl, rfl⟩
set_option maxRecDepth 100000 in
set_option maxHeartbeats 2000000 in
theorem sRuns_yes {w : World} {B : Nat} {A : Option Addr} {c : Nat} {p : List UInt8} (h : RdY w B A p) (hl : p.length = 4096) :
    Calls Try.prog 43 #[.slice A p.length c] w fun e w' => e = .returned (.int .i64 ((1 + diffW p 511 : Nat) : Int)) ∧ w = w' := by
  have HW := Lib.hid (fun i hi => sWord_any (c := c) h hl i hi)
  have HL := Lib.hid hl
  obtain ⟨m, hm⟩ : ∃ m, p.length = m := ⟨_, rfl⟩
  rw [hm] at HW hl ⊢
  subst hl
  clear h hm
  go_enter Try.func43, Try.ntmps43
  go_wp2
  go_loopw [3, 8] (fun v j wr => ∃ n : Nat, n ≤ 511 ∧ j = .int .i64 n ∧ v = .int .i64 ((1 + diffW p n : Nat) : Int) ∧ wr = w) (fun _ j _ => 511 - (intOf j).toNat)
  case atStart => exact ⟨0, Nat.zero_le _, rfl, rfl, rfl⟩
  case round =>
    obtain ⟨n, hn, rfl, rfl, rfl⟩ := hrel
    rcases Nat.lt_or_ge n 511 with h | h
    · have hni : (n : Int) < 511 := by omega
      have hd := diffW_le p n
      have HD : Hid (diffW p (n + 1) = diffW p n + if getN p (8 * n) 8 = getN p (8 * (n + 1)) 8 then 0 else 1) := rfl
      have H1 := HW.out n (by omega)
      have H2 := HW.out (n + 1) (by omega)
      have H1 := Lib.hid H1
      have H2 : Hid (Calls Try.prog 58 #[.slice A 4096 c, .int .i64 ((n : Int) + 1)] wr fun e w' => e = .returned (.int .u64 (getN p (8 * (n + 1)) 8)) ∧ wr = w') := by
        rw [show ((n + 1 : Nat) : Int) = (n : Int) + 1 by omega] at H2
        exact H2
      generalize getN p (8 * n) 8 = x at *
      generalize getN p (8 * (n + 1)) 8 = y at *
      generalize diffW p n = d at *
      by_cases hxy : x = y
      · subst hxy
        go_wp2_with fail
        refine H1.out.mono ?_
        rintro e w2 ⟨rfl, rfl⟩
        go_wp2_with fail
        refine H2.out.mono ?_
        rintro e w2 ⟨rfl, rfl⟩
        go_wp2
        go_roundw
        case rel => exact ⟨n + 1, by omega, by go_num, by rw [HD.out]; simp, trivial⟩
        case measure => simp [intOf]; omega
      · have hb : ((x : Int) != (y : Int)) = true := bne_iff_ne.2 (by omega)
        go_wp2_with fail
        refine H1.out.mono ?_
        rintro e w2 ⟨rfl, rfl⟩
        go_wp2_with fail
        refine H2.out.mono ?_
        rintro e w2 ⟨rfl, rfl⟩
        go_wp2
        go_roundw
        case rel => exact ⟨n + 1, by omega, by go_num, by rw [HD.out, if_neg hxy]; go_num, trivial⟩
        case measure => simp [intOf]; omega
    · obtain rfl : n = 511 := by omega
      go_wp2
      go_ret
      exact ⟨rfl, rfl⟩

theorem sRuns_any {w : World} {B : Nat} {A : Option Addr} {c : Nat} {p : List UInt8} (h : RdY w B A p) :
    Calls Try.prog 43 #[.slice A p.length c] w fun e w' => e = .returned (.int .i64 (runsW p)) ∧ w = w' := by
  by_cases hl : p.length = 4096
  · rw [show runsW p = 1 + diffW p 511 by unfold runsW; rw [if_pos hl]]
    exact sRuns_yes h hl
  · rw [show runsW p = 0 by unfold runsW; rw [if_neg hl]]
    exact sRuns_no hl
/-- The word that all words are. -/
def wordOf (p : List UInt8) : Nat := if runsW p = 1 then getN p 0 8 else 0

set_option maxRecDepth 100000 in
set_option maxHeartbeats 1000000 in
theorem sOf_any {w : World} {B : Nat} {A : Option Addr} {c : Nat} {p : List UInt8} (h : RdY w B A p) :
    Calls Try.prog 41 #[.slice A p.length c] w fun e w' => e = .returned (.tuple #[.int .u64 (wordOf p), .bool (decide (runsW p = 1))]) ∧ w = w' := by
  have HR := Lib.hid (sRuns_any (c := c) h)
  by_cases h1 : runsW p = 1
  · have hl : p.length = 4096 := by
      unfold runsW at h1
      split at h1
      · assumption
      · cases h1
    have HW : Hid (Calls Try.prog 58 #[.slice A p.length c, .int .i64 0] w fun e w' => e = .returned (.int .u64 (getN p 0 8)) ∧ w = w') := sWord_any (c := c) h hl 0 (by omega)
    rw [show wordOf p = getN p 0 8 by unfold wordOf; rw [if_pos h1], decide_eq_true h1]
    rw [h1] at HR
    clear h h1 hl
    go_enter Try.func41, Try.ntmps41
    go_wp2_with (first
      | (go_at_call 43; refine HR.out.mono ?_; rintro e w2 ⟨rfl, rfl⟩)
      | (go_at_call 58; refine HW.out.mono ?_; rintro e w2 ⟨rfl, rfl⟩))
    go_ret2
    exact ⟨rfl, rfl⟩
  · have hb : ((runsW p : Int) != 1) = true := bne_iff_ne.2 (by omega)
    rw [show wordOf p = 0 by unfold wordOf; rw [if_neg h1], decide_eq_false h1]
    generalize runsW p = r at *
    clear h h1
    go_enter Try.func41, Try.ntmps41
    go_wp2_with (go_at_call 43; refine HR.out.mono ?_; rintro e w2 ⟨rfl, rfl⟩)
    go_ret2
    exact ⟨rfl, rfl⟩
end Go.Proofs.YtckdellcnoojaaaRRR
