/- gunnylaw12: lives, cut, MatchWith, MatchFinds. -/
import Derived.Test.YtckdellcnoojaaaRRRMatD
namespace Go.Proofs.YtckdellcnoojaaaRRR
open Go.RowKit

set_option maxHeartbeats 1000000 in
theorem cut_any {w : World} {A : Option Addr} {c : Nat} {b0 : List UInt8} (hc : b0.length ≤ c) (hl : b0.length ≤ 100000) :
    Calls Try.prog 24 #[.slice A b0.length c] w fun e w' => e = .returned (.slice A (b0.take 4096).length c) ∧ w = w' := by
  have hn2 : (b0.take 4096).length = min 4096 b0.length := List.length_take
  generalize (b0.take 4096).length = n at *
  rcases Nat.lt_or_ge 4096 b0.length with h4 | h4
  · obtain rfl : n = 4096 := by omega
    clear hn2
    have h4i : (4096 : Int) < b0.length := by omega
    go_enter Try.func24, Try.ntmps24
    go_wp2
    go_ret
    exact ⟨rfl, rfl⟩
  · obtain rfl : n = b0.length := by omega
    clear hn2
    have h4i : (b0.length : Int) ≤ 4096 := by omega
    go_enter Try.func24, Try.ntmps24
    go_wp2
    go_ret
    exact ⟨rfl, rfl⟩

def livesB : List UInt8 := [97, 98, 99, 97, 98, 99, 97, 98, 100]
theorem livesB_find : (findI livesB 3).1 = 5 ∧ (findI livesB 3).2.1 = 3 := by decide +kernel

set_option maxRecDepth 100000 in
set_option maxHeartbeats 1000000 in
theorem matLives (w : World) : Calls Try.prog 22 #[] w fun e w' => e = .returned (.bool true) ∧ Below w.heap.size w w' := by
  have kc := run_const
  go_enter Try.func22, Try.ntmps22
  go_wp2_with fail
  have HR := Lib.hid (rd_const w livesB rfl 5 (9, 10))
  have hB0 : Below w.heap.size w (w.alloc (.cells (livesB.map bv).toArray 5 (9, 10))) := (Below.refl _ _).alloc (Nat.le_refl _) _
  clear kc
  refine (fNew_any (c := 9) HR.out (by simp) (by simp [livesB]) (by simp [livesB])).mono ?_
  rintro e w1 ⟨g, gl, v, rfl, hF, hB1⟩
  go_wp2_with fail
  have ht : livesB.take 4096 = livesB := rfl
  rw [ht] at hF
  refine (fFind_any hF 3).mono ?_
  rintro e w2 ⟨rfl, n, rfl⟩
  rw [livesB_find.1, livesB_find.2]
  go_wp2
  go_ret
  exact ⟨rfl, (hB0.trans (hB1.mono (by simp))).trans ⟨rfl, rfl, rfl, Nat.le_refl _, fun _ _ => rfl⟩⟩

theorem below_drewN {B : Nat} {w w' : World} (h : Below B w w') (n : Nat) : Below B w (w'.drewN n) := ⟨h.os, h.tape, h.output, h.size, h.block⟩

set_option maxRecDepth 100000 in
set_option maxHeartbeats 1000000 in
theorem mwith_great (w : World) (A : Option Addr) (n c : Nat) (a p : Int) (hl : 5000 < n) (hn : n ≤ 9223372036854775807) :
    Calls Try.prog 5 #[.slice A n c, .int .i64 a, .int .i64 p] w fun e w' => e = .returned (.bool true) ∧ Below w.heap.size w w' := by
  have hli : (5000 : Int) < n := by omega
  go_enter Try.func5, Try.ntmps5
  go_wp2_with (go_at_call 22; refine (matLives _).mono ?_; rintro x w7 ⟨rfl, hB7⟩)
  go_ret
  exact ⟨rfl, hB7⟩

set_option maxRecDepth 100000 in
set_option maxHeartbeats 1000000 in
theorem mwith_any {w : World} {A : Option Addr} {c : Nat} {b0 : List UInt8} (h : RdY w w.heap.size A b0) (hc : b0.length ≤ c) (hl : b0.length ≤ 5000) (a p : Int) :
    Calls Try.prog 5 #[.slice A b0.length c, .int .i64 a, .int .i64 p] w fun e w' => e = .returned (.bool true) ∧ Below w.heap.size w w' := by
  have HN := Lib.hid (fNew_any h (Nat.le_refl _) hc (by omega))
  have HC := Lib.hid (fun W => cut_any (w := W) (A := A) hc (by omega : b0.length ≤ 100000))
  have HR := Lib.hid (h.take 4096)
  have hlt : (b0.take 4096).length ≤ 100000 := by rw [List.length_take]; omega
  clear h
  generalize b0.take 4096 = b at *
  go_enter Try.func5, Try.ntmps5
  go_wp2_with (first
    | (go_at_call 23; refine HN.out.mono ?_; rintro e w1 ⟨g, gl, v, rfl, hF, hB1⟩)
    | (go_at_call 26; refine (fWith_any hF a p).mono ?_; rintro e w2 ⟨rfl, n, rfl⟩)
    | (go_at_call 24; refine (HC.out _).mono ?_; rintro e w3 ⟨rfl, rfl⟩)
    | (go_at_call 29; refine (refWith_any (c := c) ((HR.out.below hB1).drewN n) hlt a p).mono ?_; rintro e w4 ⟨rfl, m, rfl⟩)
    | (go_at_call 22; refine (matLives _).mono ?_; rintro x w7 ⟨rfl, hB7⟩))
  go_ret
  have hB2 := below_drewN hB1 (n + m)
  exact ⟨rfl, hB2.trans (hB7.mono hB2.size)⟩

set_option maxRecDepth 100000 in
set_option maxHeartbeats 1000000 in
theorem mfinds_great (w : World) (A A2 : Option Addr) (n c k c2 : Nat) (hl : 5000 < n ∨ (n ≤ 5000 ∧ 20 < k)) (hn : n ≤ 9223372036854775807) (hk : k ≤ 9223372036854775807) :
    Calls Try.prog 4 #[.slice A n c, .slice A2 k c2] w fun e w' => e = .returned (.bool true) ∧ Below w.heap.size w w' := by
  rcases hl with hl | ⟨hl, hl2⟩
  · have hli : (5000 : Int) < n := by omega
    go_enter Try.func4, Try.ntmps4
    go_wp2_with (go_at_call 22; refine (matLives _).mono ?_; rintro x w7 ⟨rfl, hB7⟩)
    go_ret
    exact ⟨rfl, hB7⟩
  · have hli : (20 : Int) < k := by omega
    go_enter Try.func4, Try.ntmps4
    go_wp2_with (go_at_call 22; refine (matLives _).mono ?_; rintro x w7 ⟨rfl, hB7⟩)
    go_ret
    exact ⟨rfl, hB7⟩

theorem fWith_nil (w : World) : Calls Try.prog 26 #[.pointer none, .int .i64 1, .int .i64 0] w fun e w' => e = .returned (.int .i64 0) ∧ w = w' := by
  go_enter Try.func26, Try.ntmps26
  go_wp2_with (go_at_call 25; refine (fLen_nil _).mono ?_; rintro x w7 ⟨rfl, rfl⟩)
  go_ret
  exact ⟨rfl, rfl⟩
theorem fFind_nil (w : World) (a : Int) : Calls Try.prog 27 #[.pointer none, .int .i64 a] w fun e w' => e = .returned (.tuple #[.int .i64 0, .int .i64 0]) ∧ w = w' := by
  rcases Int.lt_or_le a 0 with h | h
  · go_enter Try.func27, Try.ntmps27
    go_wp2
    go_ret2
    exact ⟨rfl, rfl⟩
  · go_enter Try.func27, Try.ntmps27
    go_wp2_with (go_at_call 25; refine (fLen_nil _).mono ?_; rintro x w7 ⟨rfl, rfl⟩)
    go_ret2
    exact ⟨rfl, rfl⟩
/-- A slice of ints. -/
def RdI (w : World) (B : Nat) (A : Option Addr) (l : List Int) : Prop := Rd w B A (l.map (Value.int .i64))
theorem RdI.at_ {w : World} {B : Nat} {A : Option Addr} {l : List Int} (h : RdI w B A l) {k : Nat} (hk : k < l.length) :
    ∃ ad, A = some ad ∧ ad.block < B ∧ w.cell? (ad.add k) = some (.int .i64 (l[k]?.getD 0)) := by
  obtain ⟨ad, e, hb, hc⟩ := h k (.int .i64 (l[k]?.getD 0)) (by simp [hk])
  exact ⟨ad, e, hb, hc⟩
theorem RdI.below {w w' : World} {B : Nat} {A : Option Addr} {l : List Int} (h : RdI w B A l) (hb : Below B w w') : RdI w' B A l := Rd.below h hb

end Go.Proofs.YtckdellcnoojaaaRRR
