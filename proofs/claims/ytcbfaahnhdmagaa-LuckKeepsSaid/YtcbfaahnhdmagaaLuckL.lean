/- The walks of gunnylaw07: lives, LuckCounts, LuckPlays, LuckKeeps: each returns true, and turns nothing that was there. -/
import Derived.Test.YtcbfaahnhdmagaaLuckB
import Derived.Deep.RegionWith
namespace Go.Proofs.Ytcbfaahnhdmagaa
open Go.RowKit

set_option maxHeartbeats 1000000 in
theorem luckLives (w : World) : Calls Try.prog 9 #[] w fun e w' => e = .returned (.bool true) ∧ Below w.heap.size w w' := by
  have hb0 : Bk (w.alloc (.cells #[.bool true, .bool false] 4)) w.heap.size 4 #[.bool true, .bool false] := Bk.new _ _ _
  have hR := Lib.hid (show RdB (w.alloc (.cells #[.bool true, .bool false] 4)) (w.heap.size + 1) (some ⟨w.heap.size, 0, none⟩) [true, false] from by
    intro k u hu
    refine ⟨_, rfl, by simp, ?_⟩
    match k, hu with
    | 0, hu => simpa [Addr.add, hb0.cell] using hu
    | 1, hu => simpa [Addr.add, hb0.cell] using hu)
  clear hb0
  go_enter Try.func9, Try.ntmps9
  go_wp2_with fail
  refine (luckNew_any (l := [true, false]) hR.out (by simp) (by simp)).mono ?_
  rintro e w1 ⟨g, rfl, hL, hB1⟩
  go_wp2_with fail
  refine (fails_any hL (by simp) (by simp) (by simp)).mono ?_
  rintro e w2 ⟨rfl, hL2, hF2⟩
  rw [show ([true, false][0]?.getD false) = true from rfl]
  go_wp2_with fail
  refine (fails_any hL2 (by simp) (by simp) (by simp)).mono ?_
  rintro e w3 ⟨rfl, hL3, hF3⟩
  rw [show ([true, false][0 + 1]?.getD false) = false from rfl]
  go_wp2_with fail
  refine (fails_any hL3 (by simp) (by simp) (by simp)).mono ?_
  rintro e w4 ⟨rfl, hL4, hF4⟩
  rw [show ([true, false][0 + 1 + 1]?.getD false) = false from rfl]
  go_wp2_with fail
  refine (asked_any hL4).mono ?_
  rintro e w5 ⟨rfl, rfl⟩
  go_wp2
  go_ret
  have hg := hL.self.1
  simp only [World.size_alloc] at hg
  have hF : Fr (· = g) w1 w4 := (hF2.trans hF3 fun _ _ h => h).trans hF4 fun _ _ h => h
  have hs := hB1.size
  simp only [World.size_alloc] at hs
  exact ⟨rfl, (((Below.refl _ _).alloc (Nat.le_refl _) _).trans (hB1.mono (by simp))).trans (hF.below (by omega) (fun k hk e => by omega))⟩

/-- What the loop of LuckCounts and LuckPlays holds: luck of these choices, k times asked, in blocks of the call's own. -/
structure LuckRun (w0 w : World) (S : Nat → Prop) (g : Nat) (l : List Bool) (k : Nat) : Prop where
  at_ : LuckAt w S g l k (failed l k)
  new : ∀ b, S b → w0.heap.size ≤ b
  below : Below w0.heap.size w0 w

theorem LuckRun.step {w0 w w' : World} {S : Nat → Prop} {g : Nat} {l : List Bool} {k : Nat} (h : LuckRun w0 w S g l k) (hL : LuckAt w' S g l (k + 1) (failed l k + if l[k]?.getD false then 1 else 0)) (hF : Fr (· = g) w w') : LuckRun w0 w' S g l (k + 1) :=
  ⟨by rw [failed_succ]; exact hL, h.new, h.below.trans (hF.below h.below.size (fun b hb e => by have := h.new g h.at_.self; omega))⟩
theorem LuckRun.drewN {w0 w : World} {S : Nat → Prop} {g : Nat} {l : List Bool} {k : Nat} (h : LuckRun w0 w S g l k) (n : Nat) : LuckRun w0 (w.drewN n) S g l k :=
  ⟨h.at_.drewN n, h.new, h.below.trans ⟨rfl, rfl, rfl, Nat.le_refl _, fun _ _ => rfl⟩⟩
theorem LuckRun.start {w0 w1 : World} {g : Nat} {l : List Bool} (hL : LuckAt w1 (fun k => w0.heap.size ≤ k ∧ k < w1.heap.size) g l 0 0) (hB : Below w0.heap.size w0 w1) : LuckRun w0 w1 (fun k => w0.heap.size ≤ k ∧ k < w1.heap.size) g l 0 :=
  ⟨by simpa [failed] using hL, fun _ h => h.1, hB⟩

set_option maxHeartbeats 1000000 in
theorem luckCounts_great (w : World) (A : Option Addr) (c : Nat) (l : List Bool) (n : Int) (h : 500 < l.length) :
    Calls Try.prog 5 #[.slice A l.length c, .int .u8 n] w fun e w' => e = .returned (.bool true) ∧ Below w.heap.size w w' := by
  go_enter Try.func5, Try.ntmps5
  go_wp2_with (go_at_call 9; refine (luckLives _).mono ?_; rintro e w1 ⟨rfl, hb⟩)
  go_ret
  exact ⟨rfl, hb⟩

set_option maxHeartbeats 1000000 in
theorem luckCounts_any (w : World) (A : Option Addr) (c : Nat) (l : List Bool) (n : Nat) (hA : RdB w w.heap.size A l) (h : l.length ≤ 500) (hn : n ≤ 255) :
    Calls Try.prog 5 #[.slice A l.length c, .int .u8 n] w fun e w' => e = .returned (.bool true) ∧ Below w.heap.size w w' := by
  have HA := Lib.hid hA
  clear hA
  go_enter Try.func5, Try.ntmps5
  go_wp2_with (go_at_call 10; refine (luckNew_any HA.out (Nat.le_refl _) (by omega)).mono ?_; rintro e w1 ⟨g, rfl, hL, hB1⟩)
  have hR := LuckRun.start hL hB1
  clear hL hB1
  generalize (fun k => w.heap.size ≤ k ∧ k < w1.heap.size) = S at hR
  go_loopw [6, 7] (fun b i wr => ∃ k : Nat, k ≤ n ∧ i = .int .i64 k ∧ b = .int .i64 (failed l k) ∧ LuckRun w wr S g l k) (fun _ i _ => n - (intOf i).toNat)
  case atStart => exact ⟨0, Nat.zero_le _, rfl, rfl, hR⟩
  case round =>
    clear hR
    obtain ⟨k, hk, rfl, rfl, hR⟩ := hrel
    have hle := failed_le l k
    rcases Nat.lt_or_ge k n with hlt | hge
    · have HS := Lib.hid (failed_succ l k)
      cases hx : l[k]?.getD false
      all_goals
        have HX := Lib.hid hx
        have HF := fails_any hR.at_ (by omega) (by omega) (by omega)
        rw [hx] at HF
        clear hx
        go_wp2_with (go_at_call 11; refine HF.mono ?_; clear HF; rintro e w2 ⟨rfl, hL2, hF2⟩)
        go_roundw
        case rel => exact ⟨k + 1, by omega, by go_num, by rw [HS.out, HX.out]; simp, hR.step (by rw [HX.out]; exact hL2) hF2⟩
        case measure => simp [intOf]; omega
    · obtain rfl : k = n := by omega
      go_wp2_with fail
      refine (asked_any hR.at_).mono ?_
      rintro e w5 ⟨rfl, rfl⟩
      go_wp2_with fail
      refine (failed_any hR.at_).mono ?_
      rintro e w5 ⟨rfl, rfl⟩
      rcases Nat.lt_or_ge k l.length with hkl | hkl
      · obtain ⟨d, hd⟩ : ∃ d, l.length = k + d + 1 := ⟨l.length - k - 1, by omega⟩
        have e1 : (((d : Int) + 1) == 0) = false := by rw [beq_eq_false_iff_ne]; omega
        have e2 : (((d : Int) + 1 + k) == (l.length : Int)) = true := by rw [beq_iff_eq]; omega
        have HD := Lib.hid (show l.length - k = d + 1 from by omega)
        have hdb : d ≤ 500 := by omega
        clear hd
        go_wp2_with fail
        refine (left_any hR.at_ (by omega) (by omega)).mono ?_
        rintro e w5 ⟨rfl, m, rfl⟩
        rw [HD.out]
        go_wp2_with fail
        refine (left_any (hR.at_.drewN m) (by omega) (by omega)).mono ?_
        rintro e w5 ⟨rfl, m2, rfl⟩
        rw [HD.out]
        go_wp2_with fail
        refine (asked_any (hR.at_.drewN _)).mono ?_
        rintro e w5 ⟨rfl, rfl⟩
        go_wp2_with fail
        refine (luckLives _).mono ?_
        rintro e w6 ⟨rfl, hb6⟩
        go_wp2
        go_ret
        exact ⟨rfl, (hR.drewN _).below.trans (hb6.mono hR.below.size)⟩
      · have HD := Lib.hid (show l.length - k = 0 from by omega)
        go_wp2_with fail
        refine (left_any hR.at_ (by omega) (by omega)).mono ?_
        rintro e w5 ⟨rfl, m, rfl⟩
        rw [HD.out]
        go_wp2_with fail
        refine (luckLives _).mono ?_
        rintro e w6 ⟨rfl, hb6⟩
        go_wp2
        go_ret
        exact ⟨rfl, (hR.drewN _).below.trans (hb6.mono hR.below.size)⟩

set_option maxHeartbeats 1000000 in
theorem luckPlays_great (w : World) (A : Option Addr) (c : Nat) (l : List Bool) (n : Int) (h : 500 < l.length) :
    Calls Try.prog 4 #[.slice A l.length c, .int .u8 n] w fun e w' => e = .returned (.bool true) ∧ Below w.heap.size w w' := by
  go_enter Try.func4, Try.ntmps4
  go_wp2_with (first
    | (go_at_call 11; refine (fails_nil _).mono ?_; rintro e w1 ⟨rfl, rfl⟩)
    | (go_at_call 13; refine (asked_nil _).mono ?_; rintro e w1 ⟨rfl, rfl⟩)
    | (go_at_call 14; refine (failed_nil _).mono ?_; rintro e w1 ⟨rfl, rfl⟩)
    | (go_at_call 12; refine (left_nil _).mono ?_; rintro e w1 ⟨rfl, rfl⟩)
    | (go_at_call 9; refine (luckLives _).mono ?_; rintro e w1 ⟨rfl, hb⟩))
  go_ret
  exact ⟨rfl, hb⟩

set_option maxHeartbeats 1000000 in
theorem luckPlays_any (w : World) (A : Option Addr) (c : Nat) (l : List Bool) (n : Nat) (hA : RdB w w.heap.size A l) (h : l.length ≤ 500) (hn : n ≤ 255) :
    Calls Try.prog 4 #[.slice A l.length c, .int .u8 n] w fun e w' => e = .returned (.bool true) ∧ Below w.heap.size w w' := by
  have HA := Lib.hid hA
  clear hA
  go_enter Try.func4, Try.ntmps4
  go_wp2_with (first
    | (go_at_call 11; refine (fails_nil _).mono ?_; rintro e w1 ⟨rfl, rfl⟩)
    | (go_at_call 13; refine (asked_nil _).mono ?_; rintro e w1 ⟨rfl, rfl⟩)
    | (go_at_call 14; refine (failed_nil _).mono ?_; rintro e w1 ⟨rfl, rfl⟩)
    | (go_at_call 12; refine (left_nil _).mono ?_; rintro e w1 ⟨rfl, rfl⟩)
    | (go_at_call 10; refine (luckNew_any HA.out (Nat.le_refl _) (by omega)).mono ?_; rintro e w1 ⟨g, rfl, hL, hB1⟩))
  have hR := LuckRun.start hL hB1
  clear hL hB1
  generalize (fun k => w.heap.size ≤ k ∧ k < w1.heap.size) = S at hR
  go_loopw [7] (fun i wr => ∃ k : Nat, k ≤ n ∧ i = .int .i64 k ∧ LuckRun w wr S g l k) (fun i _ => n - (intOf i).toNat)
  case atStart => exact ⟨0, Nat.zero_le _, rfl, hR⟩
  case round =>
    clear hR
    obtain ⟨k, hk, rfl, hR⟩ := hrel
    have hle := failed_le l k
    rcases Nat.lt_or_ge k n with hlt | hge
    · go_wp2_with fail
      refine (asked_any hR.at_).mono ?_
      rintro e w5 ⟨rfl, rfl⟩
      go_wp2_with fail
      refine (failed_any hR.at_).mono ?_
      rintro e w5 ⟨rfl, rfl⟩
      go_wp2_with fail
      refine (refFailed_any (HA.out.below hR.below) k (by omega) (by omega)).mono ?_
      rintro e w5 ⟨rfl, rfl⟩
      have HD : Hid (((l.length - k : Nat) : Int) = if k < l.length then (l.length : Int) - k else 0) := by
        split
        · exact Int.ofNat_sub (by omega)
        · exact congrArg Nat.cast (show l.length - k = 0 from by omega)
      generalize hx : l[k]?.getD false = b
      have HF : ∀ m, Calls Try.prog 11 #[.pointer (some ⟨g, 0, none⟩)] (wr.drewN m) fun e w' => e = .returned (.bool b) ∧ LuckRun w w' S g l (k + 1) := fun m => by
        subst hx
        exact (fails_any (hR.drewN m).at_ (by omega) (by omega) (by omega)).mono fun e w' ⟨he, h1, h2⟩ => ⟨he, (hR.drewN m).step h1 h2⟩
      have HX := Lib.hid hx
      have HG := Lib.hid HF
      clear hx HF
      rcases Nat.lt_or_ge k l.length with hkl | hkl
      all_goals cases b
      all_goals
        go_wp2_with fail
        refine (left_any hR.at_ (by omega) (by omega)).mono ?_
        rintro e w5 ⟨rfl, m, rfl⟩
        rw [HD.out]
        first | rw [if_pos hkl] | rw [if_neg (by omega)]
        go_wp2_with fail
        refine (HG.out m).mono ?_
        rintro e w6 ⟨rfl, hR6⟩
        go_wp2_with fail
        refine (refFails_any (HA.out.below hR6.below) k).mono ?_
        rintro e w5 ⟨rfl, rfl⟩
        rw [HX.out]
        go_wp2_with fail
        go_roundw
        case rel => exact ⟨k + 1, by omega, by go_num, hR6⟩
        case measure => simp [intOf]; omega
    · obtain rfl : k = n := by omega
      go_wp2_with fail
      refine (luckLives _).mono ?_
      rintro e w6 ⟨rfl, hb6⟩
      go_wp2
      go_ret
      exact ⟨rfl, hR.below.trans (hb6.mono hR.below.size)⟩
end Go.Proofs.Ytcbfaahnhdmagaa
