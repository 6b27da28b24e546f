/- The token at a place: copies. -/
import Derived.Test.YtckdellcnoojaaaRRRTokG
namespace Go.Proofs.YtckdellcnoojaaaRRR
open Go.RowKit

theorem bdrew {B : Nat} {w w' : World} (h : Below B w w') (n : Nat) : Below B w (w'.drewN n) := ⟨h.os, h.tape, h.output, h.size, h.block⟩

set_option maxRecDepth 100000 in
set_option maxHeartbeats 1000000 in
theorem tTake_form {w : World} {B g o : Nat} {c : Nat} {l : List UInt8} (h : RdY w B (some ⟨g, o, none⟩) l) (hB : B ≤ w.heap.size) (hl : l.length ≤ 1000000) (i x : Nat) (hx : (l[i]?.getD 0).toNat = x) (hx1 : 128 ≤ x) (hx2 : x ≤ 255) (hs : i + 3 ≤ l.length) (hd : getN l (i + 1) 2 < 1 ∨ 4095 < getN l (i + 1) 2) :
    Calls Try.prog 36 #[.slice (some ⟨g, o, none⟩) l.length c, .int .i64 i] w fun e w' => e = .returned (.tuple #[.agg #[.slice none 0 0, .int .i64 0, .int .i64 0], .int .i64 0, .int .i64 3]) ∧ Below w.heap.size w w' := by
  have hb0 := (Below.refl w.heap.size w).alloc (Nat.le_refl _) (.cells #[.slice none 0 0, .int .i64 0, .int .i64 0] 24)
  have hr := h.below' hb0 hB
  have hc := hr.cell (k := i) (by omega)
  rw [hx, off_add] at hc
  have HTop : Hid (Bk (w.alloc (.cells #[.slice none 0 0, .int .i64 0, .int .i64 0] 24)) w.heap.size 24 #[.slice none 0 0, .int .i64 0, .int .i64 0]) := Bk.new _ _ _
  have HG : Hid (Calls Try.prog 57 #[.slice (some ⟨g, o, none⟩) l.length c, .int .i64 ((i : Int) + 1), .int .i64 2] (w.alloc (.cells #[.slice none 0 0, .int .i64 0, .int .i64 0] 24)) fun e w' => e = .returned (.tuple #[.int .u64 (getN l (i + 1) 2), .bool true]) ∧ (w.alloc (.cells #[.slice none 0 0, .int .i64 0, .int .i64 0] 24)) = w') := by
    have := numGet_any (c := c) hr hl (i + 1) 2 (by omega) (by omega) (by omega)
    rw [show ((i + 1 : Nat) : Int) = (i : Int) + 1 by omega] at this
    exact this
  have hlt := getN_lt l (i + 1) 2
  generalize getN l (i + 1) 2 = d at *
  have hlt2 : (d : Int) ≤ 65535 := by simp at hlt; omega
  have HM : Hid (∀ W, Calls Try.prog 33 #[.agg #[.slice none 0 0, .int .i64 ((x : Int) - 128 + 3), .int .i64 (d : Int)]] W fun e w' => e = .returned (.bool false) ∧ Below W.heap.size W w') := fun W => by
    have := tMay_any W none 0 0 ((x : Int) - 128 + 3) d (by omega)
    rwa [show mayT 0 ((x : Int) - 128 + 3) d = false by simp [mayT]; omega] at this
  have hi : i < l.length := by omega
  have d1 : decide ((i : Int) < 0) = false := decide_eq_false (by omega)
  have HB0 := Lib.hid hb0
  clear h hx hb0 hr hd hlt hs
  go_enter Try.func36, Try.ntmps36
  go_wp2_with (first
    | (go_at_call 57; refine (HG.out).mono ?_; rintro e w2 ⟨rfl, rfl⟩)
    | (go_at_call 33; refine (HM.out _).mono ?_; rintro e w3 ⟨rfl, hB3⟩; have hT3 := (HTop.out.alloc _).below' (hB3.mono (by simp)); obtain ⟨f0, f1, f2⟩ := Bk3 hT3; have g0 := hT3.free 0; have g1 := hT3.free 1; have g2 := hT3.free 2; have hlt3 : w.heap.size < w3.heap.size := hT3.lt; have HT3 := Lib.hid hT3; clear hT3))
  refine bodyPost_ret (resCTT rfl _ _ w.heap.size rfl (((HT3.out.set 0 _).set 1 _).set 2 _) Try.underlying24 tokSz) rfl ?_
  exact ⟨rfl, (((HB0.out.alloc (by simp) _).trans (hB3.mono (by simp; omega))).setCell (Nat.le_refl _) _ |>.setCell (Nat.le_refl _) _).setCell (Nat.le_refl _) _⟩
set_option maxRecDepth 100000 in
set_option maxHeartbeats 1000000 in
theorem tTake_copy {w : World} {B g o : Nat} {c : Nat} {l : List UInt8} (h : RdY w B (some ⟨g, o, none⟩) l) (hB : B ≤ w.heap.size) (hl : l.length ≤ 1000000) (i x : Nat) (hx : (l[i]?.getD 0).toNat = x) (hx1 : 128 ≤ x) (hx2 : x ≤ 255) (hs : i + 3 ≤ l.length) (hd1 : 1 ≤ getN l (i + 1) 2) (hd2 : getN l (i + 1) 2 ≤ 4095) :
    Calls Try.prog 36 #[.slice (some ⟨g, o, none⟩) l.length c, .int .i64 i] w fun e w' => e = .returned (.tuple #[.agg #[.slice none 0 0, .int .i64 ((x : Int) - 125), .int .i64 (getN l (i + 1) 2)], .int .i64 (i + 3 : Nat), .int .i64 0]) ∧ Below w.heap.size w w' := by
  have hb0 := (Below.refl w.heap.size w).alloc (Nat.le_refl _) (.cells #[.slice none 0 0, .int .i64 0, .int .i64 0] 24)
  have hr := h.below' hb0 hB
  have hc := hr.cell (k := i) (by omega)
  rw [hx, off_add] at hc
  have HTop : Hid (Bk (w.alloc (.cells #[.slice none 0 0, .int .i64 0, .int .i64 0] 24)) w.heap.size 24 #[.slice none 0 0, .int .i64 0, .int .i64 0]) := Bk.new _ _ _
  have HG : Hid (Calls Try.prog 57 #[.slice (some ⟨g, o, none⟩) l.length c, .int .i64 ((i : Int) + 1), .int .i64 2] (w.alloc (.cells #[.slice none 0 0, .int .i64 0, .int .i64 0] 24)) fun e w' => e = .returned (.tuple #[.int .u64 (getN l (i + 1) 2), .bool true]) ∧ (w.alloc (.cells #[.slice none 0 0, .int .i64 0, .int .i64 0] 24)) = w') := by
    have := numGet_any (c := c) hr hl (i + 1) 2 (by omega) (by omega) (by omega)
    rw [show ((i + 1 : Nat) : Int) = (i : Int) + 1 by omega] at this
    exact this
  generalize getN l (i + 1) 2 = d at *
  have hlt2 : (d : Int) ≤ 4095 := by omega
  have HM : Hid (∀ W, Calls Try.prog 33 #[.agg #[.slice none 0 0, .int .i64 ((x : Int) - 128 + 3), .int .i64 (d : Int)]] W fun e w' => e = .returned (.bool true) ∧ Below W.heap.size W w') := fun W => by
    have := tMay_any W none 0 0 ((x : Int) - 128 + 3) d (by omega)
    rwa [show mayT 0 ((x : Int) - 128 + 3) d = true by simp [mayT]; omega] at this
  have hi : i < l.length := by omega
  have d1 : decide ((i : Int) < 0) = false := decide_eq_false (by omega)
  have HB0 := Lib.hid hb0
  clear h hx hb0 hr hd1 hd2 hs
  go_enter Try.func36, Try.ntmps36
  go_wp2_with (first
    | (go_at_call 57; refine (HG.out).mono ?_; rintro e w2 ⟨rfl, rfl⟩)
    | (go_at_call 33; refine (HM.out _).mono ?_; rintro e w3 ⟨rfl, hB3⟩; have hT3 := (HTop.out.alloc _).below' (hB3.mono (by simp)); obtain ⟨f0, f1, f2⟩ := Bk3 hT3; have g0 := hT3.free 0; have g1 := hT3.free 1; have g2 := hT3.free 2; have hlt3 : w.heap.size < w3.heap.size := hT3.lt; obtain ⟨k0, k1, k2⟩ := Bk3 ((Bk.new (w.alloc (.cells #[.slice none 0 0, .int .i64 0, .int .i64 0] 24)) 24 #[.slice none 0 0, .int .i64 ((x : Int) - 128 + 3), .int .i64 (d : Int)]).below' (hB3.mono (by simp))); simp only [World.size_alloc] at k0 k1 k2; have HT3 := Lib.hid hT3; clear hT3))
  refine bodyPost_ret (resCTT rfl _ _ w.heap.size rfl (((HT3.out.set 0 _).set 1 _).set 2 _) Try.underlying24 tokSz) rfl ?_
  exact ⟨by rw [show ((x : Int) - 125) = (x : Int) - 128 + 3 by omega, show ((i + 3 : Nat) : Int) = (i : Int) + 1 + 2 by omega]; rfl, (((HB0.out.alloc (by simp) _).trans (hB3.mono (by simp; omega))).setCell (Nat.le_refl _) _ |>.setCell (Nat.le_refl _) _).setCell (Nat.le_refl _) _⟩

set_option maxRecDepth 100000 in
set_option maxHeartbeats 1000000 in
theorem rTake_short2 {w : World} {B g o : Nat} {c : Nat} {l : List UInt8} (h : RdY w B (some ⟨g, o, none⟩) l) (hB : B ≤ w.heap.size) (i x : Nat) (hi : i < l.length) (hx : (l[i]?.getD 0).toNat = x) (hx1 : 128 ≤ x) (hx2 : x ≤ 255) (hs : l.length < i + 3) :
    Calls Try.prog 37 #[.slice (some ⟨g, o, none⟩) l.length c, .int .i64 i] w fun e w' => e = .returned (.tuple #[.agg #[.slice none 0 0, .int .i64 0, .int .i64 0], .int .i64 0, .int .i64 4]) ∧ Below w.heap.size w w' := by
  have hb0 := (Below.refl w.heap.size w).alloc (Nat.le_refl _) (.cells #[.slice none 0 0, .int .i64 0, .int .i64 0] 32)
  have hc := (h.below' hb0 hB).cell hi
  rw [hx, off_add] at hc
  have d1 : decide ((i : Int) < 0) = false := decide_eq_false (by omega)
  have HB0 := Lib.hid hb0
  clear h hx hb0
  go_enter Try.func37, Try.ntmps37
  go_wp2
  go_returns
  exact ⟨rfl, HB0.out⟩
set_option maxRecDepth 100000 in
set_option maxHeartbeats 1000000 in
theorem rTake_form {w : World} {B g o : Nat} {c : Nat} {l : List UInt8} (h : RdY w B (some ⟨g, o, none⟩) l) (hB : B ≤ w.heap.size) (hl : l.length ≤ 1000000) (i x : Nat) (hx : (l[i]?.getD 0).toNat = x) (hx1 : 128 ≤ x) (hx2 : x ≤ 255) (hs : i + 3 ≤ l.length) (hd : getN l (i + 1) 2 < 1 ∨ (1 ≤ getN l (i + 1) 2 ∧ 4095 < getN l (i + 1) 2)) :
    Calls Try.prog 37 #[.slice (some ⟨g, o, none⟩) l.length c, .int .i64 i] w fun e w' => e = .returned (.tuple #[.agg #[.slice none 0 0, .int .i64 0, .int .i64 0], .int .i64 0, .int .i64 3]) ∧ Below w.heap.size w w' := by
  have hb0 := (Below.refl w.heap.size w).alloc (Nat.le_refl _) (.cells #[.slice none 0 0, .int .i64 0, .int .i64 0] 32)
  have hr := h.below' hb0 hB
  have hc := hr.cell (k := i) (by omega)
  have hc1 := hr.cell (k := i + 1) (by omega)
  have hc2 := hr.cell (k := i + 2) (by omega)
  rw [hx, off_add] at hc
  rw [off_add] at hc1 hc2
  have hg := getN2 l (i + 1)
  have hy1 := byte_le (l[i + 1]?.getD 0)
  have hy2 := byte_le (l[i + 2]?.getD 0)
  rw [show i + 1 + 1 = i + 2 by omega] at hg
  generalize (l[i + 1]?.getD 0).toNat = y at *
  generalize (l[i + 2]?.getD 0).toNat = z at *
  rw [hg] at hd
  have hi : i < l.length := by omega
  have hi1 : i + 1 < l.length := by omega
  have hi2 : i + 2 < l.length := by omega
  have d1 : decide ((i : Int) < 0) = false := decide_eq_false (by omega)
  have HB0 := Lib.hid hb0
  have hdi : (y : Int) + 256 * (z : Int) < 1 ∨ (1 ≤ (y : Int) + 256 * (z : Int) ∧ 4095 < (y : Int) + 256 * (z : Int)) := by omega
  clear h hx hb0 hr hg hd
  rcases hdi with hd | ⟨hd, hd'⟩
  all_goals
    go_enter Try.func37, Try.ntmps37
    go_upto_region 11 with fail
    go_quiet (fail)
    go_wp2
    go_returns
    exact ⟨rfl, (((bdrew HB0.out _).setCell (Nat.le_refl _) _).setCell (Nat.le_refl _) _).setCell (Nat.le_refl _) _⟩
set_option maxRecDepth 100000 in
set_option maxHeartbeats 1000000 in
theorem rTake_copy {w : World} {B g o : Nat} {c : Nat} {l : List UInt8} (h : RdY w B (some ⟨g, o, none⟩) l) (hB : B ≤ w.heap.size) (hl : l.length ≤ 1000000) (i x : Nat) (hx : (l[i]?.getD 0).toNat = x) (hx1 : 128 ≤ x) (hx2 : x ≤ 255) (hs : i + 3 ≤ l.length) (hd1 : 1 ≤ getN l (i + 1) 2) (hd2 : getN l (i + 1) 2 ≤ 4095) :
    Calls Try.prog 37 #[.slice (some ⟨g, o, none⟩) l.length c, .int .i64 i] w fun e w' => e = .returned (.tuple #[.agg #[.slice none 0 0, .int .i64 ((x : Int) - 125), .int .i64 (getN l (i + 1) 2)], .int .i64 (i + 3 : Nat), .int .i64 0]) ∧ Below w.heap.size w w' := by
  have hb0 := (Below.refl w.heap.size w).alloc (Nat.le_refl _) (.cells #[.slice none 0 0, .int .i64 0, .int .i64 0] 32)
  have hr := h.below' hb0 hB
  have hc := hr.cell (k := i) (by omega)
  have hc1 := hr.cell (k := i + 1) (by omega)
  have hc2 := hr.cell (k := i + 2) (by omega)
  rw [hx, off_add] at hc
  rw [off_add] at hc1 hc2
  have hg := getN2 l (i + 1)
  have hy1 := byte_le (l[i + 1]?.getD 0)
  have hy2 := byte_le (l[i + 2]?.getD 0)
  rw [show i + 1 + 1 = i + 2 by omega] at hg
  generalize (l[i + 1]?.getD 0).toNat = y at *
  generalize (l[i + 2]?.getD 0).toNat = z at *
  rw [hg] at hd1 hd2 ⊢
  have hi : i < l.length := by omega
  have hi1 : i + 1 < l.length := by omega
  have hi2 : i + 2 < l.length := by omega
  have d1 : decide ((i : Int) < 0) = false := decide_eq_false (by omega)
  have HB0 := Lib.hid hb0
  have hdi1 : 1 ≤ (y : Int) + 256 * (z : Int) := by omega
  have hdi2 : (y : Int) + 256 * (z : Int) ≤ 4095 := by omega
  have e3 : ((y + 256 * z : Nat) : Int) = (y : Int) + 256 * (z : Int) := by omega
  rw [e3]
  clear h hx hb0 hr hg hd1 hd2 e3
  go_enter Try.func37, Try.ntmps37
  go_upto_region 11 with fail
  go_quiet (fail)
  go_wp2
  go_returns
  exact ⟨by rw [show ((i + 3 : Nat) : Int) = (i : Int) + 3 by omega], (((bdrew HB0.out _).setCell (Nat.le_refl _) _).setCell (Nat.le_refl _) _).setCell (Nat.le_refl _) _⟩
end Go.Proofs.YtckdellcnoojaaaRRR
