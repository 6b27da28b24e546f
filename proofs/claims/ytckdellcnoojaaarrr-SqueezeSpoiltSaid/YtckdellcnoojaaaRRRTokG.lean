/- The token at a place: of the program, of the reference. -/
import Derived.Test.YtckdellcnoojaaaRRRTokF
import Derived.Test.YtckdellcnoojaaaRRRGyRow
import Derived.Handy
namespace Go.Proofs.YtckdellcnoojaaaRRR
open Go.RowKit

set_option maxRecDepth 100000 in
set_option maxHeartbeats 1000000 in
theorem tTake_out (w : World) (A : Option Addr) (m c : Nat) (a : Int) (ha : a < 0 ∨ (0 ≤ a ∧ (m : Int) ≤ a)) :
    Calls Try.prog 36 #[.slice A m c, .int .i64 a] w fun e w' => e = .returned (.tuple #[.agg #[.slice none 0 0, .int .i64 0, .int .i64 0], .int .i64 0, .int .i64 4]) ∧ Below w.heap.size w w' := by
  rcases ha with h | ⟨h, h'⟩
  all_goals
    go_enter Try.func36, Try.ntmps36
    go_wp2
    go_returns
    exact ⟨rfl, (Below.refl _ _).alloc (Nat.le_refl _) _⟩
set_option maxRecDepth 100000 in
set_option maxHeartbeats 1000000 in
theorem rTake_out (w : World) (A : Option Addr) (m c : Nat) (a : Int) (ha : a < 0 ∨ (0 ≤ a ∧ (m : Int) ≤ a)) :
    Calls Try.prog 37 #[.slice A m c, .int .i64 a] w fun e w' => e = .returned (.tuple #[.agg #[.slice none 0 0, .int .i64 0, .int .i64 0], .int .i64 0, .int .i64 4]) ∧ Below w.heap.size w w' := by
  rcases ha with h | ⟨h, h'⟩
  all_goals
    go_enter Try.func37, Try.ntmps37
    go_wp2
    go_returns
    exact ⟨rfl, (Below.refl _ _).alloc (Nat.le_refl _) _⟩

set_option maxRecDepth 100000 in
set_option maxHeartbeats 1000000 in
theorem tTake_short {w : World} {B : Nat} {ad : Addr} {c : Nat} {l : List UInt8} (h : RdY w B (some ad) l) (hB : B ≤ w.heap.size) (hl : l.length ≤ 1000000) (i x : Nat) (hi : i < l.length) (hx : (l[i]?.getD 0).toNat = x) (hx1 : x < 128) (hs : l.length < i + 1 + x + 1) :
    Calls Try.prog 36 #[.slice (some ad) l.length c, .int .i64 i] w fun e w' => e = .returned (.tuple #[.agg #[.slice none 0 0, .int .i64 0, .int .i64 0], .int .i64 0, .int .i64 4]) ∧ Below w.heap.size w w' := by
  have hc := (h.below ((Below.refl B w).alloc hB (.cells #[.slice none 0 0, .int .i64 0, .int .i64 0] 24))).cell hi
  rw [hx] at hc
  clear h hx
  go_enter Try.func36, Try.ntmps36
  go_wp2
  go_returns
  exact ⟨rfl, (Below.refl _ _).alloc (Nat.le_refl _) _⟩
set_option maxRecDepth 100000 in
set_option maxHeartbeats 1000000 in
theorem rTake_short {w : World} {B : Nat} {ad : Addr} {c : Nat} {l : List UInt8} (h : RdY w B (some ad) l) (hB : B ≤ w.heap.size) (i x : Nat) (hi : i < l.length) (hx : (l[i]?.getD 0).toNat = x) (hx1 : x < 128) (hs : l.length < i + 1 + x + 1) :
    Calls Try.prog 37 #[.slice (some ad) l.length c, .int .i64 i] w fun e w' => e = .returned (.tuple #[.agg #[.slice none 0 0, .int .i64 0, .int .i64 0], .int .i64 0, .int .i64 4]) ∧ Below w.heap.size w w' := by
  have hc := (h.below ((Below.refl B w).alloc hB (.cells #[.slice none 0 0, .int .i64 0, .int .i64 0] 32))).cell hi
  rw [hx] at hc
  clear h hx
  go_enter Try.func37, Try.ntmps37
  go_wp2
  go_returns
  exact ⟨rfl, (Below.refl _ _).alloc (Nat.le_refl _) _⟩

theorem RdY.spot {w : World} {B : Nat} {ad : Addr} {l : List UInt8} (h : RdY w B (some ad) l) (hl : 0 < l.length) : ∃ g o, ad = ⟨g, o, none⟩ := by
  obtain ⟨g, o, s⟩ := ad
  have := World.cell?_spot (h.cell hl)
  have hs : s = none := by simpa [Addr.add] using this
  exact ⟨g, o, by rw [hs]⟩
theorem off_add (b o i : Nat) : (⟨b, o, none⟩ : Addr).add i = ⟨b, o + i, none⟩ := by
  unfold Addr.add
  split <;> simp_all

theorem resCTT {fn : Func} {p u v : Tmp} {ty : TypeId} {cs : Array Value} (h : fn.results = #[.cell p ty, .tmp u, .tmp v]) (tmps : Array Value) (w : World) (g : Nat) (hp : tmps.getD p undef = .pointer (some ⟨g, 0, none⟩)) (hb : Bk w g ty cs) {fs : Array Field} (hu : Try.prog.underlying ty = some (.struct fs)) (hi : (Try.prog.info? ty).map (·.size) = some cs.size) :
    (results fn tmps).run Try.prog w = .ok (.tuple #[.agg cs, tmps.getD u undef, tmps.getD v undef]) w := by
  have hp' : tmps[p]?.getD undef = .pointer (some ⟨g, 0, none⟩) := by simpa using hp
  simp [results, h, hp', asAddr, run_loadVar_row w g ty ty cs (0, 0) (.struct fs) hb hu rfl hi]
theorem tokSz : (Try.prog.info? 24).map (·.size) = some 3 := by kernel_rfl

set_option maxRecDepth 100000 in
set_option maxHeartbeats 1000000 in
theorem rTake_lit {w : World} {B g o : Nat} {c : Nat} {l : List UInt8} (h : RdY w B (some ⟨g, o, none⟩) l) (hB : B ≤ w.heap.size) (hcap : l.length ≤ c) (i x : Nat) (hi : i < l.length) (hx : (l[i]?.getD 0).toNat = x) (hx1 : x < 128) (hs : i + 1 + x + 1 ≤ l.length) (hl : l.length ≤ 1000000) :
    Calls Try.prog 37 #[.slice (some ⟨g, o, none⟩) l.length c, .int .i64 i] w fun e w' => ∃ c', e = .returned (.tuple #[.agg #[.slice (some ⟨g, o + (i + 1), none⟩) (x + 1) c', .int .i64 0, .int .i64 0], .int .i64 (i + x + 2 : Nat), .int .i64 0]) ∧ Below w.heap.size w w' := by
  have hc := (h.below ((Below.refl B w).alloc hB (.cells #[.slice none 0 0, .int .i64 0, .int .i64 0] 32))).cell hi
  rw [hx, off_add] at hc
  clear h hx
  go_enter Try.func37, Try.ntmps37
  go_wp2
  go_returns
  exact ⟨_, by rw [show i + x + 1 - i = x + 1 by omega, show (i : Int) + (x : Int) + 2 = ((i + x + 2 : Nat) : Int) by omega], (Below.refl _ _).alloc (Nat.le_refl _) _⟩
set_option maxRecDepth 100000 in
set_option maxHeartbeats 1000000 in
theorem tTake_lit {w : World} {B g o : Nat} {c : Nat} {l : List UInt8} (h : RdY w B (some ⟨g, o, none⟩) l) (hB : B ≤ w.heap.size) (hcap : l.length ≤ c) (i x : Nat) (hi : i < l.length) (hx : (l[i]?.getD 0).toNat = x) (hx1 : x < 128) (hs : i + 1 + x + 1 ≤ l.length) (hl : l.length ≤ 1000000) :
    Calls Try.prog 36 #[.slice (some ⟨g, o, none⟩) l.length c, .int .i64 i] w fun e w' => ∃ A' c', e = .returned (.tuple #[.agg #[.slice A' (x + 1) c', .int .i64 0, .int .i64 0], .int .i64 (i + x + 2 : Nat), .int .i64 0]) ∧ RdY w' w'.heap.size A' ((l.drop (i + 1)).take (x + 1)) ∧ Below w.heap.size w w' := by
  have hb0 := (Below.refl w.heap.size w).alloc (Nat.le_refl _) (.cells #[.slice none 0 0, .int .i64 0, .int .i64 0] 24)
  have HTop : Hid (Bk (w.alloc (.cells #[.slice none 0 0, .int .i64 0, .int .i64 0] 24)) w.heap.size 24 #[.slice none 0 0, .int .i64 0, .int .i64 0]) := Bk.new _ _ _
  have hr := h.below' hb0 hB
  have hc := hr.cell hi
  rw [hx, off_add] at hc
  have hlen : ((l.drop (i + 1)).take (x + 1)).length = x + 1 := by rw [List.length_take, List.length_drop]; omega
  have HCl : Hid (∀ y c2, y = x + 1 → Calls Try.prog 53 #[.slice (some ⟨g, o + (i + 1), none⟩) y c2] (w.alloc (.cells #[.slice none 0 0, .int .i64 0, .int .i64 0] 24)) fun e w' => ∃ A' c', e = .returned (.slice A' (x + 1) c') ∧ OwnY w' (w.heap.size + 1) (.slice A' (x + 1) c') ((l.drop (i + 1)).take (x + 1)) ∧ Below (w.heap.size + 1) (w.alloc (.cells #[.slice none 0 0, .int .i64 0, .int .i64 0] 24)) w') := fun y c2 hy => by
    have := cloneY_any (c := c2) ((hr.drop (i + 1)).take (x + 1)) (Nat.le_trans hB hb0.size) (by rw [hlen]; omega)
    rw [hlen, ← hy] at this
    rw [← hy]
    simpa [off_add] using this
  have HB0 := Lib.hid hb0
  have HLen := Lib.hid hlen
  generalize (l.drop (i + 1)).take (x + 1) = q at *
  clear h hx hr hb0 hlen
  go_enter Try.func36, Try.ntmps36
  go_wp2_with fail
  refine (HCl.out _ _ (by omega)).mono ?_
  rintro e w2 ⟨A2, c2, rfl, hO2, hB2⟩
  have hT2 := HTop.out.below' (hB2.mono (by simp)); obtain ⟨f0, f1, f2⟩ := Bk3 hT2; have g0 := hT2.free 0; have g1 := hT2.free 1; have g2 := hT2.free 2; have hlt2 : w.heap.size < w2.heap.size := hT2.lt; have HT2 := Lib.hid hT2; clear hT2
  go_wp2
  refine bodyPost_ret (resCTT rfl _ _ w.heap.size rfl (((HT2.out.set 0 _).set 1 _).set 2 _) Try.underlying24 tokSz) rfl ?_
  have hBB : Below w.heap.size w w2 := HB0.out.trans (hB2.mono (Nat.le_succ _))
  refine ⟨A2, c2, by rw [show ((i + x + 2 : Nat) : Int) = (i : Int) + 1 + (x : Int) + 1 by omega]; rfl, ?_, ((hBB.setCell (Nat.le_refl _) _).setCell (Nat.le_refl _) _).setCell (Nat.le_refl _) _⟩
  refine OwnY.rd (hO2.same fun k hk => ?_)
  have h1 := (hO2.lt hk).1
  rw [Below.heap_setCell _ _ _ _ (by show k ≠ _; simp; omega), Below.heap_setCell _ _ _ _ (by show k ≠ _; simp; omega), Below.heap_setCell _ _ _ _ (by show k ≠ _; simp; omega)]

theorem getN2 (l : List UInt8) (j : Nat) : getN l j 2 = (l[j]?.getD 0).toNat + 256 * (l[j + 1]?.getD 0).toNat := by
  simp [getN]
  omega

set_option maxRecDepth 100000 in
set_option maxHeartbeats 1000000 in
theorem tTake_short2 {w : World} {B g o : Nat} {c : Nat} {l : List UInt8} (h : RdY w B (some ⟨g, o, none⟩) l) (hB : B ≤ w.heap.size) (hl : l.length ≤ 1000000) (i x : Nat) (hi : i < l.length) (hx : (l[i]?.getD 0).toNat = x) (hx1 : 128 ≤ x) (hx2 : x ≤ 255) (hs : l.length < i + 3) :
    Calls Try.prog 36 #[.slice (some ⟨g, o, none⟩) l.length c, .int .i64 i] w fun e w' => e = .returned (.tuple #[.agg #[.slice none 0 0, .int .i64 0, .int .i64 0], .int .i64 0, .int .i64 4]) ∧ Below w.heap.size w w' := by
  have hb0 := (Below.refl w.heap.size w).alloc (Nat.le_refl _) (.cells #[.slice none 0 0, .int .i64 0, .int .i64 0] 24)
  have hc := (h.below' hb0 hB).cell hi
  rw [hx, off_add] at hc
  have HG : Hid (∀ W, Calls Try.prog 57 #[.slice (some ⟨g, o, none⟩) l.length c, .int .i64 ((i : Int) + 1), .int .i64 2] W fun e w' => e = .returned (.tuple #[.int .u64 0, .bool false]) ∧ W = w') := fun W => numGet_no _ 2 (by omega) (by omega) hl (.inr (by omega))
  have d1 : decide ((i : Int) < 0) = false := decide_eq_false (by omega)
  have HB0 := Lib.hid hb0
  clear h hx hb0
  go_enter Try.func36, Try.ntmps36
  go_wp2_with (go_at_call 57; refine (HG.out _).mono ?_; rintro e w2 ⟨rfl, rfl⟩)
  go_returns
  exact ⟨rfl, (HB0.out.alloc (by simp) _)⟩
end Go.Proofs.YtckdellcnoojaaaRRR
