/- math/bits.TrailingZeros64; First, Take, Put, Drop of a set of small numbers. -/
import Derived.Test.YtcbfaahnhdmagaaDoorBitB
import Derived.Shelf.Spec.TrailingZeros
import Derived.Laws.BitsAllLaws
namespace Go.Proofs.YtcbfaahnhdmagaaDoor
open Go.RowKit

/-- The table of the library's, as its initialiser lays it. -/
def Tab (w : World) : Prop := TabAt 0 Lib.deBruijn64tab w
theorem Tab.keep {w w' : World} (h : Tab w) (hk : ∀ p : Addr, p.block = 0 → w'.cell? p = w.cell? p) : Tab w' := fun j hj => (hk ⟨0, j, none⟩ rfl).trans (h j hj)
theorem Tab.below {w w' : World} {B : Nat} (h : Tab w) (hb : Below B w w') (h0 : 0 < B) : Tab w' := h.keep fun p hp => hb.cell (by omega)
theorem Tab.lt {w : World} (h : Tab w) : 0 < w.heap.size := World.block_lt_of_cell? w _ (h 0 (by decide))
theorem Tab.fr {w w' : World} {S : Nat → Prop} (h : Tab w) (hf : Fr S w w') (h0 : ¬ S 0) : Tab w' := h.keep fun p hp => hf.cell (by rw [hp]; exact h.lt) (by rw [hp]; exact h0)

set_option maxHeartbeats 1000000 in
theorem tz_core {w : World} (x k idx : Nat) (hx0 : ((x : Int) == 0) = false)
    (key : IntKind.u64.wrap (bits BinOp.and IntKind.u64 (x : Int) (IntKind.u64.wrap (-(x : Int))) * 285870213051353865) / 288230376151711744 = (idx : Int))
    (hi : idx < 64) (hk : k < 64) (hcell : w.cell? ⟨0, idx, none⟩ = some (.int .u8 k)) :
    Calls Tryd.prog 53 #[.int .u64 x] w fun e w' => e = .returned (.int .i64 k) ∧ w = w' := by
  go_enter Tryd.func53, Tryd.ntmps53
  go_wp2_with (simp only [key])
  go_ret
  exact ⟨rfl, rfl⟩
theorem tz_any {w : World} (hT : Tab w) (x : Nat) (hx : x < 18446744073709551616) (hx0 : x ≠ 0) :
    Calls Tryd.prog 53 #[.int .u64 x] w fun e w' => e = .returned (.int .i64 (Lib.ctz 64 x)) ∧ w = w' := by
  obtain ⟨hlow, hk⟩ := Lib.lowest_bit 64 x hx0 hx
  obtain ⟨hi, htab⟩ := Lib.deBruijn64_at _ hk
  have hcell := hT _ hi
  rw [htab] at hcell
  exact tz_core x _ _ (by simp; omega) (tz64_key x _ hx hx0 hlow) hi hk hcell

theorem ctz_spec (x : Nat) (h0 : x ≠ 0) (hx : x < 2 ^ 64) : Lib.ctz 64 x < 64 ∧ x.testBit (Lib.ctz 64 x) = true ∧ ∀ j, j < Lib.ctz 64 x → x.testBit j = false := by
  obtain ⟨m, hm, hk⟩ := Lib.ctzFrom_spec 64 x (by omega) hx
  have e : Lib.ctz 64 x = Lib.ctzFrom 64 x := by unfold Lib.ctz; rw [if_neg h0]
  rw [e]
  refine ⟨hk, ?_, fun j hj => ?_⟩
  · generalize Lib.ctzFrom 64 x = k at *
    rw [hm, Nat.testBit_two_pow_mul]
    simp
  · generalize Lib.ctzFrom 64 x = k at *
    rw [hm, Nat.testBit_two_pow_mul]
    simp
    omega
theorem u64_not (a : Nat) (ha : a < 18446744073709551616) : bits .xor .u64 IntKind.u64.max (a : Int) = ((18446744073709551615 - a : Nat) : Int) := by
  show IntKind.u64.wrap ((BitVec.ofInt 64 18446744073709551615 ^^^ BitVec.ofInt 64 (a : Int)).toNat : Int) = _
  have h1 : BitVec.ofInt 64 18446744073709551615 = BitVec.allOnes 64 := by decide
  rw [h1, BitVec.allOnes_xor, BitVec.toNat_not, ofInt_u64 a (by omega)]
  simp [IntKind.wrap, IntKind.bits, IntKind.signed]
  omega
/-- The least bit that a word hasn't. -/
theorem hole_spec (x : Nat) (hx : x < 2 ^ 64) (h1 : x ≠ 18446744073709551615) : 18446744073709551615 - x ≠ 0 ∧ Lib.ctz 64 (18446744073709551615 - x) < 64 ∧ x.testBit (Lib.ctz 64 (18446744073709551615 - x)) = false ∧ ∀ j, j < Lib.ctz 64 (18446744073709551615 - x) → x.testBit j = true := by
  have h0 : 18446744073709551615 - x ≠ 0 := by omega
  have e : ∀ i, i < 64 → (18446744073709551615 - x).testBit i = !x.testBit i := fun i hi => by
    have := Nat.testBit_two_pow_sub_succ hx i
    rw [show 2 ^ 64 - (x + 1) = 18446744073709551615 - x by omega] at this
    simpa [hi] using this
  obtain ⟨a, b, c⟩ := ctz_spec (18446744073709551615 - x) h0 (by omega)
  refine ⟨h0, a, ?_, fun j hj => ?_⟩
  · rw [e _ a] at b
    simpa using b
  · have := c j hj
    rw [e _ (by omega)] at this
    simpa using this
theorem full_word {x : Nat} (h : x = 18446744073709551615) (i : Nat) (hi : i < 64) : x.testBit i = true := by
  subst h
  have : (2 ^ 64 - 1).testBit i = true := by rw [Nat.testBit_two_pow_sub_one]; simpa using hi
  exact this

section
variable {w : World} {g gw size : Nat} {f : Nat → Bool}
theorem cntB_full {f : Nat → Bool} {n : Nat} (h : ∀ k, k < n → f k = true) : cntB f n = n := by
  unfold cntB
  rw [List.filter_eq_self.2 fun k hk => h k (List.mem_range.1 hk), List.length_range]
set_option maxHeartbeats 1000000 in
theorem isFirst_none (h : SetIs w g gw f size) (hc : cntB f size = size) :
    Calls Tryd.prog 38 #[.pointer (some ⟨g, 0, none⟩)] w fun e w' => e = .returned (.tuple #[.int .i64 0, .bool false]) ∧ w = w' := by
  have H1 := Lib.hid (isLen h)
  have H2 := Lib.hid (isSize h)
  rw [hc] at H1
  clear h hc
  go_enter Tryd.func38, Tryd.ntmps38
  go_wp2_with (first
    | (go_at_call 15; refine H1.out.mono ?_; rintro e w2 ⟨rfl, rfl⟩)
    | (go_at_call 17; refine H2.out.mono ?_; rintro e w2 ⟨rfl, rfl⟩))
  go_ret2
  exact ⟨rfl, rfl⟩
set_option maxRecDepth 100000 in
set_option maxHeartbeats 2000000 in
theorem isFirst_some (h : SetIs w g gw f size) (hT : Tab w) {n : Nat} (hn : n < size) (hf : f n = false) (hl : ∀ j, j < n → f j = true) :
    Calls Tryd.prog 38 #[.pointer (some ⟨g, 0, none⟩)] w fun e w' => e = .returned (.tuple #[.int .i64 n, .bool true]) ∧ w = w' := by
  have hcl : cntB f size < size := cntB_lt hn hf
  have H1 := Lib.hid (isLen h)
  have H2 := Lib.hid (isSize h)
  obtain ⟨wd, hS, hh⟩ := h
  have hb : ((cntB f size : Int) == (size : Int)) = false := beq_eq_false_iff_ne.2 (by omega)
  have h0 : w.cell? ⟨g, 0, none⟩ = some (.slice (some ⟨gw, 0, none⟩) ((size + 63) / 64) ((size + 63) / 64)) := Bk.cell hS.top 0
  have hsz := hS.size_le
  have HW : Hid (∀ i, i < (size + 63) / 64 → w.cell? ⟨gw, i, none⟩ = some (.int .u64 (wd i))) := fun i hi => (Bk.cell hS.row i).trans (by simp [bitCells, hi])
  have HBt := Lib.hid hS.bits
  have HTz := Lib.hid (fun x (h1 : x < 18446744073709551616) h2 => tz_any hT x h1 h2)
  have HH := Lib.hid hh
  have HL := Lib.hid hl
  have HF := Lib.hid hf
  have hnw : n / 64 < (size + 63) / 64 := by omega
  have hnw2 : (size + 63) / 64 ≤ 64 := by omega
  generalize hnwq : (size + 63) / 64 = nw at *
  generalize cntB f size = cnt at *
  have HNW := Lib.hid hnwq
  clear hS hh hl hf hT hnwq
  go_enter Tryd.func38, Tryd.ntmps38
  go_wp2_with (first
    | (go_at_call 15; refine H1.out.mono ?_; rintro e w2 ⟨rfl, rfl⟩)
    | (go_at_call 17; refine H2.out.mono ?_; rintro e w2 ⟨rfl, rfl⟩))
  go_loop [16] (fun iv => ∃ i : Nat, i ≤ n / 64 ∧ iv = .int .i64 i) (fun iv => nw - (intOf iv).toNat)
  case atStart => exact ⟨0, Nat.zero_le _, rfl⟩
  case round =>
    obtain ⟨i, hi, rfl⟩ := hrel
    have hiw : (i : Int) < (nw : Int) := by omega
    have hib : (i : Int) ≤ 64 := by omega
    have hc := HW.out i (by omega)
    have hbt := HBt.out i
    have hbit : ∀ j, j < 64 → 64 * i + j < size → (wd i).testBit j = f (64 * i + j) := fun j hj hs => by
      have := HH.out (64 * i + j) hs
      unfold hasB at this
      rwa [show (64 * i + j) / 64 = i by omega, show (64 * i + j) % 64 = j by omega] at this
    by_cases hx : wd i = 18446744073709551615
    · have hin : i < n / 64 := by
        rcases Nat.lt_or_ge i (n / 64) with h | h
        · exact h
        · have e := hbit (n % 64) (by omega) (by omega)
          rw [full_word hx _ (by omega), show 64 * i + n % 64 = n by omega, HF.out] at e
          cases e
      have hxx : ((wd i : Int) != 18446744073709551615) = false := by rw [hx]; rfl
      generalize wd i = x at *
      clear hbit hx
      go_wp2
      go_round
      case rel => exact ⟨i + 1, by omega, by go_num⟩
      case measure => simp [intOf]; omega
    · obtain ⟨e0, e1, e2, e3⟩ := hole_spec (wd i) hbt hx
      have hxx : ((wd i : Int) != 18446744073709551615) = true := bne_iff_ne.2 (by omega)
      have hk : 64 * i + Lib.ctz 64 (18446744073709551615 - wd i) = n := by
        rcases Nat.lt_or_ge (64 * i + Lib.ctz 64 (18446744073709551615 - wd i)) n with h | h
        · have e := hbit _ e1 (by omega)
          rw [e2, HL.out _ h] at e
          cases e
        · rcases Nat.lt_or_ge n (64 * i + Lib.ctz 64 (18446744073709551615 - wd i)) with h2 | h2
          · have e := hbit (n - 64 * i) (by omega) (by omega)
            rw [e3 _ (by omega), show 64 * i + (n - 64 * i) = n by omega, HF.out] at e
            cases e
          · omega
      have HZ := Lib.hid (HTz.out (18446744073709551615 - wd i) (by omega) e0)
      generalize Lib.ctz 64 (18446744073709551615 - wd i) = k at *
      generalize wd i = x at *
      clear hbit hx e0 e2 e3
      have hsg : IntKind.u64.signed = false := rfl
      have hno := u64_not x hbt
      obtain ⟨y, hy⟩ : ∃ y, 18446744073709551615 - x = y := ⟨_, rfl⟩
      rw [hy] at HZ hno
      have HK := Lib.hid hk
      have hki : (k : Int) ≤ 64 := by omega
      clear hy hk
      go_wp2_with (go_at_call 53; refine HZ.out.mono ?_; rintro e w2 ⟨rfl, rfl⟩)
      go_ret2
      exact ⟨by rw [← HK.out]; rfl, rfl⟩
end
end Go.Proofs.YtcbfaahnhdmagaaDoor
