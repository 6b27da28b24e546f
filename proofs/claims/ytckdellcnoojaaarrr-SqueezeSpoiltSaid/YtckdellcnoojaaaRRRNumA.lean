/- Package num: Put of one number, Get; the reference's Put and Get. -/
import Derived.Test.YtckdellcnoojaaaRRRByt
import Derived.Laws.Bits64b
import Derived.Laws.BitsAllLaws
namespace Go.Proofs.YtckdellcnoojaaaRRR
open Go.RowKit

/-- A number's bytes. -/
def putN (n : Nat) (k : Nat) : List UInt8 := (List.range k).map fun i => UInt8.ofNat (n / 2 ^ (8 * i) % 256)
theorem putN_succ (n k : Nat) : putN n (k + 1) = putN n k ++ [UInt8.ofNat (n / 2 ^ (8 * k) % 256)] := by
  simp [putN, List.range_succ]
theorem putN_len (n k : Nat) : (putN n k).length = k := by simp [putN]
theorem byte_of (n : Nat) : (UInt8.ofNat (n % 256)).toNat = n % 256 := by
  rw [UInt8.toNat_ofNat']
  exact Nat.mod_mod n 256
/-- One byte, just laid. -/
theorem rd_one (w : World) (x : UInt8) {n : Nat} (hn : n = w.heap.size) : RdY (w.alloc (.cells #[.int .u8 (x.toNat : Int)] 5)) (n + 1) (some ⟨n, 0, none⟩) [x] := rd_const w [x] hn 5 (0, 0)
theorem own_app {w : World} {base n : Nat} {v : Value} {l m : List UInt8} (hn : n = l.length + (m.map bv).length) (h : w.ownsRow base 5 1 v n (l.map bv ++ m.map bv)) : OwnY w base v (l ++ m) := by
  unfold OwnY
  rw [List.map_append, List.length_append]
  subst hn
  simpa using h
theorem div_byte (n p : Nat) : ((n : Int) / 2 ^ p) % 256 = ((UInt8.ofNat (n / 2 ^ p % 256)).toNat : Int) := by
  rw [byte_of]
  have e : ((2 : Int) ^ p) = ((2 ^ p : Nat) : Int) := by norm_cast
  rw [e, ← Int.natCast_ediv]
  generalize n / 2 ^ p = q
  omega
theorem or_byte (g x n : Nat) (hg : g < 2 ^ (8 * n)) (hx : x ≤ 255) (hn : n ≤ 7) : bits BinOp.or IntKind.u64 (g : Int) (IntKind.u64.wrap ((x : Int) * 2 ^ (8 * n))) = ((g + x * 2 ^ (8 * n) : Nat) : Int) := by
  have e : ((2 : Int) ^ (8 * n)) = ((2 ^ (8 * n) : Nat) : Int) := by norm_cast
  have hp : 2 ^ (8 * n) ≤ 2 ^ 56 := Nat.pow_le_pow_right (by omega) (by omega)
  have hor : x * 2 ^ (8 * n) ||| g = x * 2 ^ (8 * n) + g := by
    rw [Nat.mul_comm x]
    exact (Nat.two_pow_add_eq_or_of_lt hg x).symm
  rw [e]
  generalize 2 ^ (8 * n) = P at *
  have hxp : x * P ≤ 255 * 2 ^ 56 := Nat.mul_le_mul hx hp
  rw [← Int.natCast_mul, IntWalk.u64_in _ (by omega), bits_or_u64_nat _ _ (by omega) (by omega), Nat.or_comm, hor, Nat.add_comm]

set_option maxRecDepth 100000 in
set_option maxHeartbeats 2000000 in
theorem numPut_any {w : World} {ad : Addr} {c : Nat} (k n : Nat) (hk1 : 1 ≤ k) (hk8 : k ≤ 8) (hr : w.cell? ad = some (.int .u64 (n : Int))) (hBw : ad.block < w.heap.size) :
    Calls Try.prog 56 #[.int .i64 k, .slice (some ad) 1 c] w fun e w' => ∃ A' c', e = .returned (.slice A' k c') ∧ OwnY w' w.heap.size (.slice A' k c') (putN n k) ∧ Below w.heap.size w w' := by
  obtain ⟨i0, hi0, hz0, hz1, hz2⟩ := info_parts u8_info
  have hk1i : (1 : Int) ≤ k := by omega
  have hk8i : (k : Int) ≤ 8 := by omega
  go_enter Try.func56, Try.ntmps56
  go_wp2
  go_loopw [5, 17] (fun v i wr => (i = .int .i64 0 ∧ v = .slice none 0 0 ∧ wr = w) ∨ (i = .int .i64 1 ∧ ∃ A' c', v = .slice A' k c' ∧ OwnY wr w.heap.size (.slice A' k c') (putN n k) ∧ Below w.heap.size w wr)) (fun _ i _ => 1 - (intOf i).toNat)
  case atStart => exact .inl ⟨rfl, rfl, rfl⟩
  case round =>
    rcases hrel with ⟨rfl, rfl, rfl⟩ | ⟨rfl, A', c', rfl, hO, hB2⟩
    · go_wp2
      go_loopw [5, 22] (fun v j wi => ∃ (n' : Nat) (A' : Option Addr) (c' : Nat), n' ≤ k ∧ j = .int .i64 n' ∧ v = .slice A' n' c' ∧ OwnY wi wr.heap.size (.slice A' n' c') (putN n n') ∧ Below wr.heap.size wr wi) (fun _ j _ => k - (intOf j).toNat)
      case atStart => exact ⟨0, none, 0, Nat.zero_le _, rfl, rfl, OwnY.nil _ _, Below.refl _ _⟩
      case round =>
        obtain ⟨wo, rfl⟩ : ∃ wo : World, wo = wr := ⟨_, rfl⟩
        obtain ⟨j, A', c', hj, rfl, rfl, hO, hB2⟩ := hrel
        rcases Nat.lt_or_ge j k with hjk | hjk
        · have hx1 : IntKind.i64.wrap (8 * (j : Int)) = 8 * (j : Int) := IntWalk.i64_in _ (by omega)
          have hq := div_byte n (8 * j)
          have HS := Lib.hid (putN_succ n j)
          generalize UInt8.ofNat (n / 2 ^ (8 * j) % 256) = x at *
          have HO2 : Hid ((wo.alloc (.cells #[.int .u8 (x.toNat : Int)] 5)).ownsRow wr.heap.size 5 1 (.slice A' j c') j ((putN n j).map bv)) := by
            have := hO.below (w' := wo.alloc (.cells #[.int .u8 (x.toNat : Int)] 5)) ((Below.refl _ _).alloc (Nat.le_refl _) _)
            unfold OwnY at this
            rwa [putN_len] at this
          have HR3 := Lib.hid (rd_one wo x rfl)
          have hb2 := hB2.size
          go_wp2_with (at_builtin; refine wpList_append_rd rfl (.tmp 25) (.tmp 31) 22 rfl wr.heap.size 5 i0 (.int .u8 0) 1 Try.underlying22 hi0 hz0 hz1 hz2 rfl (.slice A' j c') j _ rfl HO2.out _ (some ⟨wo.heap.size, 0, none⟩) 1 1 ([x].map bv) rfl rfl HR3.out (oneY _) (by simp [maxLen]; omega) (by simp; omega) (by simp; omega) ?_; intro v2 w2 hown hg hat)
          have hO3 : OwnY w2 wr.heap.size v2 (putN n (j + 1)) := by
            rw [HS.out]
            exact own_app (by rw [putN_len]) hown
          have hB3 := (hB2.alloc hb2 _).grown hg (by simp; omega) (fun k hk => (hO.lt hk).1)
          obtain ⟨A3, c3, rfl⟩ := hO3.form
          rw [putN_len] at *
          clear hown hg hat hq hx1
          go_wp2
          go_roundw
          case rel => exact ⟨j + 1, A3, c3, by omega, by go_num, by go_num, hO3, hB3⟩
          case measure => simp [intOf]; omega
        · obtain rfl : j = k := by omega
          go_wp2
          go_roundw
          case rel => exact .inr ⟨rfl, A', c', rfl, hO, hB2⟩
          case measure => simp [intOf]
    · go_wp2
      go_ret
      exact ⟨A', c', rfl, hO, hB2⟩

set_option maxHeartbeats 1000000 in
theorem there_any (w : World) (A : Option Addr) (n c k : Nat) (a : Int) (hk1 : 1 ≤ k) (hk8 : k ≤ 8) (hn : n ≤ 1000000) :
    Calls Try.prog 66 #[.slice A n c, .int .i64 a, .int .i64 k] w fun e w' => e = .returned (.bool (decide (0 ≤ a) && decide (a + k ≤ n))) ∧ w = w' := by
  have hk1i : (1 : Int) ≤ k := by omega
  have hk8i : (k : Int) ≤ 8 := by omega
  rcases Int.lt_or_le a 0 with h1 | h1
  · have hv : (decide (0 ≤ a) && decide (a + k ≤ n)) = false := by simp; omega
    rw [hv]
    clear hv
    go_enter Try.func66, Try.ntmps66
    go_wp2
    go_ret
    exact ⟨rfl, rfl⟩
  · have HV : Hid ((decide (0 ≤ a) && decide (a + k ≤ n)) = decide (a ≤ (n : Int) - k)) := by
      show _ = _
      rw [Bool.eq_iff_iff]
      simp only [Bool.and_eq_true, decide_eq_true_eq]
      omega
    go_enter Try.func66, Try.ntmps66
    go_wp2
    go_ret
    exact ⟨ret_bool HV.out.symm, rfl⟩

/-- The number at a place. -/
def getN (l : List UInt8) (a : Nat) : Nat → Nat
  | 0 => 0
  | k + 1 => getN l a k + (l[a + k]?.getD 0).toNat * 2 ^ (8 * k)
theorem getN_lt (l : List UInt8) (a k : Nat) : getN l a k < 2 ^ (8 * k) := by
  induction k with
  | zero => simp [getN]
  | succ k ih =>
    have hb := (l[a + k]?.getD 0).toNat_lt
    have e : 2 ^ (8 * (k + 1)) = 256 * 2 ^ (8 * k) := by rw [show 8 * (k + 1) = 8 + 8 * k by omega, Nat.pow_add]
    rw [getN, e]
    have : (l[a + k]?.getD 0).toNat * 2 ^ (8 * k) ≤ 255 * 2 ^ (8 * k) := Nat.mul_le_mul_right _ (by omega)
    omega

set_option maxRecDepth 100000 in
set_option maxHeartbeats 1000000 in
theorem numGet_any {w : World} {B : Nat} {A : Option Addr} {c : Nat} {l : List UInt8} (h : RdY w B A l) (hl : l.length ≤ 1000000) (a k : Nat) (hk1 : 1 ≤ k) (hk8 : k ≤ 8) (ha : a + k ≤ l.length) :
    Calls Try.prog 57 #[.slice A l.length c, .int .i64 a, .int .i64 k] w fun e w' => e = .returned (.tuple #[.int .u64 (getN l a k), .bool true]) ∧ w = w' := by
  have HR := Lib.hid h
  have HT : Hid (∀ W, Calls Try.prog 66 #[.slice A l.length c, .int .i64 a, .int .i64 k] W fun e w' => e = .returned (.bool true) ∧ W = w') := fun W => by
    have := there_any W A l.length c k a hk1 hk8 hl
    have e : (decide ((0 : Int) ≤ (a : Int)) && decide ((a : Int) + k ≤ l.length)) = true := by simp; omega
    rwa [e] at this
  clear h
  obtain ⟨ad, rfl, _, _⟩ := HR.out.at_ (k := 0) (by omega)
  go_enter Try.func57, Try.ntmps57
  go_wp2_with (go_at_call 66; refine (HT.out _).mono ?_; rintro e w2 ⟨rfl, rfl⟩)
  go_loop [8, 16] (fun v j => ∃ n : Nat, n ≤ k ∧ j = .int .i64 n ∧ v = .int .u64 (getN l a n)) (fun _ j => k - (intOf j).toNat)
  case atStart => exact ⟨0, Nat.zero_le _, rfl, rfl⟩
  case round =>
    obtain ⟨n, hn, rfl, rfl⟩ := hrel
    rcases Nat.lt_or_ge n k with hnk | hnk
    · have hc := HR.out.cell (k := a + n) (by omega)
      have HG : Hid (getN l a (n + 1) = getN l a n + (l[a + n]?.getD 0).toNat * 2 ^ (8 * n)) := rfl
      have hlt := getN_lt l a n
      have hbx := byte_le (l[a + n]?.getD 0)
      generalize (l[a + n]?.getD 0).toNat = x at *
      generalize getN l a n = g at *
      have hor := or_byte g x n hlt hbx (by omega)
      generalize g + x * 2 ^ (8 * n) = S at hor HG
      clear hlt
      go_wp2
      exact ⟨⟨n + 1, by omega, by go_num, by rw [HG.out]⟩, by simp [intOf]; omega⟩
    · obtain rfl : n = k := by omega
      go_wp2
      go_ret2
      exact ⟨rfl, rfl⟩

set_option maxHeartbeats 1000000 in
theorem numGet_no {w : World} {A : Option Addr} {n c : Nat} (a : Int) (k : Nat) (hk1 : 1 ≤ k) (hk8 : k ≤ 8) (hn : n ≤ 1000000) (ha : a < 0 ∨ (n : Int) < a + k) :
    Calls Try.prog 57 #[.slice A n c, .int .i64 a, .int .i64 k] w fun e w' => e = .returned (.tuple #[.int .u64 0, .bool false]) ∧ w = w' := by
  have HT : Hid (∀ W, Calls Try.prog 66 #[.slice A n c, .int .i64 a, .int .i64 k] W fun e w' => e = .returned (.bool false) ∧ W = w') := fun W => by
    have := there_any W A n c k a hk1 hk8 hn
    have e : (decide ((0 : Int) ≤ a) && decide (a + k ≤ n)) = false := by simp; omega
    rwa [e] at this
  go_enter Try.func57, Try.ntmps57
  go_wp2_with (go_at_call 66; refine (HT.out _).mono ?_; rintro e w2 ⟨rfl, rfl⟩)
  go_ret2
  exact ⟨rfl, rfl⟩
end Go.Proofs.YtckdellcnoojaaaRRR
