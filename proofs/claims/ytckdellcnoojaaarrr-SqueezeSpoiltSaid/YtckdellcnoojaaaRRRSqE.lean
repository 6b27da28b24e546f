/- Squeeze: one token put; pages packed as bytes alone: of the program, and of the reference. -/
import Derived.Test.YtckdellcnoojaaaRRRSqD
namespace Go.Proofs.YtckdellcnoojaaaRRR
open Go.RowKit

theorem off_pq (g o k : Nat) : ((⟨g, o, none⟩ : Addr).add k) = ⟨g, o + k, none⟩ := by unfold Addr.add; split <;> simp_all
/-- A part of a slice of bytes. -/
theorem run_cutY {w : World} {b o n c : Nat} {lo hi : Int} {i k : Nat} (hlo : lo = i) (hhi : hi = (i : Int) + k) (h : i + k ≤ c) (hk : 0 < k) : (Instr.slice 22 (.slice (some ⟨b, o, none⟩) n c) (some (.int .i64 lo)) (some (.int .i64 hi)) none).run Try.prog w = .ok (.slice (some ⟨b, o + i, none⟩) k (c - i)) w := by
  have hi8 : Try.prog.elem 22 = 5 := by kernel_rfl
  rw [run_slice_lh w 22 (some ⟨b, o, none⟩) n c (by rw [hi8]; exact Try.underlying22) .i64 .i64 lo hi (by omega) (by omega) (by omega), hi8]
  have hs : (sizeOf 5).run Try.prog w = .ok 1 w := by kernel_rfl
  rw [hs]
  subst hlo hhi
  have e : ((i : Int) + (k : Int)).toNat = i + k := by omega
  simp only [Result.andThen_ok, sliced, Int.toNat_natCast, e, Nat.mul_one, Option.map_some, off_pq]
  rw [if_neg (by omega), Nat.add_sub_cancel_left]
/-- Bytes within bytes. -/
theorem RdY.cut {w : World} {B g o : Nat} {l : List UInt8} (h : RdY w B (some ⟨g, o, none⟩) l) (i k : Nat) : RdY w B (some ⟨g, o + i, none⟩) ((l.drop i).take k) := by
  have := (RdY.drop h i).take k
  rwa [Option.map_some, off_pq] at this
theorem tPut1 {w : World} {B c2 : Nat} {A2 : Option Addr} {lit : List UInt8} {n d : Int} (hR : RdY w B A2 lit) (hB : B ≤ w.heap.size) (ht : mayT lit.length n d = true) :
    Calls Try.prog 35 #[.slice (some ⟨w.heap.size, 0, none⟩) 1 1] (w.alloc (.cells #[.slice A2 lit.length c2, .int .i64 n, .int .i64 d] 24)) fun e w' => ∃ A' c', e = .returned (.tuple #[.slice A' (putT lit n.toNat d.toNat).length c', .bool true]) ∧ OwnY w' w.heap.size (.slice A' (putT lit n.toNat d.toNat).length c') (putT lit n.toNat d.toNat) ∧ Below w.heap.size w w' := by
  obtain ⟨t, htk⟩ : ∃ t : Tk, t = ⟨A2, c2, lit, n, d⟩ := ⟨_, rfl⟩
  have hput : putAll [t] = putT lit n.toNat d.toNat := by rw [htk]; simp [putAll, Tk.put]
  have hb : Below w.heap.size w (w.alloc (.cells #[.slice A2 lit.length c2, .int .i64 n, .int .i64 d] 24)) := (Below.refl _ _).alloc (Nat.le_refl _) _
  have hbk : Bk (w.alloc (.cells #[.slice A2 lit.length c2, .int .i64 n, .int .i64 d] 24)) w.heap.size 24 #[.slice A2 lit.length c2, .int .i64 n, .int .i64 d] := Bk.new _ _ _
  have hT : TksAt (w.alloc (.cells #[.slice A2 lit.length c2, .int .i64 n, .int .i64 d] 24)) (w.heap.size + 1) (some ⟨w.heap.size, 0, none⟩) [t] := fun i u hu => by
    rcases i with _ | i
    · simp at hu
      subst hu
      rw [htk]
      exact ⟨_, 0, rfl, by omega, hbk.cell 0, hbk.cell 1, hbk.cell 2, (hR.below' hb hB).more (by omega)⟩
    · simp at hu
  have hlen := (mayT_bd ht).1
  refine (tPut_any (c := 1) hT (by simp) (by simp) (fun u hu => by simp at hu; subst hu; rw [htk]; show lit.length ≤ 300; omega)).mono ?_
  rintro e w' ⟨hB', ⟨A', c', he, hO, -⟩ | ⟨-, u, hu, hm⟩⟩
  · rw [hput] at he hO
    exact ⟨A', c', he, OwnY.weaken hO (by simp), hb.trans (hB'.mono (by simp))⟩
  · simp at hu
    subst hu
    rw [htk] at hm
    rw [show (⟨A2, c2, lit, n, d⟩ : Tk).may = mayT lit.length n d from rfl, ht] at hm
    cases hm

theorem litT_app {l m : List UInt8} (h : l.length % 128 = 0) : litT (l ++ m) = litT l ++ litT m := by
  generalize hn : l.length = n
  induction n using Nat.strongRecOn generalizing l with
  | _ n ih =>
    rcases Nat.eq_zero_or_pos l.length with h0 | h0
    · obtain rfl : l = [] := List.eq_nil_of_length_eq_zero h0
      rw [litT_nil]
      rfl
    · have h1 : 128 ≤ l.length := by omega
      rw [litT_cons h0, litT_cons (by rw [List.length_append]; omega), List.take_append_of_le_length h1, List.drop_append_of_le_length h1, List.cons_append]
      congr 1
      exact ih (l.drop 128).length (by rw [List.length_drop]; omega) (by rw [List.length_drop]; omega) rfl
theorem lit_one {l : List UInt8} (h0 : 0 < l.length) (h : l.length ≤ 128) : litT l = [tkL l] := by
  rw [litT_cons h0, List.take_of_length_le h, List.drop_of_length_le h, litT_nil]
theorem lit_step {P : List UInt8} {k : Nat} (h : 128 * k + 128 ≤ P.length) : litT (P.take (128 * k + 128)) = litT (P.take (128 * k)) ++ [tkL ((P.drop (128 * k)).take 128)] := by
  have hl : ((P.drop (128 * k)).take 128).length = 128 := by rw [List.length_take, List.length_drop]; omega
  rw [List.take_add, litT_app (by rw [List.length_take]; omega), lit_one (l := (P.drop (128 * k)).take 128) (by omega) (by omega)]
/-- The reference's plain page, so far. -/
def plainTo (P : List UInt8) : Nat → List UInt8
  | 0 => []
  | i + 1 => (plainTo P i ++ if i % 128 = 0 then [127] else []) ++ [P[i]?.getD 0]
theorem plainTo_in {P : List UInt8} {k j : Nat} (h : 128 * k + 128 ≤ P.length) (hj : j < 128) : plainTo P (128 * k + (j + 1)) = plainTo P (128 * k) ++ 127 :: (P.drop (128 * k)).take (j + 1) := by
  induction j with
  | zero =>
    show (plainTo P (128 * k) ++ if 128 * k % 128 = 0 then [127] else []) ++ [P[128 * k]?.getD 0] = _
    rw [if_pos (by omega)]
    have hx : 128 * k < P.length := by omega
    have e : (P.drop (128 * k)).take 1 = [P[128 * k]?.getD 0] := by
      rw [List.take_add_one]
      simp [hx]
    rw [e, List.append_assoc]
    rfl
  | succ j ih =>
    show (plainTo P (128 * k + (j + 1)) ++ if (128 * k + (j + 1)) % 128 = 0 then [127] else []) ++ [P[128 * k + (j + 1)]?.getD 0] = _
    rw [if_neg (by omega), ih (by omega), List.append_nil, List.append_assoc, List.cons_append]
    have hx : 128 * k + (j + 1) < P.length := by omega
    have e : (P.drop (128 * k)).take (j + 1 + 1) = (P.drop (128 * k)).take (j + 1) ++ [P[128 * k + (j + 1)]?.getD 0] := by
      rw [List.take_add_one, List.getElem?_drop]
      simp [hx]
    rw [e]
theorem plainTo_lit {P : List UInt8} {k : Nat} (h : 128 * k ≤ P.length) : plainTo P (128 * k) = putAll (litT (P.take (128 * k))) := by
  induction k with
  | zero => simp [plainTo, litT_nil, putAll]
  | succ k ih =>
    have hl : ((P.drop (128 * k)).take 128).length = 128 := by rw [List.length_take, List.length_drop]; omega
    rw [show 128 * (k + 1) = 128 * k + 128 by omega, lit_step (by omega), putAll_app, ← ih (by omega), show 128 * k + 128 = 128 * k + (127 + 1) by omega, plainTo_in (by omega) (by omega)]
    congr 1
    have : (tkL ((P.drop (128 * k)).take (127 + 1))).put = UInt8.ofNat (128 - 1) :: (P.drop (128 * k)).take (127 + 1) := by
      unfold Tk.put putT tkL
      simp only
      rw [hl]
      rfl
    rw [show putAll [tkL ((P.drop (128 * k)).take 128)] = (tkL ((P.drop (128 * k)).take (127 + 1))).put by simp [putAll], this]
    rfl
theorem plain_page {P : List UInt8} (h : P.length = 4096) : plainTo P 4096 = putAll (litT P) := by
  have := plainTo_lit (P := P) (k := 32) (by omega)
  rwa [show 128 * 32 = 4096 by omega, List.take_of_length_le (by omega)] at this
theorem plainTo_len (P : List UInt8) (i : Nat) : (plainTo P i).length ≤ 2 * i := by
  induction i with
  | zero => simp [plainTo]
  | succ i ih =>
    simp only [plainTo, List.length_append, List.length_cons, List.length_nil]
    split <;> simp <;> omega

set_option maxRecDepth 100000 in
set_option maxHeartbeats 4000000 in
theorem rPlain_any {w : World} {B : Nat} {A : Option Addr} {c : Nat} {P : List UInt8} (h : RdY w B A P) (hB : B ≤ w.heap.size) (hl : P.length = 4096) :
    Calls Try.prog 62 #[.slice A P.length c] w fun e w' => ∃ A' c', e = .returned (.slice A' (putAll (litT P)).length c') ∧ OwnY w' w.heap.size (.slice A' (putAll (litT P)).length c') (putAll (litT P)) ∧ Below w.heap.size w w' := by
  obtain ⟨i0, hi0, hz0, hz1, hz2⟩ := info_parts u8_info
  have HA := Lib.hid h
  have HB := Lib.hid hB
  have HL := Lib.hid hl
  rw [← plain_page hl]
  have hl4 : P.length ≤ 4096 := by omega
  clear h hB hl
  go_enter Try.func62, Try.ntmps62
  go_wp2
  go_loopw [3, 4] (fun o iv wr => ∃ (i : Nat) (Ao : Option Addr) (co : Nat), i ≤ P.length ∧ iv = .int .i64 i ∧ o = .slice Ao (plainTo P i).length co ∧ OwnY wr w.heap.size (.slice Ao (plainTo P i).length co) (plainTo P i) ∧ Below w.heap.size w wr) (fun _ iv _ => P.length - (intOf iv).toNat)
  case atStart => exact ⟨0, none, 0, Nat.zero_le _, rfl, rfl, OwnY.nil _ _, Below.refl _ _⟩
  case round =>
    obtain ⟨i, Ao, co, hi, rfl, rfl, hO, hBr⟩ := hrel
    have HO := Lib.hid hO
    have HBr := Lib.hid hBr
    rcases Nat.lt_or_ge i P.length with hlt | hge
    · obtain ⟨ad, rfl, -, hc⟩ := (HA.out.below' hBr HB.out).at_ hlt
      have hcF : Hid (∀ W, Below w.heap.size w W → W.cell? (ad.add i) = some (.int .u8 ((P[i]?.getD 0).toNat : Int))) := fun W hW => (HA.out.below' hW HB.out).cell hlt
      have hsz : w.heap.size ≤ wr.heap.size := hBr.size
      have hlen := plainTo_len P i
      have HS : Hid (plainTo P (i + 1) = (plainTo P i ++ if i % 128 = 0 then [127] else []) ++ [P[i]?.getD 0]) := rfl
      obtain ⟨x, hx⟩ : ∃ x, P[i]?.getD 0 = x := ⟨_, rfl⟩
      rw [hx] at hc hcF HS
      clear hx hO hBr
      by_cases hm : i % 128 = 0
      · have hmi : ((i : Int) % 128 == 0) = true := beq_iff_eq.2 (by omega)
        have hO4 : Hid ((wr.alloc (.cells #[.int .u8 127] 5)).ownsRow w.heap.size 5 1 (.slice Ao (plainTo P i).length co) (plainTo P i).length ((plainTo P i).map bv)) := World.ownsRow.alloc HO.out _
        have HR4 : Hid (RdY (wr.alloc (.cells #[.int .u8 127] 5)) (wr.heap.size + 1) (some ⟨wr.heap.size, 0, none⟩) [127]) := rd_one wr 127 rfl
        have HLo : Hid (∀ q, (Value.slice Ao (plainTo P i).length co).ownBlock = some q → w.heap.size ≤ q) := fun q hq => (HO.out.lt hq).1
        have HB4 : Hid (Below w.heap.size w (wr.alloc (.cells #[.int .u8 127] 5))) := HBr.out.alloc hsz _
        have hpb : (plainTo P i).length ≤ 8192 := by omega
        have HIF : Hid ((if i % 128 = 0 then [(127 : UInt8)] else []) = [127]) := if_pos hm
        clear hm
        generalize plainTo P i = Li at *
        go_upto_region 7 with (at_builtin; refine wpList_append_rd rfl (.tmp 14) (.tmp 15) 22 rfl w.heap.size 5 i0 (.int .u8 0) 1 Try.underlying22 hi0 hz0 hz1 hz2 rfl (.slice Ao Li.length co) Li.length _ rfl hO4.out _ (some ⟨wr.heap.size, 0, none⟩) 1 1 (([127] : List UInt8).map bv) rfl rfl HR4.out (oneY _) (by simp [maxLen]; omega) (by simp; omega) (by simp; omega) ?_; intro v5 w5 hown hg hat; have hO5 : OwnY w5 w.heap.size v5 (Li ++ [127]) := own_app rfl hown; have hB5 : Below w.heap.size w w5 := HB4.out.grown hg HB4.out.size HLo.out; have hc55 := hcF.out _ hB5)
        have hl5 : (Li ++ [127]).length ≤ 8193 := by rw [List.length_append]; simp; omega
        clear hown hg hat hc55 HLo hO4 HR4
        generalize hL5 : Li ++ [127] = L5 at *
        have HL5 := Lib.hid hL5
        clear hL5
        obtain ⟨Ae, ce, rfl⟩ := hO5.form
        have hO6 : Hid ((w5.alloc (.cells #[.int .u8 (x.toNat : Int)] 5)).ownsRow w.heap.size 5 1 (.slice Ae L5.length ce) L5.length (L5.map bv)) := World.ownsRow.alloc hO5 _
        have HR6 := Lib.hid (rd_one w5 x rfl)
        have hz5 := hB5.size
        have hB6 : Hid (Below w.heap.size w (w5.alloc (.cells #[.int .u8 (x.toNat : Int)] 5))) := hB5.alloc hz5 _
        have HLo : Hid (∀ q, (Value.slice Ae L5.length ce).ownBlock = some q → w.heap.size ≤ q) := fun q hq => (World.ownsRow.lt hO6.out q hq).1
        have hc5 := hcF.out _ hB5
        clear hO5 hB5 hcF hc
        go_wp2_with (at_builtin; refine wpList_append_rd rfl (.tmp 17) (.tmp 22) 22 rfl w.heap.size 5 i0 (.int .u8 0) 1 Try.underlying22 hi0 hz0 hz1 hz2 rfl (.slice Ae L5.length ce) L5.length _ rfl hO6.out _ (some ⟨w5.heap.size, 0, none⟩) 1 1 ([x].map bv) rfl rfl HR6.out (oneY _) (by simp [maxLen]; omega) (by simp; omega) (by simp; omega) ?_; intro v7 w7 hown hg hat)
        have hO7 : OwnY w7 w.heap.size v7 (plainTo P (i + 1)) := by
          rw [HS.out, HIF.out, HL5.out]
          exact own_app rfl hown
        obtain ⟨A7, c7, rfl⟩ := hO7.form
        have hB7 : Below w.heap.size w w7 := hB6.out.grown hg hB6.out.size HLo.out
        clear hown hg hat hO6 HR6
        go_wp2
        go_roundw
        case rel => exact ⟨i + 1, A7, c7, by omega, by go_num, rfl, hO7, hB7⟩
        case measure => simp [intOf]; omega
      · have hmi : ((i : Int) % 128 == 0) = false := beq_eq_false_iff_ne.2 (by omega)
        have hpb : (plainTo P i).length ≤ 8192 := by omega
        have HIF : Hid ((if i % 128 = 0 then [(127 : UInt8)] else []) = []) := if_neg hm
        clear hm
        obtain ⟨w5, hw5⟩ : ∃ w5 : World, w5 = wr := ⟨_, rfl⟩
        have hO5 : OwnY w5 w.heap.size (.slice Ao (plainTo P i).length co) (plainTo P i) := by rw [hw5]; exact HO.out
        have hB5 : Below w.heap.size w w5 := by rw [hw5]; exact HBr.out
        rw [← hw5] at hc ⊢
        clear hw5
        generalize plainTo P i = L5 at *
        have hO6 : Hid ((w5.alloc (.cells #[.int .u8 (x.toNat : Int)] 5)).ownsRow w.heap.size 5 1 (.slice Ao L5.length co) L5.length (L5.map bv)) := World.ownsRow.alloc hO5 _
        have HR6 := Lib.hid (rd_one w5 x rfl)
        have hz5 := hB5.size
        have hB6 : Hid (Below w.heap.size w (w5.alloc (.cells #[.int .u8 (x.toNat : Int)] 5))) := hB5.alloc hz5 _
        have HLo : Hid (∀ q, (Value.slice Ao L5.length co).ownBlock = some q → w.heap.size ≤ q) := fun q hq => (World.ownsRow.lt hO6.out q hq).1
        have hc5 := hcF.out _ hB5
        clear hO5 hB5 hcF hc
        go_wp2_with (at_builtin; refine wpList_append_rd rfl (.tmp 17) (.tmp 22) 22 rfl w.heap.size 5 i0 (.int .u8 0) 1 Try.underlying22 hi0 hz0 hz1 hz2 rfl (.slice Ao L5.length co) L5.length _ rfl hO6.out _ (some ⟨w5.heap.size, 0, none⟩) 1 1 ([x].map bv) rfl rfl HR6.out (oneY _) (by simp [maxLen]; omega) (by simp; omega) (by simp; omega) ?_; intro v7 w7 hown hg hat)
        have hO7 : OwnY w7 w.heap.size v7 (plainTo P (i + 1)) := by
          rw [HS.out, HIF.out, List.append_nil]
          exact own_app rfl hown
        obtain ⟨A7, c7, rfl⟩ := hO7.form
        have hB7 : Below w.heap.size w w7 := hB6.out.grown hg hB6.out.size HLo.out
        clear hown hg hat hO6 HR6
        go_wp2
        go_roundw
        case rel => exact ⟨i + 1, A7, c7, by omega, by go_num, rfl, hO7, hB7⟩
        case measure => simp [intOf]; omega
    · obtain rfl : i = P.length := by omega
      go_wp2
      go_ret
      rw [HL.out] at hO ⊢
      exact ⟨Ao, co, rfl, hO, hBr⟩
theorem chunk_put {P : List UInt8} {k : Nat} (h : 128 * k + 128 ≤ P.length) : putAll (litT (P.take (128 * k + 128))) = putAll (litT (P.take (128 * k))) ++ putT ((P.drop (128 * k)).take 128) 0 0 := by
  rw [lit_step h, putAll_app]
  simp [putAll, Tk.put, tkL]
set_option maxRecDepth 100000 in
set_option maxHeartbeats 4000000 in
theorem plain_any {w : World} {B g o : Nat} {c : Nat} {P : List UInt8} (h : RdY w B (some ⟨g, o, none⟩) P) (hB : B ≤ w.heap.size) (hl : P.length = 4096) (hc : 4096 ≤ c) :
    Calls Try.prog 65 #[.slice (some ⟨g, o, none⟩) 4096 c] w fun e w' => ∃ A' c', e = .returned (.slice A' (putAll (litT P)).length c') ∧ OwnY w' w.heap.size (.slice A' (putAll (litT P)).length c') (putAll (litT P)) ∧ Below w.heap.size w w' := by
  obtain ⟨i0, hi0, hz0, hz1, hz2⟩ := info_parts u8_info
  have HA := Lib.hid h
  have HB := Lib.hid hB
  have HL := Lib.hid hl
  have HC := Lib.hid hc
  clear h hB hl
  go_enter Try.func65, Try.ntmps65
  go_wp2
  go_loopw [3, 4] (fun ov iv wr => ∃ (k : Nat) (L : List UInt8) (Ao : Option Addr) (co : Nat), k ≤ 32 ∧ iv = .int .i64 ((128 * k : Nat) : Int) ∧ ov = .slice Ao L.length co ∧ Hid (L = putAll (litT (P.take (128 * k)))) ∧ L.length ≤ 200 * k ∧ OwnY wr w.heap.size (.slice Ao L.length co) L ∧ Below w.heap.size w wr) (fun _ iv _ => 4096 - (intOf iv).toNat)
  case atStart => exact ⟨0, [], none, 0, Nat.zero_le _, rfl, rfl, by show _ = _; simp [litT_nil, putAll], by simp, OwnY.nil _ _, Below.refl _ _⟩
  case round =>
    obtain ⟨k, L, Ao, co, hk, rfl, rfl, HLk, hLk, hO, hBr⟩ := hrel
    have HO := Lib.hid hO
    have HBr := Lib.hid hBr
    rcases Nat.lt_or_ge k 32 with hlt | hge
    · have hsl := fun (W : World) => run_cutY (w := W) (b := g) (o := o) (n := 4096) (c := c) (lo := ((128 * k : Nat) : Int)) (hi := ((128 * k : Nat) : Int) + 128) (i := 128 * k) (k := 128) rfl rfl (by omega) (by omega)
      have hl1 : ((P.drop (128 * k)).take 128).length = 128 := by rw [List.length_take, List.length_drop, HL.out]; omega
      have HR := Lib.hid ((HA.out.below' hBr HB.out).cut (128 * k) 128)
      have hmt : mayT ((P.drop (128 * k)).take 128).length 0 0 = true := by rw [hl1]; decide
      obtain ⟨pt, hpt0⟩ : ∃ pt, putT ((P.drop (128 * k)).take 128) 0 0 = pt := ⟨_, rfl⟩
      have HP0 := tPut1 (c2 := c - 128 * k) HR.out (Nat.le_trans HB.out hBr.size) hmt
      rw [hl1, show putT ((P.drop (128 * k)).take 128) (0 : Int).toNat (0 : Int).toNat = pt from hpt0] at HP0
      have HP := Lib.hid HP0
      have HCk : Hid (putAll (litT (P.take (128 * (k + 1)))) = putAll (litT (P.take (128 * k))) ++ pt) := by
        show _ = _
        rw [show 128 * (k + 1) = 128 * k + 128 by omega, ← hpt0]
        exact chunk_put (by rw [HL.out]; omega)
      have hpt : pt.length ≤ 129 := by
        rw [← hpt0]
        unfold putT
        rw [if_pos (by omega), List.length_cons, hl1]
        exact Nat.le_refl _
      clear hpt0 HP0
      obtain ⟨m, hm⟩ : ∃ m : Nat, 128 * k = m := ⟨_, rfl⟩
      have hmi : (m : Int) < 4096 := by omega
      rw [hm] at hsl HP ⊢
      have HM := Lib.hid hm
      clear hl1 hmt hO hBr HR hm
      go_wp2_with fail
      refine HP.out.mono ?_
      rintro x w3 ⟨A3, c3, rfl, hO3, hB3⟩
      have HO3 : Hid (w3.ownsRow w.heap.size 5 1 (.slice Ao L.length co) L.length (L.map bv)) := HO.out.below hB3
      have HR3 := Lib.hid (OwnY.rd hO3)
      have HB3 : Hid (Below w.heap.size w w3) := HBr.out.trans (hB3.mono HBr.out.size)
      have HLo : Hid (∀ q, (Value.slice Ao L.length co).ownBlock = some q → w.heap.size ≤ q) := fun q hq => (HO.out.lt hq).1
      have HLm : Hid (pt.length = (pt.map bv).length) := by show _ = _; rw [List.length_map]
      have H63 : Hid (L.length + (pt.map bv).length ≤ maxLen) := by show _ ≤ _; rw [List.length_map]; unfold maxLen; omega
      have HBy : Hid ((L.length + (pt.map bv).length) * 1 ≤ 140737488355328) := by show _ ≤ _; rw [List.length_map]; omega
      have h1 := Lib.hid (oneY pt)
      clear hO3 hB3 HP
      go_wp2_with (at_builtin; refine wpList_append_rd rfl (.tmp 24) (.tmp 25) 22 rfl w.heap.size 5 i0 (.int .u8 0) 1 Try.underlying22 hi0 hz0 hz1 hz2 rfl (.slice Ao L.length co) L.length _ rfl HO3.out _ A3 pt.length c3 _ rfl HLm.out HR3.out h1.out H63.out HBy.out HB3.out.size ?_; intro v5 w5 hown hg hat)
      have hO5 : OwnY w5 w.heap.size v5 (L ++ pt) := own_app (by simp) hown
      have hB5 : Below w.heap.size w w5 := HB3.out.grown hg HB3.out.size HLo.out
      obtain ⟨A5, c5, rfl⟩ := hO5.form
      have HE : Hid (L ++ pt = putAll (litT (P.take (128 * (k + 1))))) := by show _ = _; rw [HCk.out, ← HLk.out]
      have hll : (L ++ pt).length ≤ 200 * (k + 1) := by rw [List.length_append]; omega
      clear hown hg hat HO3 HR3 HLm H63 HBy h1
      have hm2 : (m : Int) + 128 = ((128 * (k + 1) : Nat) : Int) := by have := HM.out; omega
      have HM2 := Lib.hid hm2
      have hmk : 4096 - (((128 * (k + 1) : Nat) : Int)).toNat < 4096 - m := by have := HM.out; omega
      clear hm2
      go_wp2
      go_roundw
      case rel => exact ⟨k + 1, L ++ pt, A5, c5, by omega, by rw [← HM2.out], rfl, HE.out, hll, hO5, hB5⟩
      case measure => simp [intOf]; omega
    · obtain rfl : k = 32 := by omega
      rw [show 128 * 32 = 4096 by omega, List.take_of_length_le (by rw [HL.out]; exact Nat.le_refl _)] at HLk
      go_wp2
      go_ret
      rw [← HLk.out]
      exact ⟨Ao, co, rfl, hO, hBr⟩
end Go.Proofs.YtckdellcnoojaaaRRR
