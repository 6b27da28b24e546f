/- Grow of the program and of the reference. -/
import Derived.Test.YtckdellcnoojaaaRRRTokB
import Derived.Deep.RegionHeld3
namespace Go.Proofs.YtckdellcnoojaaaRRR
open Go.RowKit

/-- Bytes, and so many more, each the one so far ahead. -/
def growL (b : List UInt8) (d : Nat) : Nat → List UInt8
  | 0 => b
  | k + 1 => growL b d k ++ [(growL b d k)[(growL b d k).length - d]?.getD 0]
theorem growL_len (b : List UInt8) (d k : Nat) : (growL b d k).length = b.length + k := by
  induction k with
  | zero => rfl
  | succ k ih => simp [growL, ih]; omega
theorem below_world {B : Nat} {w w' : World} (h : Below B w w') {C : Nat} (hC : C ≤ B) : Below C w w' := h.mono hC

set_option maxRecDepth 100000 in
set_option maxHeartbeats 4000000 in
theorem tGrow_yes {w : World} {B B2 : Nat} {A A2 : Option Addr} {c c2 : Nat} {b l : List UInt8} {n d : Int} (h : RdY w B A b) (hB : B ≤ w.heap.size) (h2 : RdY w B2 A2 l) (hB2 : B2 ≤ w.heap.size) (hl : b.length ≤ 10000) (hm : mayT l.length n d = true) (hd : d ≤ b.length) :
    Calls Try.prog 19 #[.slice A b.length c, .agg #[.slice A2 l.length c2, .int .i64 n, .int .i64 d]] w fun e w' => ∃ A' c', e = .returned (.tuple #[.slice A' (growL (b ++ l) d.toNat n.toNat).length c', .int .i64 0]) ∧ OwnY w' w.heap.size (.slice A' (growL (b ++ l) d.toNat n.toNat).length c') (growL (b ++ l) d.toNat n.toNat) ∧ Below w.heap.size w w' := by
  obtain ⟨i0, hi0, hz0, hz1, hz2⟩ := info_parts u8_info
  obtain ⟨b1, b2, b3, b4, b5⟩ := mayT_bd hm
  have hnl : 0 < l.length → n = 0 := fun h0 => (mayT_lit hm h0).2.1
  have hd1 : l.length = 0 → 1 ≤ d := fun h0 => by
    rw [h0] at hm
    exact (mayT_copy hm).2.2.1
  have HMay : Hid (∀ W, Calls Try.prog 33 #[.agg #[.slice A2 l.length c2, .int .i64 n, .int .i64 d]] W fun e w' => e = .returned (.bool true) ∧ Below W.heap.size W w') := fun W => by
    have := tMay_any W A2 l.length c2 n d (by omega)
    rwa [hm] at this
  obtain ⟨n, rfl⟩ := Int.eq_ofNat_of_zero_le b2
  obtain ⟨d, rfl⟩ := Int.eq_ofNat_of_zero_le b4
  simp only [Int.toNat_natCast]
  have HNL := Lib.hid hnl
  have HD1 := Lib.hid hd1
  have HA := Lib.hid h
  have HA2 := Lib.hid h2
  clear hm hnl hd1 h h2
  have HTop : Hid (Bk (w.alloc (.cells #[.slice A2 l.length c2, .int .i64 (n : Int), .int .i64 (d : Int)] 24)) w.heap.size 24 #[.slice A2 l.length c2, .int .i64 (n : Int), .int .i64 (d : Int)]) := Bk.new _ _ _
  have HBA : Hid (Below w.heap.size w (w.alloc (.cells #[.slice A2 l.length c2, .int .i64 (n : Int), .int .i64 (d : Int)] 24))) := (Below.refl _ _).alloc (Nat.le_refl _) _
  go_enter Try.func19, Try.ntmps19
  go_upto_region 5 with (go_at_call 33; refine (HMay.out _).mono ?_; rintro e w2 ⟨rfl, hB2'⟩; obtain ⟨hcc, hff⟩ := bcell hB2')
  have hT2 := HTop.out.below' hB2'
  have hBr : Below w.heap.size w w2 := HBA.out.trans (hB2'.mono (by simp))
  have hf0 : w2.cell? ⟨w.heap.size, 0, none⟩ = some (.slice A2 l.length c2) := Bk.cell hT2 0
  have hszz : w.heap.size < w2.heap.size := hT2.lt
  clear hcc hff hB2'
  have hBr1 : Below w.heap.size w (w2.drewN 1) := ⟨hBr.os, hBr.tape, hBr.output, hBr.size, hBr.block⟩
  have hszz1 : w.heap.size < (w2.drewN 1).heap.size := hszz
  have HCl := Lib.hid (fun W (hW : W = w2.drewN 1) => by
    subst hW
    exact cloneY_any (w := w2.drewN 1) (c := c) (HA.out.below' hBr1 hB) (by omega) (by omega))
  have HB1 := Lib.hid hBr1
  clear hBr1
  go_region_held3 (fun W => W.cell? ⟨w.heap.size, 0, none⟩ = some (.slice A2 l.length c2)) (first | exact hf0 | exact hf3 | exact hf4) (first
    | (go_at_call 53; refine (HCl.out _ rfl).mono ?_; rintro e w3 ⟨A3, c3, rfl, hO3, hB3⟩; have hf3 : w3.cell? ⟨w.heap.size, 0, none⟩ = some (.slice A2 l.length c2) := (hB3.cell (p := ⟨w.heap.size, 0, none⟩) hszz).trans hf0; have HB3 : Hid (Below w.heap.size w w3) := HB1.out.trans (hB3.mono (Nat.le_of_lt hszz1)); have HO3 := Lib.hid (OwnY.weaken hO3 hszz1); have HR3 := Lib.hid (HA2.out.below' HB3.out hB2); have hlo : ∀ q, (Value.slice A3 b.length c3).ownBlock = some q → w.heap.size < q := fun q hq => Nat.lt_of_lt_of_le hszz1 (hO3.lt hq).1)
    | (refine step_append_rd rfl (.tmp 18) (.tmp 20) 22 rfl (w.heap.size + 1) 5 i0 (.int .u8 0) 1 Try.underlying22 hi0 hz0 hz1 hz2 rfl (.slice A3 b.length c3) b.length (b.map bv) (by simp [Act.eval]) HO3.out B2 A2 l.length c2 (l.map bv) (by simp [Act.eval]) (by simp) HR3.out (oneY _) (by simp [maxLen]; omega) (by simp; omega) (Nat.le_trans hszz1 hB3.size) ?_; intro v4 w4 hown hg hat; have hf4 : w4.cell? ⟨w.heap.size, 0, none⟩ = some (.slice A2 l.length c2) := (World.cell?_of_block (hg.block w.heap.size (by have := hB3.size; omega) (fun e => by have := hlo _ e.symm; omega))).trans hf3))
  all_goals
    have hO4 : OwnY w4 (w.heap.size + 1) v4 (b ++ l) := own_app (by simp) hown
    have hT4 : Bk w4 w.heap.size 24 _ := ((show Bk (w2.drewN 1) w.heap.size 24 _ from hT2).below' hB3).grown hg (fun e => by have := hlo _ e.symm; omega)
    have hB4 : Below w.heap.size w w4 := HB3.out.grown hg HB3.out.size (fun q hq => Nat.le_of_lt (hlo q hq))
    have hf14 : w4.cell? ⟨w.heap.size, 1, none⟩ = some (.int .i64 (n : Int)) := Bk.cell hT4 1
    obtain ⟨A4, c4, rfl⟩ := hO4.form
    have hlbl : (b ++ l).length ≤ 10128 := by simp; omega
    have HLL : Hid (0 < n → 1 ≤ d) := fun h0 => by
      rcases Nat.eq_zero_or_pos l.length with h | h
      · have := HD1.out h; omega
      · have := HNL.out h; omega
    have hdl : d ≤ (b ++ l).length := by simp; omega
    generalize hbl0 : b ++ l = bl at *
    have HBL := Lib.hid hbl0
    clear hbl0
    clear hown hg hat hO3 hB3 hf3 HO3 HR3 HB3 hlo HCl HB1 hT2 hBr hf0 hszz1 hf4 HMay HTop HBA HA HA2 HNL HD1
    go_wp2
    go_loopw [6, 24] (fun v j wr => ∃ (k cv : Nat) (Av : Option Addr), k ≤ n ∧ j = .int .i64 k ∧ v = .slice Av (growL bl d k).length cv ∧ OwnY wr (w.heap.size + 1) (.slice Av (growL bl d k).length cv) (growL bl d k) ∧ Bk wr w.heap.size 24 #[.slice A2 l.length c2, .int .i64 (n : Int), .int .i64 (d : Int)] ∧ Below w.heap.size w wr) (fun _ j _ => n - (intOf j).toNat)
    case atStart => exact ⟨0, c4, A4, Nat.zero_le _, rfl, rfl, hO4, hT4, hB4⟩
    case round =>
      clear hO4 hT4 hB4 hf14
      obtain ⟨k, cv, Av, hk, rfl, rfl, hO, hT, hBl⟩ := hrel
      have hgl := growL_len bl d k
      rcases Nat.lt_or_ge k n with hkn | hkn
      · have hd1 := HLL.out (by omega)
        have HG : Hid (growL bl d (k + 1) = growL bl d k ++ [(growL bl d k)[(growL bl d k).length - d]?.getD 0]) := rfl
        generalize growL bl d k = pk at *
        obtain ⟨q, hq, hqi⟩ : ∃ q : Nat, pk.length - d = q ∧ (pk.length : Int) - (d : Int) = (q : Int) := ⟨pk.length - d, rfl, by omega⟩
        have hql : q < pk.length := by omega
        rw [hq] at HG
        obtain ⟨gb, rfl, hgb, _, _, -, hcell, -⟩ := hO.at_ (by omega)
        have hc := hcell q hql
        have hf2 : wr.cell? ⟨w.heap.size, 2, none⟩ = some (.int .i64 (d : Int)) := Bk.cell hT 2
        generalize pk[q]?.getD 0 = x at *
        have HO2 : Hid ((wr.alloc (.cells #[.int .u8 (x.toNat : Int)] 5)).ownsRow (w.heap.size + 1) 5 1 (.slice (some ⟨gb, 0, none⟩) pk.length cv) pk.length (pk.map bv)) := World.ownsRow.alloc hO _
        have HR3 := Lib.hid (rd_one wr x rfl)
        have hsz := hBl.size
        have hTl := hT.lt
        have hpl : pk.length ≤ 20000 := by omega
        clear hcell hO hq hgl
        go_wp2_with (at_builtin; refine wpList_append_rd rfl (.tmp 26) (.tmp 35) 22 rfl (w.heap.size + 1) 5 i0 (.int .u8 0) 1 Try.underlying22 hi0 hz0 hz1 hz2 rfl (.slice (some ⟨gb, 0, none⟩) pk.length cv) pk.length _ rfl HO2.out _ (some ⟨wr.heap.size, 0, none⟩) 1 1 ([x].map bv) rfl rfl HR3.out (oneY _) (by simp [maxLen]; omega) (by simp; omega) (by simp; omega) ?_; intro v6 w6 hown hg hat)
        have hO6 : OwnY w6 (w.heap.size + 1) v6 (growL bl d (k + 1)) := by
          rw [HG.out]
          exact own_app rfl hown
        have hB6 : Below w.heap.size w w6 := (hBl.alloc hsz _).grown hg (by simp; omega) (fun q hq => by simp [Value.ownBlock] at hq; omega)
        have hT6 : Bk w6 w.heap.size 24 _ := (hT.alloc _).grown hg (fun e => by simp [Value.ownBlock] at e; omega)
        obtain ⟨A6, c6, rfl⟩ := hO6.form
        clear hown hg hat HO2 HR3 hqi
        go_wp2
        go_roundw
        case rel => exact ⟨k + 1, c6, A6, by omega, by go_num, rfl, hO6, hT6, hB6⟩
        case measure => simp [intOf]; omega
      · obtain rfl : k = n := by omega
        go_wp2
        go_ret2
        rw [HBL.out]
        exact ⟨Av, cv, rfl, OwnY.weaken (base := w.heap.size + 1) hO (Nat.le_succ _), hBl⟩

set_option maxRecDepth 100000 in
set_option maxHeartbeats 1000000 in
theorem tGrow_no {w : World} {A A2 : Option Addr} {m c m2 c2 : Nat} {n d : Int} (hm2 : m2 ≤ 9223372036854775807) (hm : mayT m2 n d = false) :
    Calls Try.prog 19 #[.slice A m c, .agg #[.slice A2 m2 c2, .int .i64 n, .int .i64 d]] w fun e w' => e = .returned (.tuple #[.slice none 0 0, .int .i64 1]) ∧ Below w.heap.size w w' := by
  have HMay : Hid (∀ W, Calls Try.prog 33 #[.agg #[.slice A2 m2 c2, .int .i64 n, .int .i64 d]] W fun e w' => e = .returned (.bool false) ∧ Below W.heap.size W w') := fun W => by
    have := tMay_any W A2 m2 c2 n d hm2
    rwa [hm] at this
  go_enter Try.func19, Try.ntmps19
  go_wp2_with (go_at_call 33; refine (HMay.out _).mono ?_; rintro e w2 ⟨rfl, hB2'⟩; obtain ⟨hcc, hff⟩ := bcell hB2')
  go_ret2
  exact ⟨rfl, ((Below.refl _ _).alloc (Nat.le_refl _) _).trans (hB2'.mono (by simp))⟩
set_option maxRecDepth 100000 in
set_option maxHeartbeats 1000000 in
theorem tGrow_far {w : World} {A A2 : Option Addr} {m c m2 c2 : Nat} {n d : Int} (hm2 : m2 ≤ 9223372036854775807) (hm : mayT m2 n d = true) (hd : (m : Int) < d) :
    Calls Try.prog 19 #[.slice A m c, .agg #[.slice A2 m2 c2, .int .i64 n, .int .i64 d]] w fun e w' => e = .returned (.tuple #[.slice none 0 0, .int .i64 3]) ∧ Below w.heap.size w w' := by
  have HMay : Hid (∀ W, Calls Try.prog 33 #[.agg #[.slice A2 m2 c2, .int .i64 n, .int .i64 d]] W fun e w' => e = .returned (.bool true) ∧ Below W.heap.size W w') := fun W => by
    have := tMay_any W A2 m2 c2 n d hm2
    rwa [hm] at this
  go_enter Try.func19, Try.ntmps19
  go_wp2_with (go_at_call 33; refine (HMay.out _).mono ?_; rintro e w2 ⟨rfl, hB2'⟩; obtain ⟨hcc, hff⟩ := bcell hB2')
  go_ret2
  exact ⟨rfl, ((Below.refl _ _).alloc (Nat.le_refl _) _).trans (hB2'.mono (by simp))⟩
end Go.Proofs.YtckdellcnoojaaaRRR
