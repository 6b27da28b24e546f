/- TokenPuts. -/
import Derived.Test.YtckdellcnoojaaaRRRTokE
namespace Go.Proofs.YtckdellcnoojaaaRRR
open Go.RowKit

/-- The bytes of those that may be. -/
def wantL (L : List Tk) : List UInt8 := ((L.filter Tk.may).map Tk.put).flatten
theorem wantL_yes {L : List Tk} {k : Nat} {t : Tk} (h : L[k]? = some t) (hm : t.may = true) : wantL (L.take (k + 1)) = wantL (L.take k) ++ t.put := by
  have hk := (List.getElem?_eq_some_iff.1 h).1
  have e : L[k] = t := (List.getElem?_eq_some_iff.1 h).2
  rw [List.take_succ_eq_append_getElem hk, e, wantL, List.filter_append]
  simp [wantL, hm]
theorem wantL_no {L : List Tk} {k : Nat} {t : Tk} (h : L[k]? = some t) (hm : t.may = false) : wantL (L.take (k + 1)) = wantL (L.take k) := by
  have hk := (List.getElem?_eq_some_iff.1 h).1
  have e : L[k] = t := (List.getElem?_eq_some_iff.1 h).2
  rw [List.take_succ_eq_append_getElem hk, e, wantL, List.filter_append]
  simp [wantL, hm]
theorem allL_succ {L : List Tk} {k : Nat} {t : Tk} (h : L[k]? = some t) : (L.take (k + 1)).all Tk.may = ((L.take k).all Tk.may && t.may) := by
  have hk := (List.getElem?_eq_some_iff.1 h).1
  have e : L[k] = t := (List.getElem?_eq_some_iff.1 h).2
  rw [List.take_succ_eq_append_getElem hk, e, List.all_append]
  simp
theorem wantL_len (L : List Tk) : (wantL L).length ≤ 129 * L.length := by
  have h : wantL L = putAll (L.filter Tk.may) := rfl
  rw [h]
  exact Nat.le_trans (putAll_len fun t ht => (List.mem_filter.1 ht).2) (Nat.mul_le_mul_left _ (List.length_filter_le _ _))
theorem wantL_all {L : List Tk} (h : L.all Tk.may = true) : wantL L = putAll L := by
  have e : L.filter Tk.may = L := List.filter_eq_self.2 (List.all_eq_true.1 h)
  show putAll (L.filter Tk.may) = _
  rw [e]

theorem tPut_yes {w : World} {B : Nat} {A : Option Addr} {c : Nat} {L : List Tk} (h : TksAt w B A L) (hB : B ≤ w.heap.size) (hl : L.length ≤ 1000) (hL : ∀ t ∈ L, t.b.length ≤ 300) (hm : L.all Tk.may = true) :
    Calls Try.prog 35 #[.slice A L.length c] w fun e w' => ∃ A' c', e = .returned (.tuple #[.slice A' (putAll L).length c', .bool true]) ∧ OwnY w' w.heap.size (.slice A' (putAll L).length c') (putAll L) ∧ Below w.heap.size w w' := by
  refine (tPut_any h hB hl hL).mono ?_
  rintro e w' ⟨hb, ⟨A', c', rfl, hO, _⟩ | ⟨_, t, ht, hno⟩⟩
  · exact ⟨A', c', rfl, hO, hb⟩
  · have := List.all_eq_true.1 hm t ht
    rw [hno] at this
    cases this
theorem tPut_no {w : World} {B : Nat} {A : Option Addr} {c : Nat} {L : List Tk} (h : TksAt w B A L) (hB : B ≤ w.heap.size) (hl : L.length ≤ 1000) (hL : ∀ t ∈ L, t.b.length ≤ 300) (hm : L.all Tk.may = false) :
    Calls Try.prog 35 #[.slice A L.length c] w fun e w' => e = .returned (.tuple #[.slice none 0 0, .bool false]) ∧ Below w.heap.size w w' := by
  refine (tPut_any h hB hl hL).mono ?_
  rintro e w' ⟨hb, ⟨A', c', rfl, hO, hal⟩ | ⟨rfl, _⟩⟩
  · rw [List.all_eq_true.2 hal] at hm
    cases hm
  · exact ⟨rfl, hb⟩

set_option maxRecDepth 100000 in
set_option maxHeartbeats 1000000 in
theorem tputs_great (w : World) (A : Option Addr) (m c : Nat) (hl : 100 < m) :
    Calls Try.prog 7 #[.slice A m c] w fun e w' => e = .returned (.bool true) ∧ Below w.heap.size w w' := by
  have hli : (100 : Int) < m := by omega
  go_enter Try.func7, Try.ntmps7
  go_wp2_with (go_at_call 18; refine (tokLives _).mono ?_; rintro x w7 ⟨rfl, hB7⟩)
  go_ret
  exact ⟨rfl, hB7⟩

theorem Bk3 {w : World} {g T : Nat} {a b c : Value} (h : Bk w g T #[a, b, c]) : w.cell? ⟨g, 0, none⟩ = some a ∧ w.cell? ⟨g, 1, none⟩ = some b ∧ w.cell? ⟨g, 2, none⟩ = some c := ⟨h.cell 0, h.cell 1, h.cell 2⟩

set_option maxRecDepth 100000 in
set_option maxHeartbeats 4000000 in
theorem tputs_any {w : World} {A : Option Addr} {c : Nat} {L : List Tk} (h : TksAt w w.heap.size A L) (hl : L.length ≤ 100) (hL : ∀ t ∈ L, t.b.length ≤ 9223372036854775807) :
    Calls Try.prog 7 #[.slice A L.length c] w fun e w' => e = .returned (.bool true) ∧ Below w.heap.size w w' := by
  obtain ⟨i0, hi0, hz0, hz1, hz2⟩ := info_parts u8_info
  have hli : decide ((100 : Int) < L.length) = false := decide_eq_false (by omega)
  have HA := Lib.hid h
  have HL := Lib.hid hL
  clear h hL
  go_enter Try.func7, Try.ntmps7
  go_wp2
  go_loopw [3, 4, 5] (fun v al i wr => ∃ (k cv : Nat) (Av : Option Addr) (a : Bool), k ≤ L.length ∧ i = .int .i64 k ∧ v = .slice Av (wantL (L.take k)).length cv ∧ al = .bool a ∧ OwnY wr w.heap.size (.slice Av (wantL (L.take k)).length cv) (wantL (L.take k)) ∧ Below w.heap.size w wr ∧ Hid (∀ t ∈ L.take k, t.b.length ≤ 300) ∧ Hid ((L.take k).all Tk.may = a)) (fun _ _ i _ => L.length - (intOf i).toNat)
  case atStart => exact ⟨0, 0, none, true, Nat.zero_le _, rfl, rfl, rfl, OwnY.nil _ _, Below.refl _ _, fun t ht => by simp at ht, rfl⟩
  case round =>
    obtain ⟨k, cv, Av, a, hk, rfl, rfl, rfl, hO, hBl, HM, HAl⟩ := hrel
    have hpl : (wantL (L.take k)).length ≤ 129 * 1000 := Nat.le_trans (wantL_len _) (Nat.mul_le_mul_left _ (Nat.le_trans (List.length_take_le _ _) (by omega)))
    have hbl2 := hBl.size
    rcases Nat.lt_or_ge k L.length with hlt | hge
    · obtain ⟨t, b, o, ht, rfl, hbB, hc1, hc2, hc3, hR⟩ := (HA.out.below hBl).get hlt
      have hbig := HL.out t (List.mem_of_getElem? ht)
      have HGr : Hid (∀ W, Calls Try.prog 17 #[.agg #[.slice t.A t.b.length t.c, .int .i64 t.n, .int .i64 t.d]] W fun e w' => e = .returned (.bool (decide (300 < t.b.length))) ∧ Below W.heap.size W w') := fun W => tGreat_any W t.A t.b.length t.c t.n t.d
      rcases Nat.lt_or_ge 300 t.b.length with h3 | h3
      · rw [decide_eq_true h3] at HGr
        go_wp2_with (first
          | (go_at_call 17; refine (HGr.out _).mono ?_; rintro x w6 ⟨rfl, hB6⟩)
          | (go_at_call 18; refine (tokLives _).mono ?_; rintro x w7 ⟨rfl, hB7⟩))
        go_ret
        exact ⟨rfl, (hBl.trans (hB6.mono hbl2)).trans (hB7.mono (Nat.le_trans hbl2 hB6.size))⟩
      · rw [decide_eq_false (by omega)] at HGr
        have HM2 : Hid (∀ t' ∈ L.take (k + 1), t'.b.length ≤ 300) := fun t' ht' => by
          rw [List.take_succ_eq_append_getElem hlt] at ht'
          rcases List.mem_append.1 ht' with h | h
          · exact HM.out t' h
          · simp only [List.mem_singleton] at h
            have e : L[k] = t := (List.getElem?_eq_some_iff.1 ht).2
            rw [h, e]; exact h3
        have HAl2 : Hid ((L.take (k + 1)).all Tk.may = (a && t.may)) := by
          show _ = _
          rw [allL_succ ht, HAl.out]
        have HRM : Hid (∀ W, Calls Try.prog 31 #[.agg #[.slice t.A t.b.length t.c, .int .i64 t.n, .int .i64 t.d]] W fun e w' => e = .returned (.bool t.may) ∧ Below W.heap.size W w') := fun W => rMay_any W t.A t.b.length t.c t.n t.d
        have HTM : Hid (∀ W, Calls Try.prog 33 #[.agg #[.slice t.A t.b.length t.c, .int .i64 t.n, .int .i64 t.d]] W fun e w' => e = .returned (.bool t.may) ∧ Below W.heap.size W w') := fun W => tMay_any W t.A t.b.length t.c t.n t.d (by omega)
        have HTS := Lib.hid (fun W => tSize_any W t.A t.b.length t.c t.n t.d (by omega))
        have hk2 : (k : Int) < L.length := by omega
        have HO := Lib.hid hO
        have HR := Lib.hid hR
        rcases hmy : t.may
        · rw [hmy] at HRM HTM HAl2
          rw [show sizeT t.b.length t.n t.d = 0 by unfold sizeT; rw [if_neg (by unfold Tk.may at hmy; rw [hmy]; decide)]] at HTS
          have HW : Hid (wantL (L.take (k + 1)) = wantL (L.take k)) := wantL_no ht hmy
          obtain ⟨tA, tc, tb, tn, td⟩ := t
          simp only at *
          clear ht hmy hO hR
          go_upto_region 11 with (go_at_call 17; refine (HGr.out _).mono ?_; rintro x w1 ⟨rfl, hB1⟩; have hc1 := (hB1.cell (p := ⟨b, o + k * 3, none⟩) (by simp; omega)).trans hc1; have hc2 := (hB1.cell (p := ⟨b, o + k * 3 + 1, none⟩) (by simp; omega)).trans hc2; have hc3 := (hB1.cell (p := ⟨b, o + k * 3 + 2, none⟩) (by simp; omega)).trans hc3)
          have hb1 : Below w.heap.size w w1 := hBl.trans (hB1.mono hbl2)
          have hbw1 := hb1.size
          have HTop : Hid (Bk (w1.alloc (.cells #[.slice tA tb.length tc, .int .i64 tn, .int .i64 td] 32)) w1.heap.size 32 #[.slice tA tb.length tc, .int .i64 tn, .int .i64 td]) := Bk.new _ _ _
          have HBA : Hid (Below w1.heap.size w1 (w1.alloc (.cells #[.slice tA tb.length tc, .int .i64 tn, .int .i64 td] 32))) := (Below.refl _ _).alloc (Nat.le_refl _) _
          have HB1 := Lib.hid hB1
          clear hB1
          go_upto_region 16 with (go_at_call 31; refine (HRM.out _).mono ?_; rintro x w2 ⟨rfl, hB2⟩; have hc1 := ((HBA.out.trans (hB2.mono (by simp))).cell (p := ⟨b, o + k * 3, none⟩) (by simp; omega)).trans hc1; have hc2 := ((HBA.out.trans (hB2.mono (by simp))).cell (p := ⟨b, o + k * 3 + 1, none⟩) (by simp; omega)).trans hc2; have hc3 := ((HBA.out.trans (hB2.mono (by simp))).cell (p := ⟨b, o + k * 3 + 2, none⟩) (by simp; omega)).trans hc3)
          have hb2 : Below wr.heap.size wr w2 := HB1.out.trans ((HBA.out.trans (hB2.mono (by simp))).mono HB1.out.size)
          have hbw2 := hb2.size
          have HO2 := HO.out.below hb2
          clear hB2 HTop HBA HB1
          have HAl3 : Hid ((L.take (k + 1)).all Tk.may = false) := by
            show _ = _
            rw [HAl2.out]
            cases a <;> rfl
          clear HAl2 HAl
          cases a
          all_goals
            go_wp2_with (first
              | (go_at_call 33; refine (HTM.out _).mono ?_; rintro x w3 ⟨rfl, hB3⟩; have hc1 := (hB3.cell (p := ⟨b, o + k * 3, none⟩) (by simp; omega)).trans hc1; have hc2 := (hB3.cell (p := ⟨b, o + k * 3 + 1, none⟩) (by simp; omega)).trans hc2; have hc3 := (hB3.cell (p := ⟨b, o + k * 3 + 2, none⟩) (by simp; omega)).trans hc3)
              | (go_at_call 34; refine (HTS.out _).mono ?_; rintro x w4 ⟨rfl, hB4⟩))
            have hb4 : Below wr.heap.size wr w4 := (hb2.trans (hB3.mono hbw2)).trans (hB4.mono (Nat.le_trans hbw2 hB3.size))
            have hO4 := HO.out.below hb4
            go_roundw
            case rel =>
              rw [← HW.out] at hO4 ⊢
              exact ⟨k + 1, cv, Av, false, by omega, by go_num, rfl, rfl, hO4, hBl.trans (hb4.mono hbl2), HM2, HAl3⟩
            case measure => simp [intOf]; omega
        · rw [hmy] at HRM HTM HAl2
          obtain ⟨z1, z2, z3, z4, z5⟩ := mayT_bd hmy
          have hnn : 0 ≤ t.n := z2
          have hnb : t.n ≤ 130 := z3
          rw [show ((sizeT t.b.length t.n t.d : Nat) : Int) = (t.b.length : Int) + t.n by unfold sizeT; rw [if_pos (show mayT t.b.length t.n t.d = true from hmy)]; omega] at HTS
          have HW : Hid (wantL (L.take (k + 1)) = wantL (L.take k) ++ t.put) := wantL_yes ht hmy
          have HRP : Hid (∀ W, RdY W w.heap.size t.A t.b → w.heap.size ≤ W.heap.size → Calls Try.prog 32 #[.agg #[.slice t.A t.b.length t.c, .int .i64 t.n, .int .i64 t.d]] W fun e w' => ∃ A' c', e = .returned (.slice A' t.put.length c') ∧ OwnY w' W.heap.size (.slice A' t.put.length c') t.put ∧ Below W.heap.size W w') := fun W hr hb => rPut_any hr hb hmy
          have hpt : t.put.length ≤ 129 := put_len hmy
          generalize t.put = tp at *
          rw [Bool.and_true] at HAl2
          have HT := Lib.hid ht
          clear ht
          obtain ⟨tA, tc, tb, tn, td⟩ := t
          simp only at *
          clear hmy hO hR z1 z2 z3 z4 z5 HAl
          go_upto_region 11 with (go_at_call 17; refine (HGr.out _).mono ?_; rintro x w1 ⟨rfl, hB1⟩; have hc1 := (hB1.cell (p := ⟨b, o + k * 3, none⟩) (by simp; omega)).trans hc1; have hc2 := (hB1.cell (p := ⟨b, o + k * 3 + 1, none⟩) (by simp; omega)).trans hc2; have hc3 := (hB1.cell (p := ⟨b, o + k * 3 + 2, none⟩) (by simp; omega)).trans hc3)
          have hb1 : Below w.heap.size w w1 := hBl.trans (hB1.mono hbl2)
          have hbw1 := hb1.size
          have HTop : Hid (Bk (w1.alloc (.cells #[.slice tA tb.length tc, .int .i64 tn, .int .i64 td] 32)) w1.heap.size 32 #[.slice tA tb.length tc, .int .i64 tn, .int .i64 td]) := Bk.new _ _ _
          have HBA : Hid (Below w1.heap.size w1 (w1.alloc (.cells #[.slice tA tb.length tc, .int .i64 tn, .int .i64 td] 32))) := (Below.refl _ _).alloc (Nat.le_refl _) _
          have HB1 := Lib.hid hB1
          clear hB1
          go_upto_region 14 with (go_at_call 31; refine (HRM.out _).mono ?_; rintro x w2 ⟨rfl, hB2⟩)
          have hb2 : Below wr.heap.size wr w2 := HB1.out.trans ((HBA.out.trans (hB2.mono (by simp))).mono HB1.out.size)
          have hbw2 := hb2.size
          obtain ⟨f0, f1, f2⟩ := Bk3 (HTop.out.below' hB2)
          have hgl : w1.heap.size < w2.heap.size := (HTop.out.below' hB2).lt
          have HB2 := Lib.hid hb2
          clear hB2 HTop HBA hb2 hc1 hc2 hc3
          go_upto_region 16 with (first
            | (go_at_call 32; refine (HRP.out _ (HR.out.below' HB2.out hbl2) (Nat.le_trans hbl2 hbw2)).mono ?_; rintro x w3 ⟨A3, c3, rfl, hO3, hB3⟩; have HO3 := Lib.hid hO3.rd; have HB3 : Hid (Below wr.heap.size wr w3) := HB2.out.trans (hB3.mono hbw2); have HOw : Hid (w3.ownsRow w.heap.size 5 1 (.slice Av (wantL (L.take k)).length cv) (wantL (L.take k)).length ((wantL (L.take k)).map bv)) := HO.out.below HB3.out; clear hO3 hB3)
            | (at_builtin; refine wpList_append_rd rfl (.tmp 40) (.tmp 42) 22 rfl w.heap.size 5 i0 (.int .u8 0) 1 Try.underlying22 hi0 hz0 hz1 hz2 rfl (.slice Av (wantL (L.take k)).length cv) (wantL (L.take k)).length _ rfl HOw.out _ A3 tp.length c3 (tp.map bv) rfl (by simp) HO3.out (oneY _) (by simp [maxLen]; omega) (by simp; omega) (Nat.le_trans hbl2 HB3.out.size) ?_; intro v4 w4 hown hg hat))
          have hO4 : OwnY w4 w.heap.size v4 (wantL (L.take (k + 1))) := by
            rw [HW.out]
            exact own_app (by simp) hown
          obtain ⟨A4, c4, rfl⟩ := hO4.form
          have hb4 : Below w.heap.size w w4 := (hBl.trans (HB3.out.mono hbl2)).grown hg (Nat.le_trans hbl2 HB3.out.size) (fun q hq => (World.ownsRow.lt HOw.out q hq).1)
          obtain ⟨b', o', e', hbB', hc1, hc2, hc3, -⟩ := HA.out.below hb4 k ⟨tA, tc, tb, tn, td⟩ HT.out
          obtain ⟨rfl, rfl⟩ : b = b' ∧ o = o' := by simpa using e'
          have hbw4 := hb4.size
          have hO5 := HOw
          clear HOw HO3 HB3 hown hg hat hO5 HB2 HRP
          cases a
          all_goals
            go_wp2_with (first
              | (go_at_call 33; refine (HTM.out _).mono ?_; rintro x w5 ⟨rfl, hB5⟩; have hc1 := (hB5.cell (p := ⟨b, o + k * 3, none⟩) (by simp; omega)).trans hc1; have hc2 := (hB5.cell (p := ⟨b, o + k * 3 + 1, none⟩) (by simp; omega)).trans hc2; have hc3 := (hB5.cell (p := ⟨b, o + k * 3 + 2, none⟩) (by simp; omega)).trans hc3)
              | (go_at_call 34; refine (HTS.out _).mono ?_; rintro x w6 ⟨rfl, hB6⟩))
            have hb6 : Below w4.heap.size w4 w6 := hB5.trans (hB6.mono hB5.size)
            go_roundw
            case rel => exact ⟨k + 1, c4, A4, _, by omega, by go_num, rfl, rfl, hO4.below hb6, hb4.trans (hb6.mono hbw4), HM2, HAl2⟩
            case measure => simp [intOf]; omega
    · obtain rfl : k = L.length := by omega
      rw [List.take_of_length_le (Nat.le_refl _)] at *
      have HAB := Lib.hid (HA.out.below hBl)
      have HO := Lib.hid hO
      clear hO
      cases a
      · have HP := Lib.hid (tPut_no (c := c) HAB.out hbl2 (by omega) HM.out HAl.out)
        go_wp2_with (first
          | (go_at_call 35; refine HP.out.mono ?_; rintro x w2 ⟨rfl, hB2⟩)
          | (go_at_call 18; refine (tokLives _).mono ?_; rintro x w7 ⟨rfl, hB7⟩))
        go_ret
        exact ⟨rfl, (hBl.trans (hB2.mono hbl2)).trans (hB7.mono (Nat.le_trans hbl2 hB2.size))⟩
      · have HP := Lib.hid (tPut_yes (c := c) HAB.out hbl2 (by omega) HM.out HAl.out)
        have HE : Hid (wantL L = putAll L) := wantL_all HAl.out
        rw [HE.out] at HO ⊢
        have HBy : Hid (∀ W A' c', RdY W W.heap.size A' (putAll L) → RdY W W.heap.size Av (putAll L) → Calls Try.prog 21 #[.slice A' (putAll L).length c', .slice Av (putAll L).length cv] W fun e w' => e = .returned (.bool true) ∧ W = w') := fun W A' c' r1 r2 => by
          have := refBytes_any (c := c') (c2 := cv) r1 r2
          rwa [show (putAll L == putAll L) = true from beq_self_eq_true _] at this
        go_wp2_with (first
          | (go_at_call 35; refine HP.out.mono ?_; rintro x w2 ⟨A2, c2, rfl, hO2, hB2⟩)
          | (go_at_call 21; refine (HBy.out _ _ _ hO2.rd (HO.out.below hB2).rd).mono ?_; rintro x w3 ⟨rfl, rfl⟩)
          | (go_at_call 18; refine (tokLives _).mono ?_; rintro x w7 ⟨rfl, hB7⟩))
        go_ret
        exact ⟨rfl, (hBl.trans (hB2.mono hbl2)).trans (hB7.mono (Nat.le_trans hbl2 hB2.size))⟩
end Go.Proofs.YtckdellcnoojaaaRRR
