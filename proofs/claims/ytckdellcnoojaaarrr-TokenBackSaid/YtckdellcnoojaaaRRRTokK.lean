/- TokenBack. -/
import Derived.Test.YtckdellcnoojaaaRRRTokJ
import Derived.Deep.RegionHeld3
import Derived.BigQuiet
namespace Go.Proofs.YtckdellcnoojaaaRRR
open Go.RowKit

theorem off_succ {L : List Tk} {k : Nat} {t : Tk} (h : L[k]? = some t) : (putAll (L.take (k + 1))).length = (putAll (L.take k)).length + t.put.length := by
  rw [putAll_succ h, List.length_append]
theorem putAll_split {L : List Tk} {k : Nat} {t : Tk} (h : L[k]? = some t) : putAll L = putAll (L.take k) ++ (t.put ++ putAll (L.drop (k + 1))) := by
  have hk := (List.getElem?_eq_some_iff.1 h).1
  have e : L[k] = t := (List.getElem?_eq_some_iff.1 h).2
  have h2 : L = L.take k ++ (t :: L.drop (k + 1)) := by
    rw [← e, List.getElem_cons_drop, List.take_append_drop]
  conv => lhs; rw [h2]
  simp [putAll]
theorem below_drew1 (c : World) : Below c.heap.size c (c.drewN 1) := ⟨rfl, rfl, rfl, Nat.le_refl _, fun _ _ => rfl⟩
theorem bchain {a b c d : World} (h1 : Below a.heap.size a b) (h2 : Below b.heap.size b c) (h3 : Below (c.drewN 1).heap.size (c.drewN 1) d) : Below a.heap.size a d := (h1.trans (h2.mono h1.size)).trans (((below_drew1 c).trans (h3.mono (Nat.le_refl _))).mono (Nat.le_trans h1.size h2.size))
theorem may_of_err {b l : Nat} {n d : Int} (h : growErr b l n d = 0) : mayT l n d = true := by
  unfold growErr at h
  split at h
  · assumption
  · cases h
theorem size_pos {l : Nat} {n d : Int} (h : mayT l n d = true) : 1 ≤ sizeT l n d := by
  unfold sizeT
  rw [if_pos h]
  rcases Nat.eq_zero_or_pos l with h0 | h0
  · subst h0
    have := mayT_copy h
    omega
  · omega
theorem put_pos (t : Tk) : 1 ≤ t.put.length := by
  unfold Tk.put putT
  split <;> simp

set_option maxRecDepth 100000 in
set_option maxHeartbeats 1000000 in
theorem tback_great (w : World) (A A2 : Option Addr) (m c m2 c2 : Nat) (hl : 60 < m ∨ (m ≤ 60 ∧ 5000 < m2)) :
    Calls Try.prog 9 #[.slice A m c, .slice A2 m2 c2] w fun e w' => e = .returned (.bool true) ∧ Below w.heap.size w w' := by
  rcases hl with h | ⟨h, h2⟩
  · have hli : (60 : Int) < m := by omega
    go_enter Try.func9, Try.ntmps9
    go_wp2_with (go_at_call 18; refine (tokLives _).mono ?_; rintro x w7 ⟨rfl, hB7⟩)
    go_ret
    exact ⟨rfl, hB7⟩
  · have hli : decide ((60 : Int) < m) = false := decide_eq_false (by omega)
    have hli2 : (5000 : Int) < m2 := by omega
    go_enter Try.func9, Try.ntmps9
    go_wp2_with (go_at_call 18; refine (tokLives _).mono ?_; rintro x w7 ⟨rfl, hB7⟩)
    go_ret
    exact ⟨rfl, hB7⟩

set_option maxRecDepth 100000 in
set_option maxHeartbeats 4000000 in
theorem tback_any {w : World} {A A2 : Option Addr} {c c2 : Nat} {L : List Tk} {b0 : List UInt8} (h : TksAt w w.heap.size A L) (hl : L.length ≤ 60) (hL : ∀ t ∈ L, t.b.length ≤ 9223372036854775807) (h2 : RdY w w.heap.size A2 b0) (hb0 : b0.length ≤ 5000) :
    Calls Try.prog 9 #[.slice A L.length c, .slice A2 b0.length c2] w fun e w' => e = .returned (.bool true) ∧ Below w.heap.size w w' := by
  have hli : decide ((60 : Int) < L.length) = false := decide_eq_false (by omega)
  have hli2 : decide ((5000 : Int) < b0.length) = false := decide_eq_false (by omega)
  have HA := Lib.hid h
  have HL := Lib.hid hL
  have HB0 := Lib.hid h2
  clear h hL h2
  go_enter Try.func9, Try.ntmps9
  go_wp2
  go_loopw [5] (fun i wr => ∃ k : Nat, k ≤ L.length ∧ i = .int .i64 k ∧ Below w.heap.size w wr ∧ Hid (∀ t ∈ L.take k, t.b.length ≤ 300)) (fun i _ => L.length - (intOf i).toNat)
  case atStart => exact ⟨0, Nat.zero_le _, rfl, Below.refl _ _, fun t ht => by simp at ht⟩
  case round =>
    obtain ⟨k, hk, rfl, hBl, HM⟩ := hrel
    have hbl2 := hBl.size
    rcases Nat.lt_or_ge k L.length with hlt | hge
    · obtain ⟨t, b, o, ht, rfl, hbB, hc1, hc2, hc3, hR⟩ := (HA.out.below hBl).get hlt
      have HGr : Hid (∀ W, Calls Try.prog 17 #[.agg #[.slice t.A t.b.length t.c, .int .i64 t.n, .int .i64 t.d]] W fun e w' => e = .returned (.bool (decide (300 < t.b.length))) ∧ Below W.heap.size W w') := fun W => tGreat_any W t.A t.b.length t.c t.n t.d
      rcases Nat.lt_or_ge 300 t.b.length with h3 | h3
      · rw [decide_eq_true h3] at HGr
        go_wp2_with (first
          | (go_at_call 17; refine (HGr.out _).mono ?_; rintro x w6 ⟨rfl, hB6⟩)
          | (go_at_call 18; refine (tokLives _).mono ?_; rintro x w7 ⟨rfl, hB7⟩))
        go_ret
        exact ⟨rfl, (hBl.trans (hB6.mono hbl2)).trans (hB7.mono (Nat.le_trans hbl2 hB6.size))⟩
      · rw [decide_eq_false (by omega)] at HGr
        have HM2 : Hid (∀ t' ∈ L.take (k + 1), t'.b.length ≤ 300) := fun t' ht' => by
          rw [List.take_succ_eq_append_getElem hlt] at ht'
          rcases List.mem_append.1 ht' with h | h
          · exact HM.out t' h
          · simp only [List.mem_singleton] at h
            have e : L[k] = t := (List.getElem?_eq_some_iff.1 ht).2
            rw [h, e]; exact h3
        go_wp2_with (go_at_call 17; refine (HGr.out _).mono ?_; rintro x w6 ⟨rfl, hB6⟩)
        go_roundw
        case rel => exact ⟨k + 1, by omega, by go_num, hBl.trans (hB6.mono hbl2), HM2⟩
        case measure => simp [intOf]; omega
    · obtain rfl : k = L.length := by omega
      rw [List.take_of_length_le (Nat.le_refl _)] at HM
      have HAB := Lib.hid (HA.out.below hBl)
      rcases hall : L.all Tk.may
      · have hlp : (0 : Int) < L.length := by
          have : L ≠ [] := by rintro rfl; cases hall
          have := List.length_pos_iff.2 this
          omega
        have HP := Lib.hid (tPut_no (c := c) HAB.out hbl2 (by omega) HM.out hall)
        clear hall
        go_wp2_with (go_at_call 35; refine HP.out.mono ?_; rintro x w2 ⟨rfl, hB2⟩)
        have hbb : Below w.heap.size w w2 := hBl.trans (hB2.mono hbl2)
        clear HP HAB hB2
        go_loopw [8, 9] (fun at' i wr => at' = .int .i64 0 ∧ i = .int .i64 0 ∧ Below w.heap.size w wr) (fun _ _ _ => 1)
        case atStart => exact ⟨rfl, rfl, hbb⟩
        case round =>
          obtain ⟨rfl, rfl, hb3⟩ := hrel
          clear hbb
          go_wp2
          go_loopw [13] (fun i wi => ∃ k : Nat, k ≤ L.length ∧ i = .int .i64 k ∧ Below w.heap.size w wi) (fun i _ => L.length - (intOf i).toNat)
          case atStart => exact ⟨0, Nat.zero_le _, rfl, hb3⟩
          case round =>
            clear hb3
            obtain ⟨wo, rfl⟩ : ∃ wo : World, wo = wr := ⟨_, rfl⟩
            obtain ⟨k, hk, rfl, hb4⟩ := hrel
            have hbl4 := hb4.size
            rcases Nat.lt_or_ge k L.length with hlt | hge
            · obtain ⟨t, b, o, ht, rfl, hbB, hc1, hc2, hc3, hR⟩ := (HA.out.below hb4).get hlt
              have h300 := HM.out t (List.mem_of_getElem? ht)
              have HG := Lib.hid (tGrow_any (c := c2) (c2 := t.c) (n := t.n) (d := t.d) (HB0.out.below hb4) hbl4 hR hbl4 (by omega) h300)
              have HSz := Lib.hid (fun W => tSize_any W t.A t.b.length t.c t.n t.d (by omega))
              have hk2 : (k : Int) < L.length := by omega
              rcases Nat.eq_zero_or_pos (growErr b0.length t.b.length t.n t.d) with he | he
              · obtain ⟨q1, q2, q3⟩ := growTo_len he
                have hs1 := size_pos (may_of_err he)
                have HT := Lib.hid ht
                rw [he] at HG
                have Q3 := Lib.hid q3
                generalize growTo b0 t.b t.n t.d = G at *
                generalize hsz : sizeT t.b.length t.n t.d = sz at *
                have hsz300 : sz ≤ 1000 := by
                  rw [← hsz]
                  unfold sizeT
                  split
                  · rename_i hm
                    have := mayT_bd hm
                    omega
                  · omega
                obtain ⟨tA, tc, tb, tn, td⟩ := t
                simp only at *
                have HQ1 := Lib.hid q1
                have HQ2 := Lib.hid q2
                have hgl : 0 < G.length := by omega
                have hGb : G.length ≤ 7000 := by omega
                have hle0 : b0.length ≤ G.length := by omega
                have hq : (b0.length : Int) + (sz : Int) = (G.length : Int) := by omega
                have hqw : IntKind.i64.wrap (G.length : Int) = (G.length : Int) := IntWalk.i64_in _ (by omega)
                clear ht hsz he q3 hR h300 q1 q2
                go_upto_region 24 with (go_at_call 19; refine HG.out.mono ?_; rintro x w5 ⟨A5, c5, rfl, hO5, hB5⟩)
                obtain ⟨g5, rfl, hg5, hg5', hc5, -, -, -⟩ := hO5.at_ hgl
                have hb5 : Below w.heap.size w w5 := hb4.trans (hB5.mono hbl4)
                have hbl5 := hb5.size
                have hbc : b0.length ≤ c5 := by omega
                have HS : Hid (∀ W, Below w5.heap.size w5 W → W.cell? ⟨b, o + k * 3, none⟩ = some (.slice tA tb.length tc) ∧ W.cell? ⟨b, o + k * 3 + 1, none⟩ = some (.int .i64 tn) ∧ W.cell? ⟨b, o + k * 3 + 2, none⟩ = some (.int .i64 td) ∧ (convert 22 9 (.slice (some ⟨g5, 0, none⟩) b0.length c5)).run Try.prog W = .ok (.string ⟨b0.toArray⟩) W ∧ (convert 22 9 (.slice A2 b0.length c2)).run Try.prog W = .ok (.string ⟨b0.toArray⟩) W) := fun W hb => by
                  have hbw := hb5.trans (hb.mono hbl5)
                  obtain ⟨b', o', e', hbB', k1, k2, k3, -⟩ := HA.out.below hbw k _ HT.out
                  obtain ⟨rfl, rfl⟩ : b = b' ∧ o = o' := by simpa using e'
                  have hr := ((hO5.below hb).rd).take b0.length
                  rw [HQ2.out] at hr
                  exact ⟨k1, k2, k3, run_string hr, run_string (HB0.out.below hbw)⟩
                have HO5 := Lib.hid hO5
                have HB5 := Lib.hid hb5
                clear hO5 hB5 hb5 hc1 hc2 hc3
                go_region_held3 (fun W => W.cell? ⟨b, o + k * 3, none⟩ = some (.slice tA tb.length tc) ∧ W.cell? ⟨b, o + k * 3 + 1, none⟩ = some (.int .i64 tn) ∧ W.cell? ⟨b, o + k * 3 + 2, none⟩ = some (.int .i64 td) ∧ (convert 22 9 (.slice (some ⟨g5, 0, none⟩) b0.length c5)).run Try.prog W = .ok (.string ⟨b0.toArray⟩) W ∧ (convert 22 9 (.slice A2 b0.length c2)).run Try.prog W = .ok (.string ⟨b0.toArray⟩) W) (first | exact HS.out _ (Below.refl _ _) | exact HS.out _ (below_drew1 _) | exact HS.out _ ((below_drew1 _).trans (hB6.mono (Nat.le_refl _)))) (first
                  | (go_at_call 34; refine (HSz.out _).mono ?_; rintro x w6 ⟨rfl, hB6⟩))
                clear hq hqw
                have hb6 : Below w5.heap.size w5 w6 := (below_drew1 _).trans (hB6.mono (Nat.le_refl _))
                have HO6 := Lib.hid (HO5.out.below hb6)
                have HB6 := Lib.hid (HB5.out.trans (hb6.mono hbl5))
                clear HO5 HS hb6 hB6 HB5
                go_wp2
                go_loopw [16] (fun j wj => ∃ m : Nat, b0.length ≤ m ∧ m ≤ G.length ∧ j = .int .i64 m ∧ Below w.heap.size w wj ∧ OwnY wj wo.heap.size (.slice (some ⟨g5, 0, none⟩) G.length c5) G) (fun j _ => G.length - (intOf j).toNat)
                case atStart => exact ⟨b0.length, Nat.le_refl _, hle0, rfl, HB6.out, HO6.out⟩
                case round =>
                  clear HO6 HB6
                  obtain ⟨wi, rfl⟩ : ∃ wi : World, wi = wr := ⟨_, rfl⟩
                  obtain ⟨m, hm1, hm2, rfl, hbi, hOi⟩ := hrel
                  obtain ⟨b', o', e', hbB', hc1, hc2, hc3, -⟩ := HA.out.below hbi k _ HT.out
                  obtain ⟨rfl, rfl⟩ : b = b' ∧ o = o' := by simpa using e'
                  have HBi := Lib.hid hbi
                  have HOi := Lib.hid hOi
                  rcases Nat.lt_or_ge m G.length with hml | hml
                  · have hmi : (m : Int) < G.length := by omega
                    rcases Int.lt_or_le 0 td with htd | htd
                    · obtain ⟨z1, z2⟩ := Q3.out m hm1 hml htd
                      obtain ⟨d, rfl⟩ := Int.eq_ofNat_of_zero_le (show 0 ≤ td by omega)
                      simp only [Int.toNat_natCast] at z2
                      obtain ⟨q, hq, hqi⟩ : ∃ q : Nat, m - d = q ∧ (m : Int) - (d : Int) = (q : Int) := ⟨m - d, rfl, by omega⟩
                      have hql : q < G.length := by omega
                      have hqli : (q : Int) < G.length := by omega
                      rw [hq] at z2
                      obtain ⟨g5', hge, _, _, _, -, hcell, -⟩ := hOi.at_ hgl
                      obtain rfl : g5 = g5' := by simpa using hge
                      have k1 := hcell m hml
                      have k2 := hcell q hql
                      rw [z2] at k1
                      generalize G[q]?.getD 0 = x at *
                      have hmd : decide ((m : Int) < (d : Int)) = false := decide_eq_false (by omega)
                      have hmd2 : decide (m < d) = false := decide_eq_false (by omega)
                      have hmd3 : (d : Int) ≤ (m : Int) := by omega
                      clear hbi hOi z2 hge hcell hq z1
                      go_upto_region 29 with fail
                      go_quiet (fail)
                      go_wp2
                      go_roundw
                      case rel => exact ⟨m + 1, by omega, by omega, by go_num, bdrew HBi.out _, HOi.out.below (bdrew (Below.refl _ _) _)⟩
                      case measure => simp [intOf]; omega
                    · clear hbi hOi
                      go_wp2
                      go_roundw
                      case rel => exact ⟨k + 1, by omega, by go_num, HBi.out⟩
                      case measure => simp [intOf]; omega
                  · obtain rfl : m = G.length := by omega
                    clear hbi hOi
                    go_wp2
                    go_roundw
                    case rel => exact ⟨k + 1, by omega, by go_num, HBi.out⟩
                    case measure => simp [intOf]; omega
              · have hne : (((growErr b0.length t.b.length t.n t.d : Nat) : Int) != 0) = true := bne_iff_ne.2 (by omega)
                generalize growErr b0.length t.b.length t.n t.d = E at *
                generalize growTo b0 t.b t.n t.d = G at *
                obtain ⟨tA, tc, tb, tn, td⟩ := t
                simp only at *
                clear ht hR h300
                go_wp2_with (go_at_call 19; refine HG.out.mono ?_; rintro x w5 ⟨A5, c5, rfl, hO5, hB5⟩)
                go_roundw
                case rel => exact ⟨k + 1, by omega, by go_num, hb4.trans (hB5.mono hbl4)⟩
                case measure => simp [intOf]; omega
            · go_wp2_with (go_at_call 18; refine (tokLives _).mono ?_; rintro x w7 ⟨rfl, hB7⟩)
              go_ret
              exact ⟨rfl, hb4.trans (hB7.mono hbl4)⟩
      · have HP := Lib.hid (tPut_yes (c := c) HAB.out hbl2 (by omega) HM.out hall)
        have hpl : (putAll L).length ≤ 129 * 60 := Nat.le_trans (putAll_len fun t ht => List.all_eq_true.1 hall t ht) (Nat.mul_le_mul_left _ hl)
        have HAll := Lib.hid hall
        clear hall
        go_wp2_with (go_at_call 35; refine HP.out.mono ?_; rintro x w2 ⟨Ap, cp, rfl, hO2, hB2⟩)
        have hbb : Below w.heap.size w w2 := hBl.trans (hB2.mono hbl2)
        have hcp : (putAll L).length ≤ cp := by
          rcases Nat.eq_zero_or_pos (putAll L).length with h | h
          · omega
          · obtain ⟨_, _, _, _, h5, _⟩ := hO2.at_ h
            exact h5
        have HO2 := Lib.hid hO2
        clear HP HAB hB2 hO2
        go_loopw [8, 9] (fun at' i wr => ∃ k : Nat, k ≤ L.length ∧ i = .int .i64 k ∧ at' = .int .i64 ((putAll (L.take k)).length : Nat) ∧ Below w2.heap.size w2 wr) (fun _ i _ => L.length - (intOf i).toNat)
        case atStart => exact ⟨0, Nat.zero_le _, rfl, rfl, Below.refl _ _⟩
        case round =>
          obtain ⟨k, hk, rfl, rfl, hB3⟩ := hrel
          have hb3 : Below w.heap.size w wr := hbb.trans (hB3.mono hbb.size)
          have hbl3 := hb3.size
          rcases Nat.lt_or_ge k L.length with hlt | hge
          · obtain ⟨t, b, o, ht, rfl, hbB, hc1, hc2, hc3, hR⟩ := (HA.out.below hb3).get hlt
            have hm := List.all_eq_true.1 HAll.out t (List.mem_of_getElem? ht)
            have HOf := Lib.hid (off_succ ht)
            have hpp := put_pos t
            have hsp := putAll_split ht
            have htk : takeF (putAll L) (((putAll (L.take k)).length : Nat) : Int) = ⟨t.b, t.n, t.d, ((putAll (L.take (k + 1))).length : Nat), 0⟩ := by
              rw [off_succ ht, hsp]
              exact takeF_put hm
            have hO3 := HO2.out.below hB3
            have HT := Lib.hid (tTake_any (c := cp) hO3.rd (Nat.le_refl _) (by omega) hcp (((putAll (L.take k)).length : Nat) : Int))
            rw [htk] at HT
            have hof : (putAll (L.take k)).length ≤ 129 * 60 := by
              have : (putAll L).length = (putAll (L.take k)).length + (t.put.length + (putAll (L.drop (k + 1))).length) := by rw [hsp, List.length_append, List.length_append]
              omega
            have hpm := put_len hm
            have HR := Lib.hid hR
            generalize (putAll (L.take k)).length = off at *
            have hlt2 : off < (putAll (L.take (k + 1))).length := by have := HOf.out; omega
            generalize hoo : (putAll (L.take (k + 1))).length = off2 at *
            have HOO := Lib.hid hoo
            clear hoo
            clear htk hsp hm hO3 hR ht hpp hpm HOf
            have hle : decide ((off2 : Int) ≤ (off : Int)) = false := decide_eq_false (by omega)
            have hle2 : decide (off2 ≤ off) = false := decide_eq_false (by omega)
            obtain ⟨tA, tc, tb, tn, td⟩ := t
            simp only at *
            go_upto_region 14 with (go_at_call 36; refine HT.out.mono ?_; rintro x w4 ⟨A4, c4, rfl, hr4, hb4⟩)
            have hb5 : Below wr.heap.size wr (w4.alloc (.cells #[.slice A4 tb.length c4, .int .i64 tn, .int .i64 td] 24)) := hb4.alloc hb4.size _
            obtain ⟨f0, f1, f2⟩ := Bk3 (Bk.new w4 24 #[.slice A4 tb.length c4, .int .i64 tn, .int .i64 td])
            have g0 := (hb5.cell (p := ⟨b, o + k * 3, none⟩) (by simp; omega)).trans hc1
            have g1 := (hb5.cell (p := ⟨b, o + k * 3 + 1, none⟩) (by simp; omega)).trans hc2
            have g2 := (hb5.cell (p := ⟨b, o + k * 3 + 2, none⟩) (by simp; omega)).trans hc3
            have hbb4 : b < (w4.alloc (.cells #[.slice A4 tb.length c4, .int .i64 tn, .int .i64 td] 24)).heap.size := by have := hb5.size; omega
            have HS : Hid (∀ W, W = (w4.alloc (.cells #[.slice A4 tb.length c4, .int .i64 tn, .int .i64 td] 24)).drewN 1 → Calls Try.prog 38 #[.agg #[.slice A4 tb.length c4, .int .i64 tn, .int .i64 td], .agg #[.slice tA tb.length tc, .int .i64 tn, .int .i64 td]] W fun e w' => e = .returned (.bool true) ∧ Below W.heap.size W w') := fun W hW => by
              subst hW
              exact rSame_yes (B := w4.heap.size) (B2 := w.heap.size) ((hr4.below ((Below.refl w4.heap.size w4).alloc (Nat.le_refl _) _)).drewN 1) (by simp [World.drewN]) ((HR.out.below' hb5 hbl3).drewN 1) (by have := hb5.size; simp [World.drewN] at this ⊢; omega)
            have HB5 := Lib.hid hb5
            have hS0 : (w4.alloc (.cells #[.slice A4 tb.length c4, .int .i64 tn, .int .i64 td] 24)).cell? ⟨w4.heap.size, 0, none⟩ = some (.slice A4 tb.length c4) ∧ (w4.alloc (.cells #[.slice A4 tb.length c4, .int .i64 tn, .int .i64 td] 24)).cell? ⟨w4.heap.size, 1, none⟩ = some (.int .i64 tn) ∧ (w4.alloc (.cells #[.slice A4 tb.length c4, .int .i64 tn, .int .i64 td] 24)).cell? ⟨w4.heap.size, 2, none⟩ = some (.int .i64 td) ∧ (w4.alloc (.cells #[.slice A4 tb.length c4, .int .i64 tn, .int .i64 td] 24)).cell? ⟨b, o + k * 3, none⟩ = some (.slice tA tb.length tc) ∧ (w4.alloc (.cells #[.slice A4 tb.length c4, .int .i64 tn, .int .i64 td] 24)).cell? ⟨b, o + k * 3 + 1, none⟩ = some (.int .i64 tn) ∧ (w4.alloc (.cells #[.slice A4 tb.length c4, .int .i64 tn, .int .i64 td] 24)).cell? ⟨b, o + k * 3 + 2, none⟩ = some (.int .i64 td) := ⟨f0, f1, f2, g0, g1, g2⟩
            have HS0 := Lib.hid hS0
            have hbi : w4.heap.size < (w4.alloc (.cells #[.slice A4 tb.length c4, .int .i64 tn, .int .i64 td] 24)).heap.size := by simp
            have HS5 : Hid (∀ w5, Below ((w4.alloc (.cells #[.slice A4 tb.length c4, .int .i64 tn, .int .i64 td] 24)).drewN 1).heap.size ((w4.alloc (.cells #[.slice A4 tb.length c4, .int .i64 tn, .int .i64 td] 24)).drewN 1) w5 → w5.cell? ⟨w4.heap.size, 0, none⟩ = some (.slice A4 tb.length c4) ∧ w5.cell? ⟨w4.heap.size, 1, none⟩ = some (.int .i64 tn) ∧ w5.cell? ⟨w4.heap.size, 2, none⟩ = some (.int .i64 td) ∧ w5.cell? ⟨b, o + k * 3, none⟩ = some (.slice tA tb.length tc) ∧ w5.cell? ⟨b, o + k * 3 + 1, none⟩ = some (.int .i64 tn) ∧ w5.cell? ⟨b, o + k * 3 + 2, none⟩ = some (.int .i64 td)) := fun w5 hb => ⟨(hb.cell (p := ⟨w4.heap.size, 0, none⟩) hbi).trans f0, (hb.cell (p := ⟨w4.heap.size, 1, none⟩) hbi).trans f1, (hb.cell (p := ⟨w4.heap.size, 2, none⟩) hbi).trans f2, (hb.cell (p := ⟨b, o + k * 3, none⟩) hbb4).trans g0, (hb.cell (p := ⟨b, o + k * 3 + 1, none⟩) hbb4).trans g1, (hb.cell (p := ⟨b, o + k * 3 + 2, none⟩) hbb4).trans g2⟩
            clear f0 f1 f2 g0 g1 g2 hS0 hb4 hb5 hr4 hc1 hc2 hc3
            have hk2 : (k : Int) < L.length := by omega
            go_region_held3 (fun W => W.cell? ⟨w4.heap.size, 0, none⟩ = some (.slice A4 tb.length c4) ∧ W.cell? ⟨w4.heap.size, 1, none⟩ = some (.int .i64 tn) ∧ W.cell? ⟨w4.heap.size, 2, none⟩ = some (.int .i64 td) ∧ W.cell? ⟨b, o + k * 3, none⟩ = some (.slice tA tb.length tc) ∧ W.cell? ⟨b, o + k * 3 + 1, none⟩ = some (.int .i64 tn) ∧ W.cell? ⟨b, o + k * 3 + 2, none⟩ = some (.int .i64 td)) (first | exact HS0.out | exact HS5.out _ hB5) (first
              | (go_at_call 38; refine (HS.out _ rfl).mono ?_; rintro x w5 ⟨rfl, hB5⟩))
            go_wp2
            go_roundw
            case rel => exact ⟨k + 1, by omega, by go_num, by rw [HOO.out], bchain hB3 HB5.out hB5⟩
            case measure => simp [intOf]; omega
          · obtain rfl : k = L.length := by omega
            rw [List.take_of_length_le (Nat.le_refl _)]
            clear HO2 HAll hcp hpl hB3 hbb
            go_wp2
            go_loopw [13] (fun i wi => ∃ k : Nat, k ≤ L.length ∧ i = .int .i64 k ∧ Below w.heap.size w wi) (fun i _ => L.length - (intOf i).toNat)
            case atStart => exact ⟨0, Nat.zero_le _, rfl, hb3⟩
            case round =>
              clear hb3
              obtain ⟨wo, rfl⟩ : ∃ wo : World, wo = wr := ⟨_, rfl⟩
              obtain ⟨k, hk, rfl, hb4⟩ := hrel
              have hbl4 := hb4.size
              rcases Nat.lt_or_ge k L.length with hlt | hge
              · obtain ⟨t, b, o, ht, rfl, hbB, hc1, hc2, hc3, hR⟩ := (HA.out.below hb4).get hlt
                have h300 := HM.out t (List.mem_of_getElem? ht)
                have HG := Lib.hid (tGrow_any (c := c2) (c2 := t.c) (n := t.n) (d := t.d) (HB0.out.below hb4) hbl4 hR hbl4 (by omega) h300)
                have HSz := Lib.hid (fun W => tSize_any W t.A t.b.length t.c t.n t.d (by omega))
                have hk2 : (k : Int) < L.length := by omega
                rcases Nat.eq_zero_or_pos (growErr b0.length t.b.length t.n t.d) with he | he
                · obtain ⟨q1, q2, q3⟩ := growTo_len he
                  have hs1 := size_pos (may_of_err he)
                  have HT := Lib.hid ht
                  rw [he] at HG
                  have Q3 := Lib.hid q3
                  generalize growTo b0 t.b t.n t.d = G at *
                  generalize hsz : sizeT t.b.length t.n t.d = sz at *
                  have hsz300 : sz ≤ 1000 := by
                    rw [← hsz]
                    unfold sizeT
                    split
                    · rename_i hm
                      have := mayT_bd hm
                      omega
                    · omega
                  obtain ⟨tA, tc, tb, tn, td⟩ := t
                  simp only at *
                  have HQ1 := Lib.hid q1
                  have HQ2 := Lib.hid q2
                  have hgl : 0 < G.length := by omega
                  have hGb : G.length ≤ 7000 := by omega
                  have hle0 : b0.length ≤ G.length := by omega
                  have hq : (b0.length : Int) + (sz : Int) = (G.length : Int) := by omega
                  have hqw : IntKind.i64.wrap (G.length : Int) = (G.length : Int) := IntWalk.i64_in _ (by omega)
                  clear ht hsz he q3 hR h300 q1 q2
                  go_upto_region 24 with (go_at_call 19; refine HG.out.mono ?_; rintro x w5 ⟨A5, c5, rfl, hO5, hB5⟩)
                  obtain ⟨g5, rfl, hg5, hg5', hc5, -, -, -⟩ := hO5.at_ hgl
                  have hb5 : Below w.heap.size w w5 := hb4.trans (hB5.mono hbl4)
                  have hbl5 := hb5.size
                  have hbc : b0.length ≤ c5 := by omega
                  have HS : Hid (∀ W, Below w5.heap.size w5 W → W.cell? ⟨b, o + k * 3, none⟩ = some (.slice tA tb.length tc) ∧ W.cell? ⟨b, o + k * 3 + 1, none⟩ = some (.int .i64 tn) ∧ W.cell? ⟨b, o + k * 3 + 2, none⟩ = some (.int .i64 td) ∧ (convert 22 9 (.slice (some ⟨g5, 0, none⟩) b0.length c5)).run Try.prog W = .ok (.string ⟨b0.toArray⟩) W ∧ (convert 22 9 (.slice A2 b0.length c2)).run Try.prog W = .ok (.string ⟨b0.toArray⟩) W) := fun W hb => by
                    have hbw := hb5.trans (hb.mono hbl5)
                    obtain ⟨b', o', e', hbB', k1, k2, k3, -⟩ := HA.out.below hbw k _ HT.out
                    obtain ⟨rfl, rfl⟩ : b = b' ∧ o = o' := by simpa using e'
                    have hr := ((hO5.below hb).rd).take b0.length
                    rw [HQ2.out] at hr
                    exact ⟨k1, k2, k3, run_string hr, run_string (HB0.out.below hbw)⟩
                  have HO5 := Lib.hid hO5
                  have HB5 := Lib.hid hb5
                  clear hO5 hB5 hb5 hc1 hc2 hc3
                  go_region_held3 (fun W => W.cell? ⟨b, o + k * 3, none⟩ = some (.slice tA tb.length tc) ∧ W.cell? ⟨b, o + k * 3 + 1, none⟩ = some (.int .i64 tn) ∧ W.cell? ⟨b, o + k * 3 + 2, none⟩ = some (.int .i64 td) ∧ (convert 22 9 (.slice (some ⟨g5, 0, none⟩) b0.length c5)).run Try.prog W = .ok (.string ⟨b0.toArray⟩) W ∧ (convert 22 9 (.slice A2 b0.length c2)).run Try.prog W = .ok (.string ⟨b0.toArray⟩) W) (first | exact HS.out _ (Below.refl _ _) | exact HS.out _ (below_drew1 _) | exact HS.out _ ((below_drew1 _).trans (hB6.mono (Nat.le_refl _)))) (first
                    | (go_at_call 34; refine (HSz.out _).mono ?_; rintro x w6 ⟨rfl, hB6⟩))
                  clear hq hqw
                  have hb6 : Below w5.heap.size w5 w6 := (below_drew1 _).trans (hB6.mono (Nat.le_refl _))
                  have HO6 := Lib.hid (HO5.out.below hb6)
                  have HB6 := Lib.hid (HB5.out.trans (hb6.mono hbl5))
                  clear HO5 HS hb6 hB6 HB5
                  go_wp2
                  go_loopw [16] (fun j wj => ∃ m : Nat, b0.length ≤ m ∧ m ≤ G.length ∧ j = .int .i64 m ∧ Below w.heap.size w wj ∧ OwnY wj wo.heap.size (.slice (some ⟨g5, 0, none⟩) G.length c5) G) (fun j _ => G.length - (intOf j).toNat)
                  case atStart => exact ⟨b0.length, Nat.le_refl _, hle0, rfl, HB6.out, HO6.out⟩
                  case round =>
                    clear HO6 HB6
                    obtain ⟨wi, rfl⟩ : ∃ wi : World, wi = wr := ⟨_, rfl⟩
                    obtain ⟨m, hm1, hm2, rfl, hbi, hOi⟩ := hrel
                    obtain ⟨b', o', e', hbB', hc1, hc2, hc3, -⟩ := HA.out.below hbi k _ HT.out
                    obtain ⟨rfl, rfl⟩ : b = b' ∧ o = o' := by simpa using e'
                    have HBi := Lib.hid hbi
                    have HOi := Lib.hid hOi
                    rcases Nat.lt_or_ge m G.length with hml | hml
                    · have hmi : (m : Int) < G.length := by omega
                      rcases Int.lt_or_le 0 td with htd | htd
                      · obtain ⟨z1, z2⟩ := Q3.out m hm1 hml htd
                        obtain ⟨d, rfl⟩ := Int.eq_ofNat_of_zero_le (show 0 ≤ td by omega)
                        simp only [Int.toNat_natCast] at z2
                        obtain ⟨q, hq, hqi⟩ : ∃ q : Nat, m - d = q ∧ (m : Int) - (d : Int) = (q : Int) := ⟨m - d, rfl, by omega⟩
                        have hql : q < G.length := by omega
                        have hqli : (q : Int) < G.length := by omega
                        rw [hq] at z2
                        obtain ⟨g5', hge, _, _, _, -, hcell, -⟩ := hOi.at_ hgl
                        obtain rfl : g5 = g5' := by simpa using hge
                        have k1 := hcell m hml
                        have k2 := hcell q hql
                        rw [z2] at k1
                        generalize G[q]?.getD 0 = x at *
                        have hmd : decide ((m : Int) < (d : Int)) = false := decide_eq_false (by omega)
                        have hmd2 : decide (m < d) = false := decide_eq_false (by omega)
                        have hmd3 : (d : Int) ≤ (m : Int) := by omega
                        clear hbi hOi z2 hge hcell hq z1
                        go_upto_region 29 with fail
                        go_quiet (fail)
                        go_wp2
                        go_roundw
                        case rel => exact ⟨m + 1, by omega, by omega, by go_num, bdrew HBi.out _, HOi.out.below (bdrew (Below.refl _ _) _)⟩
                        case measure => simp [intOf]; omega
                      · clear hbi hOi
                        go_wp2
                        go_roundw
                        case rel => exact ⟨k + 1, by omega, by go_num, HBi.out⟩
                        case measure => simp [intOf]; omega
                    · obtain rfl : m = G.length := by omega
                      clear hbi hOi
                      go_wp2
                      go_roundw
                      case rel => exact ⟨k + 1, by omega, by go_num, HBi.out⟩
                      case measure => simp [intOf]; omega
                · have hne : (((growErr b0.length t.b.length t.n t.d : Nat) : Int) != 0) = true := bne_iff_ne.2 (by omega)
                  generalize growErr b0.length t.b.length t.n t.d = E at *
                  generalize growTo b0 t.b t.n t.d = G at *
                  obtain ⟨tA, tc, tb, tn, td⟩ := t
                  simp only at *
                  clear ht hR h300
                  go_wp2_with (go_at_call 19; refine HG.out.mono ?_; rintro x w5 ⟨A5, c5, rfl, hO5, hB5⟩)
                  go_roundw
                  case rel => exact ⟨k + 1, by omega, by go_num, hb4.trans (hB5.mono hbl4)⟩
                  case measure => simp [intOf]; omega
              · go_wp2_with (go_at_call 18; refine (tokLives _).mono ?_; rintro x w7 ⟨rfl, hB7⟩)
                go_ret
                exact ⟨rfl, hb4.trans (hB7.mono hbl4)⟩
end Go.Proofs.YtckdellcnoojaaaRRR
