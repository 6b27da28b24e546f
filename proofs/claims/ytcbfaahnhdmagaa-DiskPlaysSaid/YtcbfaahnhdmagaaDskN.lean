/- The walk of gunnylaw08.DiskPlays. -/
import Derived.Test.YtcbfaahnhdmagaaDskM
namespace Go.Proofs.Ytcbfaahnhdmagaa
open Go.RowKit

set_option maxRecDepth 100000 in
set_option maxHeartbeats 8000000 in
theorem plays_any {w : World} {A A2 : Option Addr} {c c2 : Nat} {l : List Bool} {L : List Dd} (m : Nat) (hm : m ≤ 1024) (hA : RdB w w.heap.size A l) (hl : l.length ≤ 500) (h : DdsAt w w.heap.size A2 L) (hg : greatD L = false) :
    Calls Try.prog 8 #[.int .i64 m, .slice A l.length c, .slice A2 L.length c2] w fun e w' => e = .returned (.bool true) ∧ Below w.heap.size w w' := by
  obtain ⟨hL, hL6⟩ := greatD_no hg
  have HA := Lib.hid h
  have HC := Lib.hid hA
  have HG : Hid (∀ W, Below w.heap.size w W → Calls Try.prog 17 #[.slice A2 L.length c2] W fun e w' => e = .returned (.bool false) ∧ W = w') := fun W hW => by
    have := dGreat_any (c := c2) (h.below hW) (by omega)
    rwa [hg] at this
  have HL6 := Lib.hid hL6
  clear h hA hg hL6
  go_enter Try.func8, Try.ntmps8
  go_wp2_with fail
  refine (dRead_nil _).mono ?_
  rintro e w1 ⟨rfl, rfl⟩
  go_wp2_with fail
  refine (filled_any _ 1).mono ?_
  rintro e w1 ⟨rfl, hO1, hB1⟩
  go_wp2_with fail
  refine (dWrite_nil _ _ _ _).mono ?_
  rintro e w2 ⟨rfl, rfl⟩
  go_wp2_with fail
  refine (dMany_nil _).mono ?_
  rintro e w2 ⟨rfl, rfl⟩
  go_wp2_with fail
  refine (dPeek_nil _).mono ?_
  rintro e w2 ⟨rfl, rfl⟩
  have HB1 := Lib.hid hB1
  clear hO1 hB1
  go_wp2_with fail
  refine (HG.out _ HB1.out).mono ?_
  rintro e w2 ⟨rfl, rfl⟩
  go_wp2_with fail
  refine (dNew_any (HC.out.below HB1.out) HB1.out.size (by omega) m hm).mono ?_
  rintro e w2 ⟨S, gd, gl, gb, rfl, hD, hnew, hB2⟩
  have hR : DkRun w1 w2 S gd gl gb l 0 m (List.replicate (512 * m) 0) := ⟨hD, hnew, hB2⟩
  have HM := Lib.hid (dMany_any hD)
  have HR := Lib.hid hR
  have hmi : (m : Int) ≤ 1024 := by omega
  clear hD hnew hB2 hR HG
  go_wp2_with fail
  refine HM.out.mono ?_
  rintro e w3 ⟨rfl, rfl⟩
  clear HM
  go_upto_region 13 with fail
  obtain ⟨w3, hw3⟩ : ∃ w3, w3 = w2.alloc (.cells #[.int .i64 m, .slice A l.length c, .int .i64 0, .slice none 0 0] 52) := ⟨_, rfl⟩
  have hP : PlRun w1 w3 S gd gl gb w2.heap.size (w2.heap.size + 1) A c l 0 m (List.replicate (512 * m) 0) none 0 [] := by rw [hw3]; exact PlRun.start HR.out
  rw [← hw3]
  clear hw3 HR
  generalize List.replicate (512 * m) (0 : UInt8) = bs0 at hP
  generalize w2.heap.size + 1 = base at hP
  generalize w2.heap.size = gx at hP ⊢
  go_wp2
  go_loopw [13] (fun iv wr => ∃ (k a : Nat) (bs : List UInt8) (AL : Option Addr) (cL : Nat) (rs : List Wr), k ≤ L.length ∧ a ≤ k ∧ rs.length ≤ k ∧ iv = .int .i64 k ∧ PlRun w1 wr S gd gl gb gx base A c l a m bs AL cL rs) (fun iv _ => L.length - (intOf iv).toNat)
  case atStart => exact ⟨0, 0, bs0, none, 0, [], Nat.zero_le _, Nat.le_refl _, Nat.le_refl _, rfl, hP⟩
  case round =>
    clear hP
    obtain ⟨k, a, bs, AL, cL, rs, hk, hak, hrk, rfl, hP⟩ := hrel
    have HP := Lib.hid hP
    have hz1 := hP.dk.below.size
    have hzw := HB1.out.size
    rcases Nat.lt_or_ge k L.length with hlt | hge
    · obtain ⟨d, b, o, hd, rfl, hbB, hc0, hc1, hc2, hc3, hY⟩ := (HA.out.below (HB1.out.trans (hP.dk.below.mono hzw))).get hlt
      have hdb := HL6.out d (List.mem_of_getElem? hd)
      obtain ⟨kd, nd, fd, dA, dc, db⟩ := d
      simp only at hc0 hc1 hc2 hc3 hY hdb
      have HS : Hid (∀ W, Below w1.heap.size w1 W → W.cell? ⟨b, o + k * 4, none⟩ = some (.int .i64 kd) ∧ W.cell? ⟨b, o + k * 4 + 1, none⟩ = some (.int .i64 nd)) := fun W hW =>
        ⟨(hW.cell (p := ⟨b, _, none⟩) (by show b < _; omega)).trans ((hP.dk.below.cell (p := ⟨b, _, none⟩) (by show b < _; omega)).symm.trans hc0), (hW.cell (p := ⟨b, _, none⟩) (by show b < _; omega)).trans ((hP.dk.below.cell (p := ⟨b, _, none⟩) (by show b < _; omega)).symm.trans hc1)⟩
      have HYd : Hid (YAt wr wr.heap.size (fun q => DkX S gd gb q ∨ q = gx) dA db) := ⟨hY.more (by omega), Nat.le_refl _, fun ad e h0 hx => by
        have h1 := rd_low hY ad e h0
        rcases hx with hx | hx
        · have := hP.dk.new _ hx; omega
        · have := hP.gx0; omega⟩
      obtain ⟨lw, hlw⟩ : ∃ lw, lw = if kd = 2 then List.replicate 512 fd else db := ⟨_, rfl⟩
      have hlw6 : lw.length ≤ 600 := by
        rw [hlw]
        split
        · rw [List.length_replicate]; omega
        · exact hdb
      have HLW := Lib.hid hlw
      clear hY hd hP hlw
      go_upto_if 111 with (fail)
      go_cut [14] (fun v wx => ∃ Aw cw, v = .slice Aw lw.length cw ∧ YAt wx wx.heap.size (fun q => DkX S gd gb q ∨ q = gx) Aw lw ∧ PlRun w1 wx S gd gl gb gx base A c l a m bs AL cL rs)
      case first => as_aux_lemma =>
        by_cases h2 : kd = 2
        · have HL2 : Hid (lw = List.replicate 512 fd) := by show _ = _; rw [HLW.out, if_pos h2]
          subst h2
          go_wp2_with (go_at_call 21; refine (filled_any _ fd).mono ?_; rintro e w4 ⟨rfl, hO4, hB4⟩)
          go_meet
          rw [HL2.out]
          exact ⟨_, 512, by rw [List.length_replicate], YAt.own hO4 (fun q hq => by rcases hq with hq | rfl
                                                                                    · exact HP.out.dk.is_.lt q hq
                                                                                    · exact HP.out.var.lt), HP.out.below0 hB4⟩
        · have HL2 : Hid (lw = db) := by show _ = _; rw [HLW.out, if_neg h2]
          have hb2 : (kd == 2) = false := beq_eq_false_iff_ne.2 h2
          go_wp2
          go_meet
          rw [HL2.out]
          exact ⟨dA, dc, rfl, HYd.out, HP.out⟩
      case rest =>
        clear HYd HP hc0 hc1 hc2 hc3 hz1
        obtain ⟨Aw, cw, rfl, hYw, hP⟩ := hcut
        obtain ⟨hk0, hk1⟩ := HS.out _ hP.dk.below
        obtain ⟨w4, hw4⟩ : ∃ w4 : World, w4 = wc := ⟨_, rfl⟩
        rw [← hw4] at hYw hP hk0 hk1 ⊢
        have HP := Lib.hid hP
        have HYw := Lib.hid hYw
        have HRr : Hid (∀ W, PlRun w1 W S gd gl gb gx base A c l a m bs AL cL rs → Calls Try.prog 26 #[.agg #[.int .i64 m, .slice A l.length c, .int .i64 a, .slice AL rs.length cL], .int .i64 nd] W fun e w' => ∃ A' c', e = .returned (.tuple #[.agg #[.int .i64 m, .slice A l.length c, .int .i64 (askR m nd a), .slice AL rs.length cL], .slice A' (rdL l a m bs nd).length c', .int .i64 (rErr l a m nd)]) ∧ OwnY w' W.heap.size (.slice A' (rdL l a m bs nd).length c') (rdL l a m bs nd) ∧ Below W.heap.size W w') := fun W hW =>
          rRead_all (HC.out.below (HB1.out.trans (hW.dk.below.mono hzw))) (HB1.out.trans (hW.dk.below.mono hzw)).size hW.ref (by omega) (by omega) hW.sec nd
        have x0 : w4.cell? ⟨gx, 0, none⟩ = some (.int .i64 m) := hP.var.cell 0
        have x1 : w4.cell? ⟨gx, 1, none⟩ = some (.slice A l.length c) := hP.var.cell 1
        have x2 : w4.cell? ⟨gx, 2, none⟩ = some (.int .i64 a) := hP.var.cell 2
        have x3 : w4.cell? ⟨gx, 3, none⟩ = some (.slice AL rs.length cL) := hP.var.cell 3
        have HX : Hid (∀ W, PlRun w1 W S gd gl gb gx base A c l a m bs AL cL rs → (W.cell? ⟨gx, 0, none⟩ = some (.int .i64 m) ∧ W.cell? ⟨gx, 1, none⟩ = some (.slice A l.length c) ∧ W.cell? ⟨gx, 2, none⟩ = some (.int .i64 a) ∧ W.cell? ⟨gx, 3, none⟩ = some (.slice AL rs.length cL)) ∧ W.cell? ⟨b, o + k * 4 + 1, none⟩ = some (.int .i64 nd)) := fun W hW =>
          ⟨⟨hW.var.cell 0, hW.var.cell 1, hW.var.cell 2, hW.var.cell 3⟩, (HS.out _ hW.dk.below).2⟩
        clear hYw hP hw4
        go_upto_block 2 with (fail)
        go_cut [16] (fun _ wx => ∃ (a' : Nat) (bs' : List UInt8) (AL' : Option Addr) (cL' : Nat) (rs' : List Wr), a' ≤ k + 1 ∧ rs'.length ≤ k + 1 ∧ PlRun w1 wx S gd gl gb gx base A c l a' m bs' AL' cL' rs')
        case first => as_aux_lemma =>
          by_cases h0 : kd = 0
          · subst h0
            go_upto_region 23 with fail
            go_cut [15, 16, 17] (fun p v e wx => ∃ (g15 : Nat) (A5 : Option Addr) (c5 : Nat), p = .pointer (some ⟨g15, 0, none⟩) ∧ v = .slice A5 (rdL l a m bs nd).length c5 ∧ e = .int .i64 (rErr l a m nd) ∧ w4.heap.size ≤ g15 ∧ Below w4.heap.size w4 wx ∧ Bk wx g15 52 #[.int .i64 m, .slice A l.length c, .int .i64 (askR m nd a), .slice AL rs.length cL] ∧ OwnY wx w4.heap.size (.slice A5 (rdL l a m bs nd).length c5) (rdL l a m bs nd))
            case first => as_aux_lemma =>
              have HB0 : Hid (Below w4.heap.size w4 w4.drew) := ⟨rfl, rfl, rfl, Nat.le_refl _, fun _ _ => rfl⟩
              have HB0a : Hid (Below w4.heap.size w4 (w4.drew.alloc (.cells #[.int .i64 0, .slice none 0 0, .int .i64 0, .slice none 0 0] 52))) := HB0.out.alloc (Nat.le_refl _) _
              have HP1 : Hid (PlRun w1 w4.drew S gd gl gb gx base A c l a m bs AL cL rs) := HP.out.drewN 1
              have HPa : Hid (PlRun w1 (w4.drew.alloc (.cells #[.int .i64 0, .slice none 0 0, .int .i64 0, .slice none 0 0] 52)) S gd gl gb gx base A c l a m bs AL cL rs) := HP1.out.below0 ((Below.refl _ _).alloc (Nat.le_refl _) _)
              have HZa : Hid (Bk (w4.drew.alloc (.cells #[.int .i64 0, .slice none 0 0, .int .i64 0, .slice none 0 0] 52)) w4.heap.size 52 #[.int .i64 0, .slice none 0 0, .int .i64 0, .slice none 0 0]) := Bk.new w4.drew _ _
              have HBs : Hid (∀ W v0 v1 v2 v3, Below (w4.drew.alloc (.cells #[.int .i64 0, .slice none 0 0, .int .i64 0, .slice none 0 0] 52)).heap.size (w4.drew.alloc (.cells #[.int .i64 0, .slice none 0 0, .int .i64 0, .slice none 0 0] 52)) W → Below w4.heap.size w4 ((((W.setCell ⟨w4.heap.size, 0, none⟩ v0).setCell ⟨w4.heap.size, 1, none⟩ v1).setCell ⟨w4.heap.size, 2, none⟩ v2).setCell ⟨w4.heap.size, 3, none⟩ v3)) := fun W v0 v1 v2 v3 hW => by
                have h2 := HB0a.out.trans (hW.mono HB0a.out.size)
                exact h2.trans ((fr_set4 W w4.heap.size v0 v1 v2 v3).below h2.size fun q hq e => by omega)
              go_region_held3 (fun W => (W.cell? ⟨gx, 0, none⟩ = some (.int .i64 m) ∧ W.cell? ⟨gx, 1, none⟩ = some (.slice A l.length c) ∧ W.cell? ⟨gx, 2, none⟩ = some (.int .i64 a) ∧ W.cell? ⟨gx, 3, none⟩ = some (.slice AL rs.length cL)) ∧ W.cell? ⟨b, o + k * 4 + 1, none⟩ = some (.int .i64 nd)) (first | exact ⟨⟨x0, x1, x2, x3⟩, hk1⟩ | exact HX.out _ (HP1.out.below0 hB5) | exact HX.out _ ((HP1.out.below0 hB5).below0 ((Below.refl _ _).alloc (Nat.le_refl _) _)) | exact HX.out _ HPa.out | exact HX.out _ (HPa.out.below0 hB5) | exact HX.out _ (HP.out.below0 (HBs.out _ _ _ _ _ hB5))) (first
                | (go_at_call 26; refine (HRr.out _ HP1.out).mono ?_; rintro e w5 ⟨A5, c5, rfl, hO5, hB5⟩)
                | (go_at_call 26; refine (HRr.out _ HPa.out).mono ?_; rintro e w5 ⟨A5, c5, rfl, hO5, hB5⟩; have HZ5 := Lib.hid (HZa.out.below' hB5); have z0 : w5.cell? ⟨w4.heap.size, 0, none⟩ = some (.int .i64 0) := HZ5.out.cell 0; have z1 : w5.cell? ⟨w4.heap.size, 1, none⟩ = some (.slice none 0 0) := HZ5.out.cell 1; have z2 : w5.cell? ⟨w4.heap.size, 2, none⟩ = some (.int .i64 0) := HZ5.out.cell 2; have z3 : w5.cell? ⟨w4.heap.size, 3, none⟩ = some (.slice none 0 0) := HZ5.out.cell 3; have f0 := HZ5.out.free 0; have f1 := HZ5.out.free 1; have f2 := HZ5.out.free 2; have f3 := HZ5.out.free 3))
              · go_wp2
                go_meet
                have hB5' : Below w4.heap.size w4 w5 := ⟨hB5.os, hB5.tape, hB5.output, hB5.size, hB5.block⟩
                exact ⟨w5.heap.size, A5, c5, rfl, rfl, rfl, hB5'.size, hB5'.alloc hB5'.size _, Bk.new _ _ _, OwnY.below (OwnY.weaken hO5 (Nat.le_refl _)) ((Below.refl _ _).alloc (Nat.le_refl _) _)⟩
              · go_wp2
                go_meet
                have hza : w4.heap.size + 1 ≤ (w4.drew.alloc (.cells #[.int .i64 0, .slice none 0 0, .int .i64 0, .slice none 0 0] 52)).heap.size := by rw [World.size_alloc]; exact Nat.le_refl _
                exact ⟨w4.heap.size, A5, c5, rfl, rfl, rfl, Nat.le_refl _, HBs.out _ _ _ _ _ hB5, HZ5.out.set4 _ _ _ _, OwnY.weaken (own_fr hO5 (fr_set4 w5 w4.heap.size _ _ _ _) (fun q h1 _ h3 => by omega)) (by omega)⟩
            case rest =>
              obtain ⟨g15, A5, c5, rfl, rfl, rfl, hg15, hB10, hb15, hO10⟩ := hcut
              obtain ⟨W10, hW10⟩ : ∃ W : World, W = wc := ⟨_, rfl⟩
              rw [← hW10] at hB10 hb15 hO10 ⊢
              clear hW10
              have HP10 := Lib.hid (HP.out.below0 hB10)
              have HB10 := Lib.hid hB10
              have HO10 := Lib.hid hO10
              have hk2 := (HS.out _ HP10.out.dk.below).2
              have hbs := HP.out.hi
              have hglb : gl < base := HP.out.lo gl (.inl (.inl HP.out.dk.is_.self))
              have hgxb : gx < base := HP.out.lo gx (.inr rfl)
              have hz10 := hB10.size
              have HB15 := Lib.hid hb15
              clear hB10 hO10 hb15
              go_wp2_with fail
              refine (dRead_all HP10.out.dk.is_ (by omega) (by omega) nd).mono ?_
              rintro e w11 ⟨A11, c11, rfl, hO11, hD11, hF11⟩
              have HR11 := Lib.hid (HP10.out.dk.stepR hD11 hF11)
              have hv11 := HP10.out.var.fr hF11 (fun e => HP.out.gxX (e ▸ .inl HP.out.dk.is_.self))
              have h15 := HB15.out.fr hF11 (fun e => by omega)
              have p0 : w11.cell? ⟨g15, 0, none⟩ = some (.int .i64 m) := h15.cell 0
              have p1 : w11.cell? ⟨g15, 1, none⟩ = some (.slice A l.length c) := h15.cell 1
              have p2 : w11.cell? ⟨g15, 2, none⟩ = some (.int .i64 (askR m nd a)) := h15.cell 2
              have p3 : w11.cell? ⟨g15, 3, none⟩ = some (.slice AL rs.length cL) := h15.cell 3
              have q0 : w11.cell? ⟨gx, 0, none⟩ = some (.int .i64 m) := hv11.cell 0
              have q1 : w11.cell? ⟨gx, 1, none⟩ = some (.slice A l.length c) := hv11.cell 1
              have q2 : w11.cell? ⟨gx, 2, none⟩ = some (.int .i64 a) := hv11.cell 2
              have q3 : w11.cell? ⟨gx, 3, none⟩ = some (.slice AL rs.length cL) := hv11.cell 3
              have r0 := hv11.free 0
              have r1 := hv11.free 1
              have r2 := hv11.free 2
              have r3 := hv11.free 3
              have HF11 := Lib.hid hF11
              have hF12 := fr_set4 w11 gx (.int .i64 m) (.slice A l.length c) (.int .i64 (askR m nd a)) (.slice AL rs.length cL)
              have HBy := Lib.hid (refBytes_any (c := c11) (c2 := c5) (OwnY.rd (own_fr hO11 hF12 fun q h1 _ h3 => by omega)) (OwnY.rd (own_fr (own_fr HO10.out hF11 fun q h1 _ h3 => by omega) hF12 fun q h1 _ h3 => by omega)))
              rw [beq_self_eq_true] at HBy
              have HN := Lib.hid (HP.out.next HB10.out (HP10.out.ref) HR11.out (HF11.out.mono fun _ _ h => .inl h) HP.out.sec)
              have hak1 := askR_le m nd a
              generalize rErr l a m nd = E at *
              clear hO11 hD11 hF11 hF12 hv11 h15
              go_wp2_with fail
              refine HBy.out.mono ?_
              rintro e w13 ⟨rfl, rfl⟩
              go_wp2
              go_meet
              exact ⟨_, bs, AL, cL, rs, by omega, by omega, HN.out⟩
          · have hb0 : (kd == 0) = false := beq_eq_false_iff_ne.2 h0
            go_upto_if 172 with (fail)
            go_cut [172] (fun v wx => v = .bool (decide (kd = 1 ∨ kd = 2)) ∧ wx = w4)
            case first => as_aux_lemma =>
              by_cases h1 : kd = 1
              · subst h1
                go_wp2
                go_meet
                exact ⟨rfl, rfl⟩
              · have hb1 : (kd == 1) = false := beq_eq_false_iff_ne.2 h1
                by_cases h2 : kd = 2
                · subst h2
                  go_wp2
                  go_meet
                  exact ⟨rfl, rfl⟩
                · have hb2 : (kd == 2) = false := beq_eq_false_iff_ne.2 h2
                  have HNo : Hid (decide (kd = 1 ∨ kd = 2) = false) := decide_eq_false (by omega)
                  go_wp2
                  go_meet
                  exact ⟨by rw [HNo.out], rfl⟩
            case rest =>
              obtain ⟨rfl, hw5⟩ := hcut
              have hw5 := hw5.symm
              subst hw5
              by_cases h12 : kd = 1 ∨ kd = 2
              · rw [decide_eq_true h12]
                have HWr : Hid (∀ W, PlRun w1 W S gd gl gb gx base A c l a m bs AL cL rs → Below w4.heap.size w4 W → Calls Try.prog 27 #[.agg #[.int .i64 m, .slice A l.length c, .int .i64 a, .slice AL rs.length cL], .int .i64 nd, .slice Aw lw.length cw] W fun e w' => ∃ A2 c2 rs', e = .returned (.tuple #[.agg #[.int .i64 m, .slice A l.length c, .int .i64 (askW m nd lw.length a), .slice A2 rs'.length c2], .int .i64 (wErr l a m nd lw.length)]) ∧ RefL w' base (.slice A2 rs'.length c2) rs' ∧ rs'.length ≤ rs.length + 1 ∧ SecIs m rs' (bsW l a m bs nd lw) ∧ Below W.heap.size W w') := fun W hW hB =>
                  rWrite_all (HC.out.below (HB1.out.trans (hW.dk.below.mono hzw))) (HB1.out.trans (hW.dk.below.mono hzw)).size (HYw.out.rd.below hB) hB.size hW.ref hW.hi (by omega) (by omega) hW.sec hW.dk.is_.len nd
                clear hb0 h12 h0
                go_upto_region 30 with fail
                go_cut [20, 21] (fun p e wx => ∃ (g15 : Nat) (A5 : Option Addr) (c5 : Nat) (rs5 : List Wr), p = .pointer (some ⟨g15, 0, none⟩) ∧ e = .int .i64 (wErr l a m nd lw.length) ∧ w4.heap.size ≤ g15 ∧ Below w4.heap.size w4 wx ∧ Bk wx g15 52 #[.int .i64 m, .slice A l.length c, .int .i64 (askW m nd lw.length a), .slice A5 rs5.length c5] ∧ RefL wx base (.slice A5 rs5.length c5) rs5 ∧ rs5.length ≤ rs.length + 1 ∧ SecIs m rs5 (bsW l a m bs nd lw))
                case first => as_aux_lemma =>
                  have HB0 : Hid (Below w4.heap.size w4 w4.drew) := ⟨rfl, rfl, rfl, Nat.le_refl _, fun _ _ => rfl⟩
                  have HB0a : Hid (Below w4.heap.size w4 (w4.drew.alloc (.cells #[.int .i64 0, .slice none 0 0, .int .i64 0, .slice none 0 0] 52))) := HB0.out.alloc (Nat.le_refl _) _
                  have HP1 : Hid (PlRun w1 w4.drew S gd gl gb gx base A c l a m bs AL cL rs) := HP.out.drewN 1
                  have HPa : Hid (PlRun w1 (w4.drew.alloc (.cells #[.int .i64 0, .slice none 0 0, .int .i64 0, .slice none 0 0] 52)) S gd gl gb gx base A c l a m bs AL cL rs) := HP1.out.below0 ((Below.refl _ _).alloc (Nat.le_refl _) _)
                  have HZa : Hid (Bk (w4.drew.alloc (.cells #[.int .i64 0, .slice none 0 0, .int .i64 0, .slice none 0 0] 52)) w4.heap.size 52 #[.int .i64 0, .slice none 0 0, .int .i64 0, .slice none 0 0]) := Bk.new w4.drew _ _
                  have HBs : Hid (∀ W v0 v1 v2 v3, Below (w4.drew.alloc (.cells #[.int .i64 0, .slice none 0 0, .int .i64 0, .slice none 0 0] 52)).heap.size (w4.drew.alloc (.cells #[.int .i64 0, .slice none 0 0, .int .i64 0, .slice none 0 0] 52)) W → Below w4.heap.size w4 ((((W.setCell ⟨w4.heap.size, 0, none⟩ v0).setCell ⟨w4.heap.size, 1, none⟩ v1).setCell ⟨w4.heap.size, 2, none⟩ v2).setCell ⟨w4.heap.size, 3, none⟩ v3)) := fun W v0 v1 v2 v3 hW => by
                    have h2 := HB0a.out.trans (hW.mono HB0a.out.size)
                    exact h2.trans ((fr_set4 W w4.heap.size v0 v1 v2 v3).below h2.size fun q hq e => by omega)
                  go_region_held3 (fun W => (W.cell? ⟨gx, 0, none⟩ = some (.int .i64 m) ∧ W.cell? ⟨gx, 1, none⟩ = some (.slice A l.length c) ∧ W.cell? ⟨gx, 2, none⟩ = some (.int .i64 a) ∧ W.cell? ⟨gx, 3, none⟩ = some (.slice AL rs.length cL)) ∧ W.cell? ⟨b, o + k * 4 + 1, none⟩ = some (.int .i64 nd)) (first | exact ⟨⟨x0, x1, x2, x3⟩, hk1⟩ | exact HX.out _ (HP1.out.below0 hB5) | exact HX.out _ ((HP1.out.below0 hB5).below0 ((Below.refl _ _).alloc (Nat.le_refl _) _)) | exact HX.out _ HPa.out | exact HX.out _ (HPa.out.below0 hB5) | exact HX.out _ (HP.out.below0 (HBs.out _ _ _ _ _ hB5))) (first
                    | (go_at_call 27; refine (HWr.out _ HP1.out HB0.out).mono ?_; rintro e w5 ⟨A5, c5, rs5, rfl, hR5, hr5, hs5, hB5⟩)
                    | (go_at_call 27; refine (HWr.out _ HPa.out HB0a.out).mono ?_; rintro e w5 ⟨A5, c5, rs5, rfl, hR5, hr5, hs5, hB5⟩; have HZ5 := Lib.hid (HZa.out.below' hB5); have z0 : w5.cell? ⟨w4.heap.size, 0, none⟩ = some (.int .i64 0) := HZ5.out.cell 0; have z1 : w5.cell? ⟨w4.heap.size, 1, none⟩ = some (.slice none 0 0) := HZ5.out.cell 1; have z2 : w5.cell? ⟨w4.heap.size, 2, none⟩ = some (.int .i64 0) := HZ5.out.cell 2; have z3 : w5.cell? ⟨w4.heap.size, 3, none⟩ = some (.slice none 0 0) := HZ5.out.cell 3; have f0 := HZ5.out.free 0; have f1 := HZ5.out.free 1; have f2 := HZ5.out.free 2; have f3 := HZ5.out.free 3))
                  · go_wp2
                    go_meet
                    have hB5' : Below w4.heap.size w4 w5 := ⟨hB5.os, hB5.tape, hB5.output, hB5.size, hB5.block⟩
                    exact ⟨w5.heap.size, A5, c5, rs5, rfl, rfl, hB5'.size, hB5'.alloc hB5'.size _, Bk.new _ _ _, hR5.below ((Below.refl _ _).alloc (Nat.le_refl _) _), hr5, hs5⟩
                  · go_wp2
                    go_meet
                    exact ⟨w4.heap.size, A5, c5, rs5, rfl, rfl, Nat.le_refl _, HBs.out _ _ _ _ _ hB5, HZ5.out.set4 _ _ _ _, hR5.apart HZ5.out (fr_set4 w5 w4.heap.size _ _ _ _), hr5, hs5⟩
                case rest =>
                  obtain ⟨g15, A5, c5, rs5, rfl, rfl, hg15, hB10, hb15, hR10, hr5, hs5⟩ := hcut
                  obtain ⟨W10, hW10⟩ : ∃ W : World, W = wc := ⟨_, rfl⟩
                  rw [← hW10] at hB10 hb15 hR10 ⊢
                  clear hW10
                  have HS5 := Lib.hid hs5
                  have HB10 := Lib.hid hB10
                  have HRf := Lib.hid hR10
                  have HP10 := Lib.hid (HP.out.below0 hB10)
                  have hbs := HP.out.hi
                  have hgxb : gx < base := HP.out.lo gx (.inr rfl)
                  have hv11 := HP10.out.var
                  have h15 := hb15
                  have p0 : W10.cell? ⟨g15, 0, none⟩ = some (.int .i64 m) := h15.cell 0
                  have p1 : W10.cell? ⟨g15, 1, none⟩ = some (.slice A l.length c) := h15.cell 1
                  have p2 : W10.cell? ⟨g15, 2, none⟩ = some (.int .i64 (askW m nd lw.length a)) := h15.cell 2
                  have p3 : W10.cell? ⟨g15, 3, none⟩ = some (.slice A5 rs5.length c5) := h15.cell 3
                  have q0 : W10.cell? ⟨gx, 0, none⟩ = some (.int .i64 m) := hv11.cell 0
                  have q1 : W10.cell? ⟨gx, 1, none⟩ = some (.slice A l.length c) := hv11.cell 1
                  have q2 : W10.cell? ⟨gx, 2, none⟩ = some (.int .i64 a) := hv11.cell 2
                  have q3 : W10.cell? ⟨gx, 3, none⟩ = some (.slice AL rs.length cL) := hv11.cell 3
                  have r0 := hv11.free 0
                  have r1 := hv11.free 1
                  have r2 := hv11.free 2
                  have r3 := hv11.free 3
                  have HD12 := Lib.hid (HP.out.setX HB10.out (.int .i64 m) (.slice A l.length c) (.int .i64 (askW m nd lw.length a)) (.slice A5 rs5.length c5))
                  have hk2 := (HS.out _ HD12.out.below).2
                  have hF12 := fr_set4 W10 gx (.int .i64 m) (.slice A l.length c) (.int .i64 (askW m nd lw.length a)) (.slice A5 rs5.length c5)
                  have hY12 := (HYw.out.fr (Fr.of_below (S := fun q => w4.heap.size ≤ q) hB10 fun _ _ h => h) (fun q hq => .inr hq)).fr hF12 (fun q hq => .inl (.inr hq))
                  have HWr2 := Lib.hid (dWrite_run (c := cw) HD12.out (by omega) (by omega) hY12.rd hY12.le (fun ad e h0 e2 => hY12.apart ad e h0 (e2 ▸ .inl (.inl HP.out.dk.is_.self))) nd)
                  clear hB10 hR10 hb15 h15 hv11 hF12 hY12 hs5
                  go_wp2_with fail
                  refine HWr2.out.mono ?_
                  rintro e w13 ⟨rfl, hR13, hF13⟩
                  have HN := Lib.hid (HP.out.next2 HB10.out HRf.out hR13 hF13 HS5.out)
                  have hak1 := askW_le m nd lw.length a
                  clear hR13 hF13 HWr2 HWr
                  generalize wErr l a m nd lw.length = E at *
                  go_wp2
                  go_meet
                  exact ⟨_, _, A5, c5, rs5, by omega, by omega, HN.out⟩
              · rw [decide_eq_false h12]
                have HPk : Hid (∀ W, PlRun w1 W S gd gl gb gx base A c l a m bs AL cL rs → Calls Try.prog 22 #[.pointer (some ⟨gd, 0, none⟩), .int .i64 nd] W fun e w' => ∃ A' c', e = .returned (.slice A' (pkL m bs nd).length c') ∧ OwnY w' W.heap.size (.slice A' (pkL m bs nd).length c') (pkL m bs nd) ∧ Below W.heap.size W w') := fun W hW => dPeek_all hW.dk.is_ nd
                have HRk : Hid (∀ W, PlRun w1 W S gd gl gb gx base A c l a m bs AL cL rs → Calls Try.prog 28 #[.agg #[.int .i64 m, .slice A l.length c, .int .i64 a, .slice AL rs.length cL], .int .i64 nd] W fun e w' => ∃ A' c', e = .returned (.slice A' (pkL m bs nd).length c') ∧ OwnY w' W.heap.size (.slice A' (pkL m bs nd).length c') (pkL m bs nd) ∧ Below W.heap.size W w') := fun W hW => rPeek_all _ hW.ref (by omega) hW.sec nd
                have HBb : Hid (∀ W A1 c1 A2 c2 b1 b2, OwnY W b1 (.slice A1 (pkL m bs nd).length c1) (pkL m bs nd) → OwnY W b2 (.slice A2 (pkL m bs nd).length c2) (pkL m bs nd) → Calls Try.prog 24 #[.slice A1 (pkL m bs nd).length c1, .slice A2 (pkL m bs nd).length c2] W fun e w' => e = .returned (.bool true) ∧ W = w') := fun W A1 c1 A2 c2 b1 b2 h1 h2 => by
                  have := refBytes_any (c := c1) (c2 := c2) h1.rd h2.rd
                  rw [beq_self_eq_true] at this
                  exact this
                have HP1 : Hid (PlRun w1 w4.drew S gd gl gb gx base A c l a m bs AL cL rs) := HP.out.drewN 1
                have HB0 : Hid (Below w4.heap.size w4 w4.drew) := ⟨rfl, rfl, rfl, Nat.le_refl _, fun _ _ => rfl⟩
                clear hb0 h12 h0 HRr
                go_upto_region 20 with fail
                go_cut [138] (fun v wx => v = .bool false ∧ Below w4.heap.size w4 wx)
                case first => as_aux_lemma =>
                  go_region_held3 (fun W => (W.cell? ⟨gx, 0, none⟩ = some (.int .i64 m) ∧ W.cell? ⟨gx, 1, none⟩ = some (.slice A l.length c) ∧ W.cell? ⟨gx, 2, none⟩ = some (.int .i64 a) ∧ W.cell? ⟨gx, 3, none⟩ = some (.slice AL rs.length cL)) ∧ W.cell? ⟨b, o + k * 4 + 1, none⟩ = some (.int .i64 nd)) (first | exact ⟨⟨x0, x1, x2, x3⟩, hk1⟩ | exact HX.out _ hPz | exact HX.out _ hP5 | exact HX.out _ hP6) (first
                    | (go_at_call 22; refine (HPk.out _ HP1.out).mono ?_; rintro e w5 ⟨A5, c5, rfl, hO5, hB5⟩; have hP5 := HP1.out.below0 hB5)
                    | (go_at_call 28; refine (HRk.out _ hP5).mono ?_; rintro e w6 ⟨A6, c6, rfl, hO6, hB6⟩; have hPz := hP5.below0 hB6; have hBz := (HB0.out.trans (hB5.mono HB0.out.size)).trans (hB6.mono (HB0.out.trans (hB5.mono HB0.out.size)).size); have hOa := hO5.below hB6; have hOb := hO6)
                    | (go_at_call 28; refine (HRk.out _ HP1.out).mono ?_; rintro e w6 ⟨A6, c6, rfl, hO6, hB6⟩; have hP6 := HP1.out.below0 hB6)
                    | (go_at_call 22; refine (HPk.out _ hP6).mono ?_; rintro e w5 ⟨A5, c5, rfl, hO5, hB5⟩; have hPz := hP6.below0 hB5; have hBz := (HB0.out.trans (hB6.mono HB0.out.size)).trans (hB5.mono (HB0.out.trans (hB6.mono HB0.out.size)).size); have hOa := hO5; have hOb := hO6.below hB5)
                    | (go_at_call 24; refine (HBb.out _ _ _ _ _ _ _ hOa hOb).mono ?_; rintro e w7 ⟨rfl, rfl⟩))
                  all_goals
                    go_wp2
                    go_meet
                    exact ⟨rfl, hBz⟩
                case rest =>
                  obtain ⟨rfl, hB10⟩ := hcut
                  obtain ⟨W10, hW10⟩ : ∃ W : World, W = wc := ⟨_, rfl⟩
                  rw [← hW10] at hB10 ⊢
                  clear hW10
                  have HN := Lib.hid (HP.out.below0 hB10)
                  clear hB10 HPk HRk HBb HP1 HB0
                  go_wp2
                  go_meet
                  exact ⟨a, bs, AL, cL, rs, by omega, by omega, HN.out⟩
        case rest =>
          obtain ⟨a', bs', AL', cL', rs', ha', hrs', hP'⟩ := hcut
          obtain ⟨wq, hwq⟩ : ∃ W : World, W = wc := ⟨_, rfl⟩
          rw [← hwq] at hP' ⊢
          clear hwq HRr HX x0 x1 x2 x3 hk0 hk1 HYw HP
          have HPq := Lib.hid hP'
          have hc0 := hP'.dk.cell
          have hx2 : wq.cell? ⟨gx, 2, none⟩ = some (.int .i64 a') := hP'.var.cell 2
          have H1 : Hid (∀ n, Calls Try.prog 13 #[.pointer (some ⟨gl, 0, none⟩)] (wq.drewN n) fun e w'' => e = .returned (.int .i64 a') ∧ ∃ m, w'' = wq.drewN m) := fun n => (asked_any (hP'.drewN n).dk.is_.luck).mono fun e w'' ⟨h1, h2⟩ => ⟨h1, n, h2.symm⟩
          have H2 : Hid (∀ n, Calls Try.prog 14 #[.pointer (some ⟨gl, 0, none⟩)] (wq.drewN n) fun e w'' => e = .returned (.int .i64 (failed l a')) ∧ ∃ m, w'' = wq.drewN m) := fun n => (failed_any (hP'.drewN n).dk.is_.luck).mono fun e w'' ⟨h1, h2⟩ => ⟨h1, n, h2.symm⟩
          have H3 : Hid (∀ n, Calls Try.prog 15 #[.slice A l.length c, .int .i64 a'] (wq.drewN n) fun e w'' => e = .returned (.int .i64 (failed l a')) ∧ ∃ m, w'' = wq.drewN m) := fun n => (refFailed_any (HC.out.below (HB1.out.trans ((hP'.drewN n).dk.below.mono hzw))) a' (by omega) (by omega)).mono fun e w'' ⟨h1, h2⟩ => ⟨h1, n, h2.symm⟩
          have H4 : Hid (∀ n, Calls Try.prog 12 #[.pointer (some ⟨gl, 0, none⟩)] (wq.drewN n) fun e w'' => e = .returned (.int .i64 (l.length - a' : Nat)) ∧ ∃ m, w'' = wq.drewN m) := fun n => (left_any (hP'.drewN n).dk.is_.luck (by omega) (by omega)).mono fun e w'' ⟨h1, m, h2⟩ => ⟨h1, n + m, by rw [h2, World.drewN_drewN]⟩
          generalize failed l a' = fl at *
          go_upto_region 34 with fail
          rcases Nat.lt_or_ge a' l.length with hal | hal
          · obtain ⟨q, hq⟩ : ∃ q, l.length - a' = q := ⟨_, rfl⟩
            have hw : IntKind.i64.wrap ((l.length : Int) - (a' : Int)) = (q : Int) := (IntWalk.i64_in _ (by omega)).trans (by omega)
            have hq0 : (0 : Int) < (q : Int) := by omega
            rw [hq] at H4
            clear hP' hq hal
            go_quiet ((first | (go_at_call 13; exact H1.out _) | (go_at_call 14; exact H2.out _) | (go_at_call 15; exact H3.out _) | (go_at_call 12; exact H4.out _)))
            go_wp2
            go_roundw
            case rel => exact ⟨k + 1, a', bs', AL', cL', rs', by omega, ha', hrs', by go_num, HPq.out.drewN _⟩
            case measure => simp [intOf]; omega
          · obtain ⟨q, hq⟩ : ∃ q : Int, (l.length : Int) - (a' : Int) = q := ⟨_, rfl⟩
            have hw : IntKind.i64.wrap ((l.length : Int) - (a' : Int)) = q := (IntWalk.i64_in _ (by omega)).trans (by omega)
            have hq0 : ¬ (0 : Int) < q := by omega
            rw [show l.length - a' = 0 by omega] at H4
            clear hP' hq hal
            go_quiet ((first | (go_at_call 13; exact H1.out _) | (go_at_call 14; exact H2.out _) | (go_at_call 15; exact H3.out _) | (go_at_call 12; exact H4.out _)))
            go_wp2
            go_roundw
            case rel => exact ⟨k + 1, a', bs', AL', cL', rs', by omega, ha', hrs', by go_num, HPq.out.drewN _⟩
            case measure => simp [intOf]; omega
    · obtain rfl : k = L.length := by omega
      go_wp2_with fail
      refine (diskLives _).mono ?_
      rintro e w6 ⟨rfl, hB6⟩
      go_wp2
      go_ret
      have hb := HB1.out.trans (hP.dk.below.mono hzw)
      exact ⟨rfl, hb.trans (hB6.mono hb.size)⟩
end Go.Proofs.Ytcbfaahnhdmagaa
