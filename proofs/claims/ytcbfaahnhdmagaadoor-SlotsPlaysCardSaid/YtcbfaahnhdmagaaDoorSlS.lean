/- Slots: the walk of gunnylaw09.SlotsKeeps. -/
import Derived.Test.YtcbfaahnhdmagaaDoorSlR
namespace Go.Proofs.YtcbfaahnhdmagaaDoor
open Go.RowKit

theorem zero5 (w : World) : (zeroValue 62).run Tryd.prog w = .ok (.agg (intCells (hasZ (fun _ => 0) (fun _ => false)) 5)) w := by kernel_rfl
set_option maxRecDepth 100000 in
set_option maxHeartbeats 8000000 in
theorem keeps_any {w : World} (hT : Tab w) {A A2 : Option Addr} {c c2 : Nat} {l : List Bool} {L : List Dd} (hA : RdB w w.heap.size A l) (hl : l.length ≤ 3000) (h : DdsAt w w.heap.size A2 L) (hg : greatD L = false) :
    Calls Tryd.prog 7 #[.slice A l.length c, .slice A2 L.length c2] w fun e w' => e = .returned (.bool true) ∧ Below w.heap.size w w' := by
  obtain ⟨hL, -⟩ := greatD_no hg
  have HT := Lib.hid hT
  have HA := Lib.hid h
  have HG := Lib.hid (dGreat_any (c := c2) h (by omega))
  rw [hg] at HG
  have HN := Lib.hid (slNew_run (c := c) hA (Nat.le_refl _) (by omega) 5 (by omega) (pgF fun _ => 0))
  have hd3 : decide ((3000 : Int) < (l.length : Int)) = false := decide_eq_false (by omega)
  clear h hA hg hT
  go_enter Tryd.func7, Tryd.ntmps7
  go_wp2_with fail
  refine HG.out.mono ?_
  rintro e w1 ⟨rfl, rfl⟩
  go_wp2_with fail
  refine HN.out.mono ?_
  rintro e w1 ⟨S, gs, gd, gl, gb, g, gw, rfl, h1⟩
  have H1 := Lib.hid h1
  clear HG HN h1
  go_upto_region 7 with fail
  obtain ⟨w2, hw2⟩ : ∃ w2, w2 = w1.alloc (.cells #[.int .i64 0, .int .i64 0, .int .i64 0, .int .i64 0, .int .i64 0] 62) := ⟨_, rfl⟩
  have hK : KpRun w w2 S gs gd gl gb g gw w1.heap.size l 0 (fun _ => 0) (fun _ => false) := by
    have hb : Below w1.heap.size w1 w2 := by rw [hw2]; exact (Below.refl _ _).alloc (Nat.le_refl _) _
    refine ⟨H1.out.below0 hb, ?_, H1.out.below.size, fun hx => Nat.lt_irrefl _ (H1.out.lt _ hx)⟩
    rw [hw2]
    exact Bk.new _ _ _
  rw [← hw2]
  have HK := Lib.hid hK
  clear hw2 H1 hK
  generalize w1.heap.size = gh at *
  go_wp2
  go_loopw [8] (fun i wr => ∃ (k a : Nat) (F : Nat → UInt8) (f : Nat → Bool), k ≤ L.length ∧ i = .int .i64 k ∧ a ≤ 16 * k ∧ KpRun w wr S gs gd gl gb g gw gh l a F f) (fun i _ => L.length - (intOf i).toNat)
  case atStart => exact ⟨0, 0, _, _, Nat.zero_le _, rfl, Nat.zero_le _, HK.out⟩
  case round =>
    clear HK
    obtain ⟨k, a, F, f, hk, rfl, hak, hK⟩ := hrel
    have HK := Lib.hid hK
    rcases Nat.lt_or_ge k L.length with hlt | hge
    · obtain ⟨d, b, o, -, rfl, hbB, hc0, hc1, hc2, hc3, -, -⟩ := (HA.out.below hK.sl.below).get hlt
      obtain ⟨kd, nd, fd, dA, dc, db⟩ := d
      simp only at hc0 hc1 hc2 hc3
      clear hK
      go_upto_region 11 with fail
      obtain ⟨w3, hw3⟩ : ∃ w3, w3 = wr.alloc (.cells #[.int .i64 kd, .int .i64 nd, .int .u8 (fd.toNat : Int), .slice dA db.length dc] 64) := ⟨_, rfl⟩
      have hb3 : Below wr.heap.size wr w3 := by rw [hw3]; exact (Below.refl _ _).alloc (Nat.le_refl _) _
      have HD : Hid (Bk w3 wr.heap.size 64 #[.int .i64 kd, .int .i64 nd, .int .u8 (fd.toNat : Int), .slice dA db.length dc]) := by show Bk _ _ _ _; rw [hw3]; exact Bk.new _ _ _
      have HK3 := Lib.hid (HK.out.below0 hb3)
      have hX : Hid (¬ SlB S gs gd gb g gw wr.heap.size ∧ wr.heap.size ≠ gh) := ⟨fun hx => Nat.lt_irrefl _ (HK.out.sl.lt _ hx), fun e => Nat.lt_irrefl _ (e ▸ HK.out.has.lt)⟩
      rw [← hw3]
      clear hw3 hb3 HK hc0 hc1 hc2 hc3
      generalize wr.heap.size = g9 at *
      have hc0 : w3.cell? ⟨g9, 0, none⟩ = some (.int .i64 kd) := HD.out.cell 0
      have hc1 : w3.cell? ⟨g9, 1, none⟩ = some (.int .i64 nd) := HD.out.cell 1
      have hc2 : w3.cell? ⟨g9, 2, none⟩ = some (.int .u8 (fd.toNat : Int)) := HD.out.cell 2
      go_upto_if 49 with (fail)
      go_cut [10] (fun _ wx => ∃ (a' : Nat) (F' : Nat → UInt8) (f' : Nat → Bool), a' ≤ a + 8 ∧ KpRun w wx S gs gd gl gb g gw gh l a' F' f' ∧ Bk wx g9 64 #[.int .i64 kd, .int .i64 nd, .int .u8 (fd.toNat : Int), .slice dA db.length dc])
      case first => as_aux_lemma =>
        have HDk : Hid (∀ W, Fr (fun q => SlW gl gb g gw q ∨ w3.heap.size ≤ q) w3 W → Bk W g9 64 #[.int .i64 kd, .int .i64 nd, .int .u8 (fd.toNat : Int), .slice dA db.length dc]) := fun W hW => HD.out.fr hW fun e => by
          rcases e with e | e
          · exact hX.out.1 (HK3.out.sl.inW _ e)
          · have := HD.out.lt; omega
        have hfd := byte_le fd
        by_cases hk3 : kd < 3
        · have HF := Lib.hid (filled9_any w3 fd)
          have ha9 : a ≤ 900000 := by omega
          have hl9 : l.length ≤ 1000000 := by omega
          rcases Nat.lt_or_ge (cntB f 5) 5 with hc5 | hc5
          · obtain ⟨n, hn, hf, hlow⟩ := hole_of hc5
            go_wp2_with fail
            refine HF.out.mono ?_
            rintro e w4 ⟨rfl, hO4, hB4⟩
            have HP := Lib.hid (HK3.out.sl.putFill HT.out hl9 ha9 hO4 hB4 (n := n) hn hf hlow)
            have HK4 := Lib.hid (HK3.out.below0 hB4)
            have HB4 := Lib.hid hB4
            have hhn : hasZ F f n = 0 := by unfold hasZ; rw [hf]; rfl
            have HHn := Lib.hid hhn
            have hni : (n : Int) < 5 := by omega
            clear hO4 hB4 HF hhn hlow hc5
            go_wp2_with fail
            refine HP.out.mono ?_
            rintro e w5 ⟨hbad, hok, hF5⟩
            have HF5 : Hid (Fr (fun q => SlW gl gb g gw q ∨ w3.heap.size ≤ q) w3 w5) := (Fr.of_below (S := fun q => SlW gl gb g gw q ∨ w3.heap.size ≤ q) HB4.out fun _ _ h => .inr h).trans hF5 fun _ _ h => .inl h
            have HDd := Lib.hid (HDk.out _ HF5.out)
            have hcn := cnt8_le l a
            have hd0 : w5.cell? ⟨g9, 2, none⟩ = some (.int .u8 (fd.toNat : Int)) := HDd.out.cell 2
            cases hb8 : bad8 l a
            · obtain ⟨rfl, h5⟩ := hok hb8
              rw [updP_pgF] at h5
              have hbg : Bk w5 gh _ _ := HK4.out.has.fr hF5 (fun hx => HK4.out.ghX (HK4.out.sl.inW _ hx))
              have hg0 : w5.cell? ⟨gh, n, none⟩ = some (.int .i64 0) := by rw [hbg.cell, intCells_get _ hn, HHn.out]
              have hg1 : w5.frozen? ⟨gh, n, none⟩ = false := hbg.free n
              have HN5 := Lib.hid (HK4.out.stepSet h5 hF5 (hasZ_put F f n fd))
              clear hbad hok hF5 h5 hbg HP
              go_wp2
              go_meet
              exact ⟨_, _, _, by omega, HN5.out, HDd.out.far (Ne.symm hX.out.2 |> fun h e => h e.symm) _⟩
            · obtain ⟨rfl, h5⟩ := hbad hb8
              have HN5 := Lib.hid (HK4.out.step h5 hF5)
              clear hbad hok hF5 h5 HP
              go_wp2
              go_meet
              exact ⟨_, _, _, by omega, HN5.out, HDd.out⟩
          · have hfull : cntB f 5 = 5 := by have := cntB_le f 5; omega
            go_wp2_with fail
            refine HF.out.mono ?_
            rintro e w4 ⟨rfl, hO4, hB4⟩
            have HK4 := Lib.hid (HK3.out.below0 hB4)
            have HP := Lib.hid (HK4.out.sl.putFull hfull (some ⟨w3.heap.size, 0, none⟩) 4096)
            have HU := Lib.hid HK4.out.sl.used
            rw [hfull] at HU
            have HDd := Lib.hid (HDk.out _ (Fr.of_below (S := fun q => SlW gl gb g gw q ∨ w3.heap.size ≤ q) hB4 fun _ _ h => .inr h))
            clear hO4 hB4 HF hc5 hfull
            go_wp2_with (first
              | (go_at_call 24; refine HP.out.mono ?_; rintro e w5 ⟨rfl, rfl⟩)
              | (go_at_call 29; refine HU.out.mono ?_; rintro e w5 ⟨rfl, rfl⟩))
            go_meet
            exact ⟨a, F, f, by omega, HK4.out, HDd.out⟩
        · by_cases h4 : kd = 4
          · subst h4
            clear hk3
            by_cases hin : 0 ≤ nd ∧ nd < 5
            · obtain ⟨q, rfl⟩ : ∃ q : Nat, nd = q := ⟨nd.toNat, by omega⟩
              have hq : q < 5 := by omega
              have hqi : (q : Int) < 5 := by omega
              have hbg : Bk w3 gh _ _ := HK3.out.has
              have hg0 : w3.cell? ⟨gh, q, none⟩ = some (.int .i64 (hasZ F f q)) := by rw [hbg.cell, intCells_get _ hq]
              have hg1 : w3.frozen? ⟨gh, q, none⟩ = false := hbg.free q
              have hm : ((q : Int) % 5) = (q : Int) := by omega
              have hmay := mayB_nat hq
              clear hin
              cases hf : f q
              · have hZ : hasZ F f q = 0 := by unfold hasZ; rw [hf]; rfl
                rw [hZ] at hg0
                have HP := Lib.hid (HK3.out.sl.dropNo (n := (q : Int)) (by rw [Int.toNat_natCast, hf, Bool.and_false]))
                have HDd := Lib.hid (HDk.out _ (Fr.refl _ _))
                have h00 : q = 0 → w3.cell? ⟨gh, 0, none⟩ = some (.int .i64 0) := fun e => by rw [e] at hg0; exact hg0
                clear hbg hZ
                rcases Nat.eq_zero_or_pos q with h0 | h0
                · have h01 := h00 h0
                  have h02 : ¬ 0 < q := by omega
                  clear h00 h0
                  go_wp2_with (go_at_call 30; refine HP.out.mono ?_; rintro e w5 ⟨rfl, rfl⟩)
                  go_meet
                  exact ⟨a, F, f, by omega, HK3.out, HDd.out⟩
                · clear h00
                  go_wp2_with (go_at_call 30; refine HP.out.mono ?_; rintro e w5 ⟨rfl, rfl⟩)
                  go_meet
                  exact ⟨a, F, f, by omega, HK3.out, HDd.out⟩
              · obtain ⟨x, hx⟩ : ∃ x : Nat, (F q).toNat = x := ⟨_, rfl⟩
                have hZ : hasZ F f q = 1 + (x : Int) := by unfold hasZ; rw [hf, hx]; rfl
                have hx8 : x ≤ 255 := by have := byte_le (F q); omega
                rw [hZ] at hg0
                have hne : ((1 + (x : Int)) != 0) = true := bne_iff_ne.2 (by omega)
                have HP := Lib.hid (HK3.out.sl.drop (n := q) hq hf)
                have h00 : q = 0 → w3.cell? ⟨gh, 0, none⟩ = some (.int .i64 (1 + (x : Int))) := fun e => by rw [e] at hg0; exact hg0
                have h03 : ¬ 0 < q → q = 0 := by omega
                clear hbg hZ hx hf
                rcases Nat.lt_or_ge 0 q with h0 | h0
                · clear h00 h03
                  go_wp2_with fail
                  refine HP.out.mono ?_
                  rintro e w5 ⟨rfl, h5, hF5⟩
                  have HDd := Lib.hid (HDk.out _ (hF5.mono fun _ _ h => .inl h))
                  have hd1 : w5.cell? ⟨g9, 1, none⟩ = some (.int .i64 q) := HDd.out.cell 1
                  have hbg5 : Bk w5 gh _ _ := HK3.out.has.fr hF5 (fun hx => HK3.out.ghX (HK3.out.sl.inW _ hx))
                  have hg5 : w5.cell? ⟨gh, q, none⟩ = some (.int .i64 (hasZ F f q)) := by rw [hbg5.cell, intCells_get _ hq]
                  have hg6 : w5.frozen? ⟨gh, q, none⟩ = false := hbg5.free q
                  have HN5 := Lib.hid (HK3.out.stepSet h5 hF5 (hasZ_drop F f q))
                  clear h5 hF5 HP hbg5
                  go_wp2
                  go_meet
                  exact ⟨_, _, _, by omega, HN5.out, HDd.out.far (fun e => hX.out.2 e) _⟩
                · have h02 : ¬ 0 < q := by omega
                  have h01 := h00 (h03 h02)
                  clear h00 h03 h0
                  go_wp2_with fail
                  refine HP.out.mono ?_
                  rintro e w5 ⟨rfl, h5, hF5⟩
                  have HDd := Lib.hid (HDk.out _ (hF5.mono fun _ _ h => .inl h))
                  have hd1 : w5.cell? ⟨g9, 1, none⟩ = some (.int .i64 q) := HDd.out.cell 1
                  have hbg5 : Bk w5 gh _ _ := HK3.out.has.fr hF5 (fun hx => HK3.out.ghX (HK3.out.sl.inW _ hx))
                  have hg5 : w5.cell? ⟨gh, q, none⟩ = some (.int .i64 (hasZ F f q)) := by rw [hbg5.cell, intCells_get _ hq]
                  have hg6 : w5.frozen? ⟨gh, q, none⟩ = false := hbg5.free q
                  have HN5 := Lib.hid (HK3.out.stepSet h5 hF5 (hasZ_drop F f q))
                  clear h5 hF5 HP hbg5
                  go_wp2
                  go_meet
                  exact ⟨_, _, _, by omega, HN5.out, HDd.out.far (fun e => hX.out.2 e) _⟩
            · have hcase : nd < 0 ∨ (0 ≤ nd ∧ 5 ≤ nd) := by omega
              have HP := Lib.hid (HK3.out.sl.dropNo (n := nd) (by
                have : mayB 5 nd = false := by simp [mayB]; omega
                rw [this, Bool.false_and]))
              have HDd := Lib.hid (HDk.out _ (Fr.refl _ _))
              clear hin
              rcases hcase with h0 | ⟨h0, h5⟩
              all_goals
                go_wp2_with (go_at_call 30; refine HP.out.mono ?_; rintro e w5 ⟨rfl, rfl⟩)
                go_meet
                exact ⟨a, F, f, by omega, HK3.out, HDd.out⟩
          · have hb4 : (kd == 4) = false := beq_eq_false_iff_ne.2 h4
            have HDd := Lib.hid (HDk.out _ (Fr.refl _ _))
            go_wp2
            go_meet
            exact ⟨a, F, f, by omega, HK3.out, HDd.out⟩
      case rest =>
        clear HK3 hc0 hc1 hc2 HD
        obtain ⟨a', F', f', ha', hK4, hD4⟩ := hcut
        obtain ⟨w4, hw4⟩ : ∃ W : World, W = wc := ⟨_, rfl⟩
        rw [← hw4] at hK4 hD4 ⊢
        clear hw4
        have HK4 := Lib.hid hK4
        have HD4 := Lib.hid hD4
        clear hK4 hD4
        go_wp2
        go_loopw [13] (fun i wz => ∃ j : Nat, j ≤ 5 ∧ i = .int .i64 j ∧ KpRun w wz S gs gd gl gb g gw gh l a' F' f' ∧ Bk wz g9 64 #[.int .i64 kd, .int .i64 nd, .int .u8 (fd.toNat : Int), .slice dA db.length dc]) (fun i _ => 5 - (intOf i).toNat)
        case atStart => exact ⟨0, by omega, rfl, HK4.out, HD4.out⟩
        case round =>
          clear HK4 HD4
          obtain ⟨j, hj, rfl, hK5, hD5⟩ := hrel
          have HK5 := Lib.hid hK5
          have HD5 := Lib.hid hD5
          have HBk : Hid (∀ W, Below wr.heap.size wr W → KpRun w W S gs gd gl gb g gw gh l a' F' f' ∧ Bk W g9 64 #[.int .i64 kd, .int .i64 nd, .int .u8 (fd.toNat : Int), .slice dA db.length dc]) := fun W hW => ⟨HK5.out.below0 hW, HD5.out.below' hW⟩
          rcases Nat.lt_or_ge j 5 with hlt5 | hge5
          · have hji : (j : Int) < 5 := by omega
            have hv : wr.cell? ⟨gh, j, none⟩ = some (.int .i64 (hasZ F' f' j)) := by rw [Bk.cell hK5.has, intCells_get _ hlt5]
            cases hf : f' j
            · as_aux_lemma =>
              have hZ : hasZ F' f' j = 0 := by unfold hasZ; rw [hf]; rfl
              rw [hZ] at hv
              have HP := Lib.hid (hK5.sl.lookNo (n := (j : Int)) (by rw [Int.toNat_natCast, hf, Bool.and_false]))
              clear hK5 hD5 hZ hf
              go_upto_region 29 with (go_at_call 31; refine HP.out.mono ?_; rintro e w5 ⟨rfl, rfl⟩)
              go_quiet (fail)
              go_wp2
              go_roundw
              case rel => exact ⟨j + 1, by omega, by go_num, (HBk.out _ (Below.refl _ _)).1.drewN _, (HBk.out _ (Below.refl _ _)).2⟩
              case measure => simp [intOf]; omega
            · as_aux_lemma =>
              obtain ⟨x, hx⟩ : ∃ x : Nat, (F' j).toNat = x := ⟨_, rfl⟩
              have hZ : hasZ F' f' j = 1 + (x : Int) := by unfold hasZ; rw [hf, hx]; rfl
              have hx8 : x ≤ 255 := by have := byte_le (F' j); omega
              rw [hZ] at hv
              have hne : ((1 + (x : Int)) != 0) = true := bne_iff_ne.2 (by omega)
              have e1 : IntKind.i64.wrap (1 + (x : Int) - 1) = (x : Int) := (IntWalk.i64_in _ (by omega)).trans (by omega)
              have e2 : IntKind.u8.wrap (x : Int) = (x : Int) := by simp [IntKind.wrap, IntKind.bits, IntKind.signed]; omega
              have HLk := Lib.hid (hK5.sl.look (n := j) hlt5 hf)
              have HFl : Hid (∀ W, Calls Tryd.prog 25 #[.int .u8 (x : Int)] W fun e w' => e = .returned (.slice (some ⟨W.heap.size, 0, none⟩) 4096 4096) ∧ OwnY w' W.heap.size (.slice (some ⟨W.heap.size, 0, none⟩) 4096 4096) (pgF F' j) ∧ Below W.heap.size W w') := fun W => by
                have := filled9_any W (F' j)
                rwa [hx] at this
              have hvF : Hid (∀ W, Below wr.heap.size wr W → W.cell? ⟨gh, j, none⟩ = some (.int .i64 (1 + (x : Int)))) := fun W hW => by rw [Bk.cell (HBk.out W hW).1.has, intCells_get _ hlt5, hZ]
              clear hK5 hD5 hZ hf hx
              go_wp2_with fail
              refine HLk.out.mono ?_
              rintro e w5 ⟨A5, c5, rfl, hO5, hL5, hB5⟩
              have HO5 := Lib.hid hO5
              have HL5 := Lib.hid hL5
              have HB5 := Lib.hid hB5
              clear hO5 hL5 hB5 HLk hv
              generalize pgF F' j = p5 at *
              have hv5 := hvF.out _ HB5.out
              have HS : Hid (∀ W, Below w5.heap.size w5 W → W.cell? ⟨gh, j, none⟩ = some (.int .i64 (1 + (x : Int))) ∧ (convert 22 9 (.slice A5 4096 c5)).run Tryd.prog W = .ok (.string ⟨p5.toArray⟩) W) := fun W hW => ⟨hvF.out _ (HB5.out.trans (hW.mono HB5.out.size)), run_str (HO5.out.below hW).rd HL5.out⟩
              go_upto_region 29 with fail
              go_region_held (fun W => W.cell? ⟨gh, j, none⟩ = some (.int .i64 (1 + (x : Int))) ∧ (convert 22 9 (.slice A5 4096 c5)).run Tryd.prog W = .ok (.string ⟨p5.toArray⟩) W) (first | exact HS.out _ (Below.refl _ _) | exact HS.out _ (below_drew1 _) | exact HS.out _ ((below_drew1 _).trans (hB8.mono (Nat.le_refl _)))) ((go_at_call 25; refine (HFl.out _).mono ?_; rintro x w8 ⟨rfl, hO8, hB8⟩; have hcv : (convert 22 9 (.slice (some ⟨w5.heap.size, 0, none⟩) 4096 4096)).run Tryd.prog w8 = .ok (.string ⟨p5.toArray⟩) w8 := run_str (c := 4096) hO8.rd HL5.out))
              all_goals
                have HB8 : Hid (Below wr.heap.size wr w8) := HB5.out.trans (((below_drew1 _).trans (hB8.mono (Nat.le_refl _))).mono HB5.out.size)
                clear hB8 hO8 hcv
                go_wp2
                go_roundw
                case rel => exact ⟨j + 1, by omega, by go_num, (HBk.out _ HB8.out).1, (HBk.out _ HB8.out).2⟩
                case measure => simp [intOf]; omega
          · obtain rfl : j = 5 := by omega
            have hc1 : wr.cell? ⟨g9, 1, none⟩ = some (.int .i64 nd) := hD5.cell 1
            by_cases hin : 0 ≤ nd ∧ nd < 5
            · obtain ⟨q, rfl⟩ : ∃ q : Nat, nd = q := ⟨nd.toNat, by omega⟩
              have hq : q < 5 := by omega
              have hqi : (q : Int) < 5 := by omega
              have hv : wr.cell? ⟨gh, q, none⟩ = some (.int .i64 (hasZ F' f' q)) := by rw [Bk.cell hK5.has, intCells_get _ hq]
              clear hin
              cases hf : f' q
              · as_aux_lemma =>
                have hZ : hasZ F' f' q = 0 := by unfold hasZ; rw [hf]; rfl
                rw [hZ] at hv
                clear hK5 hD5 hZ hf
                go_wp2
                go_roundw
                case rel => exact ⟨k + 1, a', F', f', by omega, by go_num, by omega, HK5.out⟩
                case measure => simp [intOf]; omega
              · obtain ⟨x, hx⟩ : ∃ x : Nat, (F' q).toNat = x := ⟨_, rfl⟩
                have hZ : hasZ F' f' q = 1 + (x : Int) := by unfold hasZ; rw [hf, hx]; rfl
                have hx8 : x ≤ 255 := by have := byte_le (F' q); omega
                rw [hZ] at hv
                have hne : ((1 + (x : Int)) == 0) = false := beq_eq_false_iff_ne.2 (by omega)
                have e1 : IntKind.i64.wrap (1 + (x : Int) - 1) = (x : Int) := (IntWalk.i64_in _ (by omega)).trans (by omega)
                have e2 : IntKind.u8.wrap (x : Int) = (x : Int) := by simp [IntKind.wrap, IntKind.bits, IntKind.signed]; omega
                have HPg := Lib.hid (hK5.sl.page (by omega) (by omega) (n := q) hq hf)
                have HFl : Hid (∀ W, Calls Tryd.prog 25 #[.int .u8 (x : Int)] W fun e w' => e = .returned (.slice (some ⟨W.heap.size, 0, none⟩) 4096 4096) ∧ OwnY w' W.heap.size (.slice (some ⟨W.heap.size, 0, none⟩) 4096 4096) (pgF F' q) ∧ Below W.heap.size W w') := fun W => by
                  have := filled9_any W (F' q)
                  rwa [hx] at this
                have HZ := Lib.hid hZ
                have hgl : Hid (g9 ≠ gl ∧ gh ≠ gl) := ⟨fun e => hX.out.1 (HK5.out.sl.inW _ (.inl e)), fun e => HK5.out.ghX (HK5.out.sl.inW _ (.inl e))⟩
                have hcn := cnt8_le l a'
                clear hK5 hD5 hZ hf hx
                go_wp2_with fail
                refine HPg.out.mono ?_
                rintro e w5 ⟨hbad, hok, h5, hF5⟩
                have HK6 := Lib.hid (HK5.out.step h5 (hF5.mono fun _ _ h => .inl h))
                have HBk6 : Hid (∀ W, Below w5.heap.size w5 W → KpRun w W S gs gd gl gb g gw gh l (a' + cnt8 l a') F' f') := fun W hW => HK6.out.below0 hW
                have HC6 : Hid (∀ W, Below w5.heap.size w5 W → W.cell? ⟨g9, 1, none⟩ = some (.int .i64 q) ∧ W.cell? ⟨gh, q, none⟩ = some (.int .i64 (1 + (x : Int)))) := fun W hW =>
                  ⟨((HD5.out.fr hF5 hgl.out.1).below' hW).cell 1, by rw [Bk.cell (HBk6.out W hW).has, intCells_get _ hq, HZ.out]⟩
                obtain ⟨hc5, hv5⟩ := HC6.out _ (Below.refl _ _)
                clear h5 hF5 HPg hv hc1
                cases hb8 : bad8 l a'
                · as_aux_lemma =>
                  obtain ⟨hL5, A5, c5, rfl, hO5⟩ := hok hb8
                  have HO5 := Lib.hid hO5
                  have HL5 := Lib.hid hL5
                  clear hbad hok hb8 hO5 hL5
                  generalize pgF F' q = p5 at *
                  have HS : Hid (∀ W, Below w5.heap.size w5 W → W.cell? ⟨g9, 1, none⟩ = some (.int .i64 q) ∧ W.cell? ⟨gh, q, none⟩ = some (.int .i64 (1 + (x : Int))) ∧ (convert 22 9 (.slice A5 4096 c5)).run Tryd.prog W = .ok (.string ⟨p5.toArray⟩) W) := fun W hW => ⟨(HC6.out W hW).1, (HC6.out W hW).2, run_str (HO5.out.below hW).rd HL5.out⟩
                  go_upto_region 33 with fail
                  refine wp_region_held_drew (S := fun W => W.cell? ⟨g9, 1, none⟩ = some (.int .i64 q) ∧ W.cell? ⟨gh, q, none⟩ = some (.int .i64 (1 + (x : Int))) ∧ (convert 22 9 (.slice A5 4096 c5)).run Tryd.prog W = .ok (.string ⟨p5.toArray⟩) W) (by kernel_rfl) (HS.out _ (below_drew1 _)) (fun hHeld => ?_)
                  refine wpAnyH_take (i := 0) (v := .int .i64 0) rfl (by kernel_rfl) (by kernel_rfl) (by kernel_rfl) (fun _ _ _ h => h) (Or.inl ⟨by rfl, fun W hW => rfl⟩) hHeld ?_
                  simp only [Act.put, List.getElem_toArray, List.getElem_cons_zero, List.setIfInBounds_toArray, List.set_cons_zero, List.set_cons_succ]
                  refine wpAnyH_take (i := 1) (v := .bool false) rfl (by kernel_rfl) (by kernel_rfl) (by kernel_rfl) (fun _ _ _ h => h) (Or.inl ⟨by rfl, fun W hW => rfl⟩) hHeld ?_
                  simp only [Act.put, List.getElem_toArray, List.getElem_cons_zero, List.getElem_cons_succ, List.setIfInBounds_toArray, List.set_cons_zero, List.set_cons_succ]
                  refine wpAnyH_take (i := 2) (v := .bool false) rfl (by kernel_rfl) (by kernel_rfl) (by kernel_rfl) (fun _ _ _ h => h) (Or.inl ⟨by rfl, fun W hW => rfl⟩) hHeld ?_
                  simp only [Act.put, List.getElem_toArray, List.getElem_cons_zero, List.getElem_cons_succ, List.setIfInBounds_toArray, List.set_cons_zero, List.set_cons_succ]
                  refine wpAnyH_take (i := 3) (v := undef) rfl (by kernel_rfl) (by kernel_rfl) (by kernel_rfl) (fun _ _ _ h => h) (Or.inr ⟨by rfl, rfl⟩) hHeld ?_
                  simp only [Act.put, List.getElem_toArray, List.getElem_cons_zero, List.getElem_cons_succ, List.setIfInBounds_toArray, List.set_cons_zero, List.set_cons_succ]
                  refine wpAnyH_take (i := 4) (v := undef) rfl (by kernel_rfl) (by kernel_rfl) (by kernel_rfl) (fun _ _ _ h => h) (Or.inr ⟨by rfl, rfl⟩) hHeld ?_
                  simp only [Act.put, List.getElem_toArray, List.getElem_cons_zero, List.getElem_cons_succ, List.setIfInBounds_toArray, List.set_cons_zero, List.set_cons_succ]
                  refine wpAnyH_take (i := 5) (v := .bool false) rfl (by kernel_rfl) (by kernel_rfl) (by kernel_rfl) (fun _ _ _ h => h) (Or.inl ⟨by rfl, fun W hW => rfl⟩) hHeld ?_
                  simp only [Act.put, List.getElem_toArray, List.getElem_cons_zero, List.getElem_cons_succ, List.setIfInBounds_toArray, List.set_cons_zero, List.set_cons_succ]
                  refine wpAnyH_take (i := 6) (v := .bool false) rfl (by kernel_rfl) (by kernel_rfl) (by kernel_rfl) (fun _ _ _ h => h) (Or.inl ⟨by rfl, fun W hW => rfl⟩) hHeld ?_
                  simp only [Act.put, List.getElem_toArray, List.getElem_cons_zero, List.getElem_cons_succ, List.setIfInBounds_toArray, List.set_cons_zero, List.set_cons_succ]
                  refine wpAnyH_take (i := 7) (v := .int .i64 0) rfl (by kernel_rfl) (by kernel_rfl) (by kernel_rfl) (fun _ _ _ h => h) (Or.inl ⟨by rfl, fun W hW => rfl⟩) hHeld ?_
                  simp only [Act.put, List.getElem_toArray, List.getElem_cons_zero, List.getElem_cons_succ, List.setIfInBounds_toArray, List.set_cons_zero, List.set_cons_succ]
                  refine wpAnyH_take (i := 8) (v := .bool true) rfl (by kernel_rfl) (by kernel_rfl) (by kernel_rfl) (fun _ _ _ h => h) (Or.inl ⟨by rfl, fun W hW => rfl⟩) hHeld ?_
                  simp only [Act.put, List.getElem_toArray, List.getElem_cons_zero, List.getElem_cons_succ, List.setIfInBounds_toArray, List.set_cons_zero, List.set_cons_succ]
                  refine wpAnyH_take (i := 9) (v := .bool true) rfl (by kernel_rfl) (by kernel_rfl) (by kernel_rfl) (fun _ _ _ h => h) (Or.inl ⟨by rfl, fun W hW => rfl⟩) hHeld ?_
                  simp only [Act.put, List.getElem_toArray, List.getElem_cons_zero, List.getElem_cons_succ, List.setIfInBounds_toArray, List.set_cons_zero, List.set_cons_succ]
                  refine wpAnyH_take (i := 10) (v := .slice A5 4096 c5) rfl (by kernel_rfl) (by kernel_rfl) (by kernel_rfl) (fun _ _ _ h => h) (Or.inl ⟨by rfl, fun W hW => rfl⟩) hHeld ?_
                  simp only [Act.put, List.getElem_toArray, List.getElem_cons_zero, List.getElem_cons_succ, List.setIfInBounds_toArray, List.set_cons_zero, List.set_cons_succ]
                  refine wpAnyH_take (i := 11) (v := .string ⟨p5.toArray⟩) rfl (by kernel_rfl) (by kernel_rfl) (by kernel_rfl) (fun _ _ _ h => h) (Or.inl ⟨by rfl, fun W hW => by have hcW := hW.2.2; go_simp⟩) hHeld ?_
                  simp only [Act.put, List.getElem_toArray, List.getElem_cons_zero, List.getElem_cons_succ, List.setIfInBounds_toArray, List.set_cons_zero, List.set_cons_succ]
                  refine wpAnyH_take (i := 12) (v := .pointer (some ⟨g9, 1, none⟩)) rfl (by kernel_rfl) (by kernel_rfl) (by kernel_rfl) (fun _ _ _ h => h) (Or.inl ⟨by rfl, fun W hW => by go_simp⟩) hHeld ?_
                  simp only [Act.put, List.getElem_toArray, List.getElem_cons_zero, List.getElem_cons_succ, List.setIfInBounds_toArray, List.set_cons_zero, List.set_cons_succ]
                  refine wpAnyH_take (i := 13) (v := .int .i64 q) rfl (by kernel_rfl) (by kernel_rfl) (by kernel_rfl) (fun _ _ _ h => h) (Or.inl ⟨by rfl, fun W hW => by have hcW := hW.1; go_simp⟩) hHeld ?_
                  simp only [Act.put, List.getElem_toArray, List.getElem_cons_zero, List.getElem_cons_succ, List.setIfInBounds_toArray, List.set_cons_zero, List.set_cons_succ]
                  refine wpAnyH_take (i := 14) (v := .pointer (some ⟨gh, q, none⟩)) rfl (by kernel_rfl) (by kernel_rfl) (by kernel_rfl) (fun _ _ _ h => h) (Or.inl ⟨by rfl, fun W hW => by go_simp⟩) hHeld ?_
                  simp only [Act.put, List.getElem_toArray, List.getElem_cons_zero, List.getElem_cons_succ, List.setIfInBounds_toArray, List.set_cons_zero, List.set_cons_succ]
                  refine wpAnyH_take (i := 15) (v := .int .i64 (1 + (x : Int))) rfl (by kernel_rfl) (by kernel_rfl) (by kernel_rfl) (fun _ _ _ h => h) (Or.inl ⟨by rfl, fun W hW => by have hcW := hW.2.1; go_simp⟩) hHeld ?_
                  simp only [Act.put, List.getElem_toArray, List.getElem_cons_zero, List.getElem_cons_succ, List.setIfInBounds_toArray, List.set_cons_zero, List.set_cons_succ]
                  refine wpAnyH_take (i := 16) (v := .int .i64 x) rfl (by kernel_rfl) (by kernel_rfl) (by kernel_rfl) (fun _ _ _ h => h) (Or.inl ⟨by rfl, fun W hW => by go_simp⟩) hHeld ?_
                  simp only [Act.put, List.getElem_toArray, List.getElem_cons_zero, List.getElem_cons_succ, List.setIfInBounds_toArray, List.set_cons_zero, List.set_cons_succ]
                  refine wpAnyH_take (i := 17) (v := .int .u8 x) rfl (by kernel_rfl) (by kernel_rfl) (by kernel_rfl) (fun _ _ _ h => h) (Or.inl ⟨by rfl, fun W hW => by go_simp⟩) hHeld ?_
                  simp only [Act.put, List.getElem_toArray, List.getElem_cons_zero, List.getElem_cons_succ, List.setIfInBounds_toArray, List.set_cons_zero, List.set_cons_succ]
                  refine wpAnyH_ready (rs := [18]) (by kernel_rfl) (by simp) ?_
                  refine AllReadyH.cons rfl (fun K hK => ?_) AllReadyH.nil
                  rw [if_pos (by rfl)]
                  go_simp
                  refine (HFl.out _).mono ?_
                  rintro x w8 ⟨rfl, hO8, hB8⟩
                  have hcv : (convert 22 9 (.slice (some ⟨w5.heap.size, 0, none⟩) 4096 4096)).run Tryd.prog w8 = .ok (.string ⟨p5.toArray⟩) w8 := run_str (c := 4096) hO8.rd HL5.out
                  have HN8 := Lib.hid (HBk6.out _ ((below_drew1 _).trans (hB8.mono (Nat.le_refl _))))
                  have hHeld2 := HS.out _ ((below_drew1 _).trans (hB8.mono (Nat.le_refl _)))
                  go_wp2_with fail
                  refine hK.out _ _ hHeld2 (fun hHeld => ?_)
                  clear hHeld2 hK
                  try simp only [Act.put, List.getElem_toArray, List.getElem_cons_zero, List.getElem_cons_succ, List.setIfInBounds_toArray, List.set_cons_zero, List.set_cons_succ]
                  refine wpAnyH_ready (rs := [19]) (by kernel_rfl) (by simp) ?_
                  refine AllReadyH.cons rfl (fun K hK => ?_) AllReadyH.nil
                  rw [if_pos (by rfl)]
                  go_simp
                  refine hK.out _ _ hHeld (fun hHeld => ?_)
                  clear hK
                  try simp only [Act.put, List.getElem_toArray, List.getElem_cons_zero, List.getElem_cons_succ, List.setIfInBounds_toArray, List.set_cons_zero, List.set_cons_succ]
                  refine wpAnyH_take (i := 20) (v := .bool false) rfl (by kernel_rfl) (by kernel_rfl) (by kernel_rfl) (fun _ _ _ h => h) (Or.inl ⟨by rfl, fun W hW => by go_simp⟩) hHeld ?_
                  simp only [Act.put, List.getElem_toArray, List.getElem_cons_zero, List.getElem_cons_succ, List.setIfInBounds_toArray, List.set_cons_zero, List.set_cons_succ]
                  refine wpAnyH_take (i := 21) (v := .bool false) rfl (by kernel_rfl) (by kernel_rfl) (by kernel_rfl) (fun _ _ _ h => h) (Or.inl ⟨by rfl, fun W hW => rfl⟩) hHeld ?_
                  simp only [Act.put, List.getElem_toArray, List.getElem_cons_zero, List.getElem_cons_succ, List.setIfInBounds_toArray, List.set_cons_zero, List.set_cons_succ]
                  refine wpAnyH_take (i := 22) (v := .bool false) rfl (by kernel_rfl) (by kernel_rfl) (by kernel_rfl) (fun _ _ _ h => h) (Or.inl ⟨by rfl, fun W hW => rfl⟩) hHeld ?_
                  simp only [Act.put, List.getElem_toArray, List.getElem_cons_zero, List.getElem_cons_succ, List.setIfInBounds_toArray, List.set_cons_zero, List.set_cons_succ]
                  refine wpAnyH_take (i := 23) (v := .bool false) rfl (by kernel_rfl) (by kernel_rfl) (by kernel_rfl) (fun _ _ _ h => h) (Or.inl ⟨by rfl, fun W hW => rfl⟩) hHeld ?_
                  simp only [Act.put, List.getElem_toArray, List.getElem_cons_zero, List.getElem_cons_succ, List.setIfInBounds_toArray, List.set_cons_zero, List.set_cons_succ]
                  refine wpAnyH_take (i := 24) (v := .int .i64 0) rfl (by kernel_rfl) (by kernel_rfl) (by kernel_rfl) (fun _ _ _ h => h) (Or.inl ⟨by rfl, fun W hW => rfl⟩) hHeld ?_
                  simp only [Act.put, List.getElem_toArray, List.getElem_cons_zero, List.getElem_cons_succ, List.setIfInBounds_toArray, List.set_cons_zero, List.set_cons_succ]
                  refine wpAnyH_take (i := 25) (v := .bool false) rfl (by kernel_rfl) (by kernel_rfl) (by kernel_rfl) (fun _ _ _ h => h) (Or.inl ⟨by rfl, fun W hW => rfl⟩) hHeld ?_
                  simp only [Act.put, List.getElem_toArray, List.getElem_cons_zero, List.getElem_cons_succ, List.setIfInBounds_toArray, List.set_cons_zero, List.set_cons_succ]
                  refine wpAnyH_take (i := 26) (v := .bool false) rfl (by kernel_rfl) (by kernel_rfl) (by kernel_rfl) (fun _ _ _ h => h) (Or.inl ⟨by rfl, fun W hW => rfl⟩) hHeld ?_
                  simp only [Act.put, List.getElem_toArray, List.getElem_cons_zero, List.getElem_cons_succ, List.setIfInBounds_toArray, List.set_cons_zero, List.set_cons_succ]
                  refine wpAnyH_take (i := 27) (v := undef) rfl (by kernel_rfl) (by kernel_rfl) (by kernel_rfl) (fun _ _ _ h => h) (Or.inr ⟨by rfl, rfl⟩) hHeld ?_
                  simp only [Act.put, List.getElem_toArray, List.getElem_cons_zero, List.getElem_cons_succ, List.setIfInBounds_toArray, List.set_cons_zero, List.set_cons_succ]
                  refine wpAnyH_take (i := 28) (v := undef) rfl (by kernel_rfl) (by kernel_rfl) (by kernel_rfl) (fun _ _ _ h => h) (Or.inr ⟨by rfl, rfl⟩) hHeld ?_
                  simp only [Act.put, List.getElem_toArray, List.getElem_cons_zero, List.getElem_cons_succ, List.setIfInBounds_toArray, List.set_cons_zero, List.set_cons_succ]
                  refine wpAnyH_take (i := 29) (v := undef) rfl (by kernel_rfl) (by kernel_rfl) (by kernel_rfl) (fun _ _ _ h => h) (Or.inr ⟨by rfl, rfl⟩) hHeld ?_
                  simp only [Act.put, List.getElem_toArray, List.getElem_cons_zero, List.getElem_cons_succ, List.setIfInBounds_toArray, List.set_cons_zero, List.set_cons_succ]
                  refine wpAnyH_take (i := 30) (v := .bool false) rfl (by kernel_rfl) (by kernel_rfl) (by kernel_rfl) (fun _ _ _ h => h) (Or.inl ⟨by rfl, fun W hW => rfl⟩) hHeld ?_
                  simp only [Act.put, List.getElem_toArray, List.getElem_cons_zero, List.getElem_cons_succ, List.setIfInBounds_toArray, List.set_cons_zero, List.set_cons_succ]
                  refine wpAnyH_take (i := 31) (v := .bool false) rfl (by kernel_rfl) (by kernel_rfl) (by kernel_rfl) (fun _ _ _ h => h) (Or.inl ⟨by rfl, fun W hW => rfl⟩) hHeld ?_
                  simp only [Act.put, List.getElem_toArray, List.getElem_cons_zero, List.getElem_cons_succ, List.setIfInBounds_toArray, List.set_cons_zero, List.set_cons_succ]
                  refine wpAnyH_done (by kernel_rfl) ?_ _
                  clear hB8 hO8 hcv
                  go_wp2
                  go_roundw
                  case rel => exact ⟨k + 1, _, F', f', by omega, by go_num, by omega, HN8.out⟩
                  case measure => simp [intOf]; omega
                · as_aux_lemma =>
                  obtain rfl := hbad hb8
                  clear hbad hok hb8
                  go_upto_region 33 with fail
                  go_quiet (fail)
                  go_wp2
                  go_roundw
                  case rel => exact ⟨k + 1, _, F', f', by omega, by go_num, by omega, HK6.out.drewN _⟩
                  case measure => simp [intOf]; omega
            · have hcase : nd < 0 ∨ (0 ≤ nd ∧ 4 < nd) := by omega
              clear hin hK5 hD5
              rcases hcase with h0 | ⟨h0, h5⟩
              all_goals as_aux_lemma =>
                go_wp2
                go_roundw
                case rel => exact ⟨k + 1, a', F', f', by omega, by go_num, by omega, HK5.out⟩
                case measure => simp [intOf]; omega
    · obtain rfl : k = L.length := by omega
      have HLv := Lib.hid (slLives (hK.sl.tab HT.out))
      have HB := Lib.hid hK.sl.below
      clear hK
      go_wp2_with (go_at_call 22; refine HLv.out.mono ?_; rintro e w4 ⟨rfl, hB4⟩)
      go_ret
      exact ⟨rfl, HB.out.trans (hB4.mono HB.out.size)⟩
end Go.Proofs.YtcbfaahnhdmagaaDoor
