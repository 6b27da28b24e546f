/- Slots: the walk of gunnylaw09.SlotsPlays. -/
import Derived.Test.YtcbfaahnhdmagaaDoorSlSt
namespace Go.Proofs.YtcbfaahnhdmagaaDoor
open Go.RowKit

theorem Bth.setR {w0 w w' : World} {S : Nat → Prop} {gs gd gl gb g gw a many bs cL q : Nat} {l : List Bool} {pg : Nat → List UInt8} {f : Nat → Bool} {AL : Option Addr} {rs : List Pg} {cs : Array Value} (h : Bth w0 w S gs gd gl gb g gw l a many pg f bs AL cL rs) (hZ : Bk w q 70 cs) (hq : bs ≤ q) (hf : Fr (fun x => x = q) w w') : Bth w0 w' S gs gd gl gb g gw l a many pg f bs AL cL rs := by
  refine ⟨h.sl.far hf fun k e => ?_, h.ref.far hZ hf, h.ties, h.old, h.lo, Nat.le_trans h.hi hf.size⟩
  subst e
  exact ⟨Nat.le_trans h.lo hq, h.farB hq⟩
theorem rAt_at {w : World} {base : Nat} {rs : List Pg} {AL : Option Addr} {cL : Nat} (M X Y : Value) (h : RefP w base (.slice AL rs.length cL) rs) (hl : rs.length ≤ 1000) (nd : (rs.map (·.n)).Nodup) {k0 : Nat} {r0 : Pg} (hk : rs[k0]? = some r0) {n : Int} (hn : (r0.n : Int) = n) :
    Calls Tryd.prog 36 #[.agg #[M, X, Y, .slice AL rs.length cL], .int .i64 n] w fun e w' => e = .returned (.int .i64 (k0 : Int)) ∧ Below w.heap.size w w' :=
  (rAt_yes M X Y n h hl ⟨r0, List.mem_of_getElem? hk, hn⟩).mono fun e w' ⟨⟨k, r, h3, h4, h5⟩, h2⟩ => ⟨by
    have hlt : k < (rs.map (·.n)).length := by rw [List.length_map]; exact (List.getElem?_eq_some_iff.1 h4).1
    have e1 : (rs.map (·.n))[k]? = (rs.map (·.n))[k0]? := by
      rw [List.getElem?_map, List.getElem?_map, h4, hk]
      simp
      omega
    have := (List.getElem?_inj hlt nd).1 e1
    rw [h3, this], h2⟩
theorem slNew_no (w : World) (A : Option Addr) (n c : Nat) (many : Int) (hm : many < 0 ∨ 128 < many) : Calls Tryd.prog 23 #[.int .i64 many, .slice A n c] w fun e w' => e = .returned (.tuple #[.pointer none, .int .i64 1]) ∧ w = w' := by
  rcases hm with hm | hm
  · have h1 : decide (many < 0) = true := decide_eq_true hm
    go_enter Tryd.func23, Tryd.ntmps23
    go_wp2
    go_ret2
    exact ⟨rfl, rfl⟩
  · have h1 : decide (many < 0) = false := decide_eq_false (by omega)
    have h2 : decide (128 < many) = true := decide_eq_true hm
    go_enter Tryd.func23, Tryd.ntmps23
    go_wp2
    go_ret2
    exact ⟨rfl, rfl⟩
set_option maxRecDepth 100000 in
set_option maxHeartbeats 4000000 in
theorem plays9_great (w : World) (hT : Tab w) (m : Int) (A A2 : Option Addr) (n c c2 : Nat) {L : List Dd} (h : DdsAt w w.heap.size A2 L) (hl : L.length ≤ 9223372036854775807) (hn : n ≤ 9223372036854775807) (hg : 3000 < n ∨ (n ≤ 3000 ∧ greatD L = true)) :
    Calls Tryd.prog 8 #[.int .i64 m, .slice A n c, .slice A2 L.length c2] w fun e w' => e = .returned (.bool true) ∧ Below w.heap.size w w' := by
  have HF := Lib.hid (filled9_any w 1)
  have HT := Lib.hid hT
  have HA := Lib.hid h
  clear hT h
  go_enter Tryd.func8, Tryd.ntmps8
  go_wp2_with fail
  refine HF.out.mono ?_
  rintro e w1 ⟨rfl, hO1, hB1⟩
  have HB1 := Lib.hid hB1
  have HL := Lib.hid (slLives (HT.out.below hB1 HT.out.lt))
  have HG := Lib.hid (dGreat_any (c := c2) (HA.out.below hB1) hl)
  clear hO1 hB1
  go_wp2_with fail
  refine (nPut _ _ _).mono ?_
  rintro e w2 ⟨rfl, rfl⟩
  go_wp2_with fail
  refine (nPage _).mono ?_
  rintro e w2 ⟨rfl, rfl⟩
  go_wp2_with fail
  refine (nLook _).mono ?_
  rintro e w2 ⟨rfl, rfl⟩
  go_wp2_with fail
  refine (nDrop _).mono ?_
  rintro e w2 ⟨rfl, rfl⟩
  go_wp2_with fail
  refine (nIn _).mono ?_
  rintro e w2 ⟨rfl, rfl⟩
  go_wp2_with fail
  refine (nSlots _).mono ?_
  rintro e w2 ⟨rfl, rfl⟩
  go_wp2_with fail
  refine (nUsed _).mono ?_
  rintro e w2 ⟨rfl, rfl⟩
  rcases hg with h5 | ⟨h5, hg⟩
  · have hi : (3000 : Int) < (n : Int) := by omega
    go_wp2_with fail
    refine HL.out.mono ?_
    rintro e w3 ⟨rfl, hB3⟩
    go_wp2
    go_ret
    exact ⟨rfl, HB1.out.trans (hB3.mono HB1.out.size)⟩
  · rw [hg] at HG
    have hi : ¬ (3000 : Int) < (n : Int) := by omega
    clear hg
    go_wp2_with fail
    refine HG.out.mono ?_
    rintro e w3 ⟨rfl, rfl⟩
    go_wp2_with fail
    refine HL.out.mono ?_
    rintro e w3 ⟨rfl, hB3⟩
    go_wp2
    go_ret
    exact ⟨rfl, HB1.out.trans (hB3.mono HB1.out.size)⟩
set_option maxRecDepth 100000 in
set_option maxHeartbeats 8000000 in
theorem plays9_any {w : World} (hT : Tab w) (m : Int) (hm : -9223372036854775808 ≤ m ∧ m ≤ 9223372036854775807) {A A2 : Option Addr} {c c2 : Nat} {l : List Bool} {L : List Dd} (hA : RdB w w.heap.size A l) (hl : l.length ≤ 3000) (h : DdsAt w w.heap.size A2 L) (hg : greatD L = false) :
    Calls Tryd.prog 8 #[.int .i64 m, .slice A l.length c, .slice A2 L.length c2] w fun e w' => e = .returned (.bool true) ∧ Below w.heap.size w w' := by
  obtain ⟨hL, -⟩ := greatD_no hg
  have HF := Lib.hid (filled9_any w 1)
  have HT := Lib.hid hT
  have HD := Lib.hid h
  have HA := Lib.hid hA
  clear hT h hA
  go_enter Tryd.func8, Tryd.ntmps8
  go_wp2_with fail
  refine HF.out.mono ?_
  rintro e w1 ⟨rfl, hO1, hB1⟩
  have HB1 := Lib.hid hB1
  have HL := Lib.hid (slLives (HT.out.below hB1 HT.out.lt))
  have HG := Lib.hid (dGreat_any (c := c2) (HD.out.below hB1) (by omega))
  rw [hg] at HG
  clear hO1 hB1 hg
  go_wp2_with fail
  refine (nPut _ _ _).mono ?_
  rintro e w2 ⟨rfl, rfl⟩
  go_wp2_with fail
  refine (nPage _).mono ?_
  rintro e w2 ⟨rfl, rfl⟩
  go_wp2_with fail
  refine (nLook _).mono ?_
  rintro e w2 ⟨rfl, rfl⟩
  go_wp2_with fail
  refine (nDrop _).mono ?_
  rintro e w2 ⟨rfl, rfl⟩
  go_wp2_with fail
  refine (nIn _).mono ?_
  rintro e w2 ⟨rfl, rfl⟩
  go_wp2_with fail
  refine (nSlots _).mono ?_
  rintro e w2 ⟨rfl, rfl⟩
  go_wp2_with fail
  refine (nUsed _).mono ?_
  rintro e w2 ⟨rfl, rfl⟩
  have hi : ¬ (3000 : Int) < (l.length : Int) := by omega
  go_wp2_with fail
  refine HG.out.mono ?_
  rintro e w2 ⟨rfl, rfl⟩
  have hmc : (m < 0 ∨ 128 < m) ∨ ∃ n : Nat, m = n ∧ n ≤ 128 := by
    rcases Int.lt_or_le m 0 with h | h
    · exact .inl (.inl h)
    · rcases Int.lt_or_le 128 m with h2 | h2
      · exact .inl (.inr h2)
      · exact .inr ⟨m.toNat, by omega, by omega⟩
  rcases hmc with hmo | ⟨many, rfl, hmany⟩
  · have HN := Lib.hid (slNew_no w1 A l.length c m hmo)
    have hd : decide (m < 0) = true ∨ (decide (m < 0) = false ∧ decide (128 < m) = true) := by
      rcases hmo with h | h
      · exact .inl (decide_eq_true h)
      · exact .inr ⟨decide_eq_false (by omega), decide_eq_true h⟩
    clear hmo
    go_wp2_with fail
    refine HN.out.mono ?_
    rintro e w2 ⟨rfl, rfl⟩
    rcases hd with hd | ⟨hd, hd2⟩
    all_goals
      go_wp2_with fail
      refine HL.out.mono ?_
      rintro e w3 ⟨rfl, hB3⟩
      go_wp2
      go_ret
      exact ⟨rfl, HB1.out.trans (hB3.mono HB1.out.size)⟩
  · have HN := Lib.hid (slNew_run (w := w1) (c := c) (HA.out.below HB1.out) HB1.out.size (by omega) many hmany (fun _ => []))
    have hmi : (many : Int) ≤ 128 := by omega
    clear hm
    go_wp2_with fail
    refine HN.out.mono ?_
    rintro e w2 ⟨S, gs, gd, gl, gb, g, gw, rfl, h2⟩
    have H2 := Lib.hid h2
    clear h2 HN
    go_upto_region 15 with fail
    obtain ⟨w3, hw3⟩ : ∃ w3, w3 = w2.alloc (.cells #[.int .i64 many, .slice A l.length c, .int .i64 0, .slice none 0 0] 70) := ⟨_, rfl⟩
    have hP : PlS w1 w3 S gs gd gl gb g gw w2.heap.size A c l 0 many (fun _ => []) (fun _ => false) w2.heap.size none 0 [] := by
      have hb : Below w2.heap.size w2 w3 := by rw [hw3]; exact (Below.refl _ _).alloc (Nat.le_refl _) _
      refine ⟨⟨H2.out.below0 hb, RefP.nil _ _, Ties.nil _ _, H2.out.lt, H2.out.below.size, hb.size⟩, ?_, Nat.le_refl _⟩
      rw [hw3]
      exact Bk.new _ _ _
    rw [← hw3]
    have HP := Lib.hid hP
    have HA1 : Hid (RdB w1 w1.heap.size A l) := (HA.out.below HB1.out).more HB1.out.size
    have HD1 := Lib.hid (HD.out.below HB1.out)
    have HT1 := Lib.hid (HT.out.below HB1.out HT.out.lt)
    have hz1 := HB1.out.size
    clear hw3 hP H2 HA HD HT HF HG HL
    obtain ⟨bs, hbs⟩ : ∃ bs, bs = w2.heap.size := ⟨_, rfl⟩
    have HP' : Hid (PlS w1 w3 S gs gd gl gb g gw w2.heap.size A c l 0 many (fun _ => []) (fun _ => false) bs none 0 []) := by rw [hbs]; exact HP.out
    clear HP hbs
    generalize w2.heap.size = gx at *
    go_wp2
    go_loopw [17] (fun i wr => ∃ (k a : Nat) (pg : Nat → List UInt8) (f : Nat → Bool) (AL : Option Addr) (cL : Nat) (rs : List Pg), k ≤ L.length ∧ i = .int .i64 k ∧ a ≤ 8 * k ∧ PlS w1 wr S gs gd gl gb g gw gx A c l a many pg f bs AL cL rs) (fun i _ => L.length - (intOf i).toNat)
    case atStart => exact ⟨0, 0, _, _, _, _, _, Nat.zero_le _, rfl, Nat.zero_le _, HP'.out⟩
    case round =>
      clear HP'
      obtain ⟨k, a, pg, f, AL, cL, rs, hk, rfl, hak, hP⟩ := hrel
      have HP := Lib.hid hP
      rcases Nat.lt_or_ge k L.length with hlt | hge
      · obtain ⟨d2, b, o, -, rfl, hbB2, hd0, hd1, hd2, hd3, hdY1, hdc⟩ := HD1.out.get hlt
        have HDk : Hid (∀ W, Below w1.heap.size w1 W → W.cell? ⟨b, o + k * 4, none⟩ = some (.int .i64 d2.kind) ∧ W.cell? ⟨b, o + k * 4 + 1, none⟩ = some (.int .i64 d2.n) ∧ W.cell? ⟨b, o + k * 4 + 2, none⟩ = some (.int .u8 (d2.fill.toNat : Int)) ∧ W.cell? ⟨b, o + k * 4 + 3, none⟩ = some (.slice d2.A d2.b.length d2.c)) := fun W hW =>
          have hb : b < w1.heap.size := by omega
          ⟨(hW.cell (p := ⟨b, _, none⟩) hb).trans hd0, (hW.cell (p := ⟨b, _, none⟩) hb).trans hd1, (hW.cell (p := ⟨b, _, none⟩) hb).trans hd2, (hW.cell (p := ⟨b, _, none⟩) hb).trans hd3⟩
        have HSt : Hid (∀ W, Bth w1 W S gs gd gl gb g gw l a many pg f bs AL cL rs → Calls Tryd.prog 34 #[.pointer (some ⟨gs, 0, none⟩), .agg #[.int .i64 many, .slice A l.length c, .int .i64 a, .slice AL rs.length cL], .agg #[.int .i64 d2.kind, .int .i64 d2.n, .int .u8 (d2.fill.toNat : Int), .slice d2.A d2.b.length d2.c]] W (StepQ w1 W S gs gd gl gb g gw l a many bs A c)) := fun W hW =>
          step_any HT1.out hW HA1.out hl (by omega) _ _ _ (hdY1.more hz1) hdc
        have HK : Hid (∀ W, Bk W gx 70 #[.int .i64 many, .slice A l.length c, .int .i64 a, .slice AL rs.length cL] → Below w1.heap.size w1 W → (W.cell? ⟨gx, 0, none⟩ = some (.int .i64 many) ∧ W.cell? ⟨gx, 1, none⟩ = some (.slice A l.length c) ∧ W.cell? ⟨gx, 2, none⟩ = some (.int .i64 a) ∧ W.cell? ⟨gx, 3, none⟩ = some (.slice AL rs.length cL)) ∧ W.cell? ⟨b, o + k * 4, none⟩ = some (.int .i64 d2.kind) ∧ W.cell? ⟨b, o + k * 4 + 1, none⟩ = some (.int .i64 d2.n) ∧ W.cell? ⟨b, o + k * 4 + 2, none⟩ = some (.int .u8 (d2.fill.toNat : Int)) ∧ W.cell? ⟨b, o + k * 4 + 3, none⟩ = some (.slice d2.A d2.b.length d2.c)) := fun W h1 h2 =>
          ⟨⟨h1.cell 0, h1.cell 1, h1.cell 2, h1.cell 3⟩, HDk.out W h2⟩
        have hlen := hP.bth.le
        generalize d2.n = nd at *
        generalize d2.kind = kd at *
        clear hdY1 hdc hd0 hd1 hd2 hd3 hP
        obtain ⟨⟨x0, x1, x2, x3⟩, hk0, hk1, hk2, hk3⟩ := HK.out _ HP.out.var HP.out.bth.sl.below
        go_upto_region 18 with fail
        go_cut [18, 19] (fun s18 s19 wx => ∃ (g18 a' : Nat) (pg' : Nat → List UInt8) (f' : Nat → Bool) (AL' : Option Addr) (cL' : Nat) (rs' : List Pg), s18 = .pointer (some ⟨g18, 0, none⟩) ∧ s19 = .bool true ∧ a' ≤ a + 8 ∧ Bth w1 wx S gs gd gl gb g gw l a' many pg' f' bs AL' cL' rs' ∧ Bk wx gx 70 #[.int .i64 many, .slice A l.length c, .int .i64 a, .slice AL rs.length cL] ∧ Bk wx g18 70 #[.int .i64 many, .slice A l.length c, .int .i64 a', .slice AL' rs'.length cL'] ∧ bs ≤ g18 ∧ g18 ≠ gx)
        case first => as_aux_lemma =>
          have HP1 := Lib.hid (HP.out.drewN 1)
          have hlo := HP.out.lo
          have hBc := HP1.out.bth
          refine wp_region_held_drew (S := fun W => (Bk W gx 70 #[.int .i64 many, .slice A l.length c, .int .i64 a, .slice AL rs.length cL] ∧ W.cell? ⟨b, o + k * 4, none⟩ = some (.int .i64 kd) ∧ W.cell? ⟨b, o + k * 4 + 1, none⟩ = some (.int .i64 nd) ∧ W.cell? ⟨b, o + k * 4 + 2, none⟩ = some (.int .u8 (d2.fill.toNat : Int)) ∧ W.cell? ⟨b, o + k * 4 + 3, none⟩ = some (.slice d2.A d2.b.length d2.c))) (by kernel_rfl) ⟨HP1.out.var, HDk.out _ HP1.out.bth.sl.below⟩ (fun hHeld => ?_)
          refine wpAnyH_take (i := 0) (v := .pointer (some ⟨gs, 0, none⟩)) rfl (by kernel_rfl) (by kernel_rfl) (by kernel_rfl) (fun _ _ _ h => h) (Or.inl ⟨by rfl, fun W hW => rfl⟩) hHeld ?_
          simp only [Act.put, List.getElem_toArray, List.getElem_cons_zero, List.setIfInBounds_toArray, List.set_cons_zero, List.set_cons_succ]
          refine wpAnyH_take (i := 1) (v := .agg #[.int .i64 many, .slice A l.length c, .int .i64 a, .slice AL rs.length cL]) rfl (by kernel_rfl) (by kernel_rfl) (by kernel_rfl) (fun _ _ _ h => h) (Or.inl ⟨by rfl, fun W hW => run_load_row W 70 (.tmp 16) rfl gx rfl 70 _ _ hW.1 Tryd.underlying70 rfl s9_info⟩) hHeld ?_
          simp only [Act.put, List.getElem_toArray, List.getElem_cons_zero, List.getElem_cons_succ, List.setIfInBounds_toArray, List.set_cons_zero, List.set_cons_succ]
          refine wpAnyH_take (i := 2) (v := .slice (some ⟨b, o, none⟩) L.length c2) rfl (by kernel_rfl) (by kernel_rfl) (by kernel_rfl) (fun _ _ _ h => h) (Or.inl ⟨by rfl, fun W hW => rfl⟩) hHeld ?_
          simp only [Act.put, List.getElem_toArray, List.getElem_cons_zero, List.getElem_cons_succ, List.setIfInBounds_toArray, List.set_cons_zero, List.set_cons_succ]
          refine wpAnyH_take (i := 3) (v := .int .i64 k) rfl (by kernel_rfl) (by kernel_rfl) (by kernel_rfl) (fun _ _ _ h => h) (Or.inl ⟨by rfl, fun W hW => rfl⟩) hHeld ?_
          simp only [Act.put, List.getElem_toArray, List.getElem_cons_zero, List.getElem_cons_succ, List.setIfInBounds_toArray, List.set_cons_zero, List.set_cons_succ]
          refine wpAnyH_take (i := 4) (v := .pointer (some ⟨b, o + k * 4, none⟩)) rfl (by kernel_rfl) (by kernel_rfl) (by kernel_rfl) (fun _ _ _ h => h) (Or.inl ⟨by rfl, fun W hW => by go_simp⟩) hHeld ?_
          simp only [Act.put, List.getElem_toArray, List.getElem_cons_zero, List.getElem_cons_succ, List.setIfInBounds_toArray, List.set_cons_zero, List.set_cons_succ]
          refine wpAnyH_take (i := 5) (v := .agg #[.int .i64 kd, .int .i64 nd, .int .u8 (d2.fill.toNat : Int), .slice d2.A d2.b.length d2.c]) rfl (by kernel_rfl) (by kernel_rfl) (by kernel_rfl) (fun _ _ _ h => h) (Or.inl ⟨by rfl, fun W hW => by obtain ⟨-, h0, h1, h2, h3⟩ := hW; go_simp⟩) hHeld ?_
          simp only [Act.put, List.getElem_toArray, List.getElem_cons_zero, List.getElem_cons_succ, List.setIfInBounds_toArray, List.set_cons_zero, List.set_cons_succ]
          refine wpAnyH_ready (rs := [6, 10]) (by kernel_rfl) (by simp) ?_
          refine AllReadyH.cons rfl (fun K hK => ?_) (AllReadyH.cons rfl (fun K hK => ?_) AllReadyH.nil)
          · rw [if_pos (by rfl)]
            go_simp
            refine (HSt.out _ hBc).mono ?_
            rintro e w9 ⟨a', rs', AL', cL', pg', f', rfl, ha', hB9, hF9⟩
            go_wp2_with fail
            have hV9 := HP1.out.var.fr hF9 (HP1.out.bth.far hlo)
            have hHeld2 : (fun W => (Bk W gx 70 #[.int .i64 many, .slice A l.length c, .int .i64 a, .slice AL rs.length cL] ∧ W.cell? ⟨b, o + k * 4, none⟩ = some (.int .i64 kd) ∧ W.cell? ⟨b, o + k * 4 + 1, none⟩ = some (.int .i64 nd) ∧ W.cell? ⟨b, o + k * 4 + 2, none⟩ = some (.int .u8 (d2.fill.toNat : Int)) ∧ W.cell? ⟨b, o + k * 4 + 3, none⟩ = some (.slice d2.A d2.b.length d2.c))) w9 := ⟨hV9, HDk.out _ hB9.sl.below⟩
            refine hK.out _ _ hHeld2 (fun hHeld => ?_)
            clear hHeld2 hK
            try simp only [Act.put, List.getElem_toArray, List.getElem_cons_zero, List.getElem_cons_succ, List.setIfInBounds_toArray, List.set_cons_zero, List.set_cons_succ]
            refine wpAnyH_take (i := 7) (v := .tuple #[.agg #[.int .i64 many, .slice A l.length c, .int .i64 a', .slice AL' rs'.length cL'], .bool true]) rfl (by kernel_rfl) (by kernel_rfl) (by kernel_rfl) (fun _ _ _ h => h) (Or.inl ⟨by rfl, fun W hW => rfl⟩) hHeld ?_
            simp only [Act.put, List.getElem_toArray, List.getElem_cons_zero, List.getElem_cons_succ, List.setIfInBounds_toArray, List.set_cons_zero, List.set_cons_succ]
            refine wpAnyH_take (i := 8) (v := .agg #[.int .i64 many, .slice A l.length c, .int .i64 a', .slice AL' rs'.length cL']) rfl (by kernel_rfl) (by kernel_rfl) (by kernel_rfl) (fun _ _ _ h => h) (Or.inl ⟨by rfl, fun W hW => by go_simp⟩) hHeld ?_
            simp only [Act.put, List.getElem_toArray, List.getElem_cons_zero, List.getElem_cons_succ, List.setIfInBounds_toArray, List.set_cons_zero, List.set_cons_succ]
            refine wpAnyH_take (i := 9) (v := .bool true) rfl (by kernel_rfl) (by kernel_rfl) (by kernel_rfl) (fun _ _ _ h => h) (Or.inl ⟨by rfl, fun W hW => by go_simp⟩) hHeld ?_
            simp only [Act.put, List.getElem_toArray, List.getElem_cons_zero, List.getElem_cons_succ, List.setIfInBounds_toArray, List.set_cons_zero, List.set_cons_succ]
            refine wpAnyH_ready (rs := [10]) (by kernel_rfl) (by simp) ?_
            refine AllReadyH.cons rfl (fun K hK => ?_) AllReadyH.nil
            rw [if_pos (by rfl)]
            refine wp_alloc_abs 70 rfl #[.int .i64 0, .slice none 0 0, .int .i64 0, .slice none 0 0] s9_zero ?_
            intro W3 y hy hy5 hB3
            have hB5 := hB9.below0 hB3
            have hV5 := hV9.below' hB3
            have hyb : bs ≤ y := Nat.le_trans hB9.hi hy
            have hyx : gx ≠ y := by have := hV9.lt; omega
            have hHeld2 : (fun W => (Bk W gx 70 #[.int .i64 many, .slice A l.length c, .int .i64 a, .slice AL rs.length cL] ∧ W.cell? ⟨b, o + k * 4, none⟩ = some (.int .i64 kd) ∧ W.cell? ⟨b, o + k * 4 + 1, none⟩ = some (.int .i64 nd) ∧ W.cell? ⟨b, o + k * 4 + 2, none⟩ = some (.int .u8 (d2.fill.toNat : Int)) ∧ W.cell? ⟨b, o + k * 4 + 3, none⟩ = some (.slice d2.A d2.b.length d2.c))) W3 := ⟨hV5, HDk.out _ hB5.sl.below⟩
            refine hK.out _ _ hHeld2 (fun hHeld => ?_)
            clear hHeld2 hK
            try simp only [Act.put, List.getElem_toArray, List.getElem_cons_zero, List.getElem_cons_succ, List.setIfInBounds_toArray, List.set_cons_zero, List.set_cons_succ]
            obtain ⟨W5, e5⟩ : ∃ W, W = W3 := ⟨_, rfl⟩
            rw [← e5] at hHeld hB5 hy5 hV5 ⊢
            refine wpAnyH_ready (rs := [11]) (by kernel_rfl) (by simp) ?_
            refine AllReadyH.cons rfl (fun K hK => ?_) AllReadyH.nil
            rw [if_pos (by rfl)]
            refine wp_store_row 70 (.tmp 18) (.tmp 129) rfl y rfl 70 #[.int .i64 0, .slice none 0 0, .int .i64 0, .slice none 0 0] #[.int .i64 many, .slice A l.length c, .int .i64 a', .slice AL' rs'.length cL'] rfl hy5 s9_info rfl (fun v hv => by simp at hv; rcases hv with rfl | rfl | rfl | rfl <;> rfl) ?_
            have hy6 := Bk.setRow hy5 #[.int .i64 many, .slice A l.length c, .int .i64 a', .slice AL' rs'.length cL']
            have hF6 : Fr (fun x => x = y) W5 (W5.setRow y #[.int .i64 many, .slice A l.length c, .int .i64 a', .slice AL' rs'.length cL']) := (Fr.refl _ W5).setRow y _ fun _ => rfl
            have hB6 := hB5.setR hy5 hyb hF6
            have hV6 := hV5.fr hF6 hyx
            generalize W5.setRow y #[.int .i64 many, .slice A l.length c, .int .i64 a', .slice AL' rs'.length cL'] = W6 at *
            have hHeld2 : (fun W => (Bk W gx 70 #[.int .i64 many, .slice A l.length c, .int .i64 a, .slice AL rs.length cL] ∧ W.cell? ⟨b, o + k * 4, none⟩ = some (.int .i64 kd) ∧ W.cell? ⟨b, o + k * 4 + 1, none⟩ = some (.int .i64 nd) ∧ W.cell? ⟨b, o + k * 4 + 2, none⟩ = some (.int .u8 (d2.fill.toNat : Int)) ∧ W.cell? ⟨b, o + k * 4 + 3, none⟩ = some (.slice d2.A d2.b.length d2.c))) W6 := ⟨hV6, HDk.out _ hB6.sl.below⟩
            refine hK.out _ _ hHeld2 (fun hHeld => ?_)
            clear hHeld2 hK
            try simp only [Act.put, List.getElem_toArray, List.getElem_cons_zero, List.getElem_cons_succ]
            refine wpAnyH_take (i := 12) (v := .bool true) rfl (by kernel_rfl) (by kernel_rfl) (by kernel_rfl) (fun _ _ _ h => h) (Or.inl ⟨by rfl, fun W hW => rfl⟩) hHeld ?_
            simp only [Act.put, List.getElem_toArray, List.getElem_cons_zero, List.getElem_cons_succ, List.setIfInBounds_toArray, List.set_cons_zero, List.set_cons_succ]
            refine wpAnyH_done (by kernel_rfl) ?_ _
            go_wp2
            go_meet
            exact ⟨y, a', pg', f', AL', cL', rs', rfl, rfl, ha', hB6, hV6, hy6, hyb, fun e => hyx e.symm⟩
          · rw [if_pos (by rfl)]
            refine wp_alloc_abs 70 rfl #[.int .i64 0, .slice none 0 0, .int .i64 0, .slice none 0 0] s9_zero ?_
            intro W3 y hy hy3 hB3
            have hBc := HP1.out.bth.below0 hB3
            have hV3 := HP1.out.var.below' hB3
            have hyb : bs ≤ y := Nat.le_trans HP1.out.bth.hi hy
            have hyw : wr.heap.size ≤ y := hy
            have hyx : gx ≠ y := by have := HP.out.var.lt; omega
            have hHeld2 : (fun W => (Bk W gx 70 #[.int .i64 many, .slice A l.length c, .int .i64 a, .slice AL rs.length cL] ∧ W.cell? ⟨b, o + k * 4, none⟩ = some (.int .i64 kd) ∧ W.cell? ⟨b, o + k * 4 + 1, none⟩ = some (.int .i64 nd) ∧ W.cell? ⟨b, o + k * 4 + 2, none⟩ = some (.int .u8 (d2.fill.toNat : Int)) ∧ W.cell? ⟨b, o + k * 4 + 3, none⟩ = some (.slice d2.A d2.b.length d2.c))) W3 := ⟨hV3, HDk.out _ hBc.sl.below⟩
            refine hK.out _ _ hHeld2 (fun hHeld => ?_)
            clear hHeld2 hK
            try simp only [Act.put, List.getElem_toArray, List.getElem_cons_zero, List.getElem_cons_succ, List.setIfInBounds_toArray, List.set_cons_zero, List.set_cons_succ]
            refine wpAnyH_ready (rs := [6]) (by kernel_rfl) (by simp) ?_
            refine AllReadyH.cons rfl (fun K hK => ?_) AllReadyH.nil
            rw [if_pos (by rfl)]
            go_simp
            refine (HSt.out _ hBc).mono ?_
            rintro e w9 ⟨a', rs', AL', cL', pg', f', rfl, ha', hB9, hF9⟩
            go_wp2_with fail
            have hV5 := hV3.fr hF9 (hBc.far hlo)
            have hy5 := hy3.fr hF9 (hBc.far hyb)
            have hB5 := hB9
            have hHeld2 : (fun W => (Bk W gx 70 #[.int .i64 many, .slice A l.length c, .int .i64 a, .slice AL rs.length cL] ∧ W.cell? ⟨b, o + k * 4, none⟩ = some (.int .i64 kd) ∧ W.cell? ⟨b, o + k * 4 + 1, none⟩ = some (.int .i64 nd) ∧ W.cell? ⟨b, o + k * 4 + 2, none⟩ = some (.int .u8 (d2.fill.toNat : Int)) ∧ W.cell? ⟨b, o + k * 4 + 3, none⟩ = some (.slice d2.A d2.b.length d2.c))) w9 := ⟨hV5, HDk.out _ hB9.sl.below⟩
            refine hK.out _ _ hHeld2 (fun hHeld => ?_)
            clear hHeld2 hK
            try simp only [Act.put, List.getElem_toArray, List.getElem_cons_zero, List.getElem_cons_succ, List.setIfInBounds_toArray, List.set_cons_zero, List.set_cons_succ]
            refine wpAnyH_take (i := 7) (v := .tuple #[.agg #[.int .i64 many, .slice A l.length c, .int .i64 a', .slice AL' rs'.length cL'], .bool true]) rfl (by kernel_rfl) (by kernel_rfl) (by kernel_rfl) (fun _ _ _ h => h) (Or.inl ⟨by rfl, fun W hW => rfl⟩) hHeld ?_
            simp only [Act.put, List.getElem_toArray, List.getElem_cons_zero, List.getElem_cons_succ, List.setIfInBounds_toArray, List.set_cons_zero, List.set_cons_succ]
            refine wpAnyH_take (i := 8) (v := .agg #[.int .i64 many, .slice A l.length c, .int .i64 a', .slice AL' rs'.length cL']) rfl (by kernel_rfl) (by kernel_rfl) (by kernel_rfl) (fun _ _ _ h => h) (Or.inl ⟨by rfl, fun W hW => by go_simp⟩) hHeld ?_
            simp only [Act.put, List.getElem_toArray, List.getElem_cons_zero, List.getElem_cons_succ, List.setIfInBounds_toArray, List.set_cons_zero, List.set_cons_succ]
            refine wpAnyH_take (i := 9) (v := .bool true) rfl (by kernel_rfl) (by kernel_rfl) (by kernel_rfl) (fun _ _ _ h => h) (Or.inl ⟨by rfl, fun W hW => by go_simp⟩) hHeld ?_
            simp only [Act.put, List.getElem_toArray, List.getElem_cons_zero, List.getElem_cons_succ, List.setIfInBounds_toArray, List.set_cons_zero, List.set_cons_succ]
            obtain ⟨W5, e5⟩ : ∃ W, W = w9 := ⟨_, rfl⟩
            rw [← e5] at hHeld hB5 hy5 hV5 ⊢
            refine wpAnyH_ready (rs := [11]) (by kernel_rfl) (by simp) ?_
            refine AllReadyH.cons rfl (fun K hK => ?_) AllReadyH.nil
            rw [if_pos (by rfl)]
            refine wp_store_row 70 (.tmp 18) (.tmp 129) rfl y rfl 70 #[.int .i64 0, .slice none 0 0, .int .i64 0, .slice none 0 0] #[.int .i64 many, .slice A l.length c, .int .i64 a', .slice AL' rs'.length cL'] rfl hy5 s9_info rfl (fun v hv => by simp at hv; rcases hv with rfl | rfl | rfl | rfl <;> rfl) ?_
            have hy6 := Bk.setRow hy5 #[.int .i64 many, .slice A l.length c, .int .i64 a', .slice AL' rs'.length cL']
            have hF6 : Fr (fun x => x = y) W5 (W5.setRow y #[.int .i64 many, .slice A l.length c, .int .i64 a', .slice AL' rs'.length cL']) := (Fr.refl _ W5).setRow y _ fun _ => rfl
            have hB6 := hB5.setR hy5 hyb hF6
            have hV6 := hV5.fr hF6 hyx
            generalize W5.setRow y #[.int .i64 many, .slice A l.length c, .int .i64 a', .slice AL' rs'.length cL'] = W6 at *
            have hHeld2 : (fun W => (Bk W gx 70 #[.int .i64 many, .slice A l.length c, .int .i64 a, .slice AL rs.length cL] ∧ W.cell? ⟨b, o + k * 4, none⟩ = some (.int .i64 kd) ∧ W.cell? ⟨b, o + k * 4 + 1, none⟩ = some (.int .i64 nd) ∧ W.cell? ⟨b, o + k * 4 + 2, none⟩ = some (.int .u8 (d2.fill.toNat : Int)) ∧ W.cell? ⟨b, o + k * 4 + 3, none⟩ = some (.slice d2.A d2.b.length d2.c))) W6 := ⟨hV6, HDk.out _ hB6.sl.below⟩
            refine hK.out _ _ hHeld2 (fun hHeld => ?_)
            clear hHeld2 hK
            try simp only [Act.put, List.getElem_toArray, List.getElem_cons_zero, List.getElem_cons_succ]
            refine wpAnyH_take (i := 12) (v := .bool true) rfl (by kernel_rfl) (by kernel_rfl) (by kernel_rfl) (fun _ _ _ h => h) (Or.inl ⟨by rfl, fun W hW => rfl⟩) hHeld ?_
            simp only [Act.put, List.getElem_toArray, List.getElem_cons_zero, List.getElem_cons_succ, List.setIfInBounds_toArray, List.set_cons_zero, List.set_cons_succ]
            refine wpAnyH_done (by kernel_rfl) ?_ _
            go_wp2
            go_meet
            exact ⟨y, a', pg', f', AL', cL', rs', rfl, rfl, ha', hB6, hV6, hy6, hyb, fun e => hyx e.symm⟩
        case rest =>
          obtain ⟨g18, a', pg', f', AL', cL', rs', rfl, rfl, ha', hB5, hV5, hY5, hgb, hgn⟩ := hcut
          obtain ⟨w5, hw5⟩ : ∃ w5 : World, w5 = wc := ⟨_, rfl⟩
          rw [← hw5] at hB5 hV5 hY5 ⊢
          clear hw5 x0 x1 x2 x3 hk0 hk1 hk2 hk3
          have HB5 := Lib.hid hB5
          have HV5 := Lib.hid hV5
          have hlo := HP.out.lo
          have y0 : w5.cell? ⟨g18, 0, none⟩ = some (.int .i64 many) := hY5.cell 0
          have y1 : w5.cell? ⟨g18, 1, none⟩ = some (.slice A l.length c) := hY5.cell 1
          have y2 : w5.cell? ⟨g18, 2, none⟩ = some (.int .i64 a') := hY5.cell 2
          have y3 : w5.cell? ⟨g18, 3, none⟩ = some (.slice AL' rs'.length cL') := hY5.cell 3
          have x0 : w5.cell? ⟨gx, 0, none⟩ = some (.int .i64 many) := hV5.cell 0
          have x1 : w5.cell? ⟨gx, 1, none⟩ = some (.slice A l.length c) := hV5.cell 1
          have x2 : w5.cell? ⟨gx, 2, none⟩ = some (.int .i64 a) := hV5.cell 2
          have x3 : w5.cell? ⟨gx, 3, none⟩ = some (.slice AL rs.length cL) := hV5.cell 3
          have f0 := hV5.free 0
          have f1 := hV5.free 1
          have f2 := hV5.free 2
          have f3 := hV5.free 3
          clear hB5 hV5 hY5
          go_upto_region 20 with fail
          have hP6 : PlS w1 ((((w5.setCell ⟨gx, 0, none⟩ (.int .i64 many)).setCell ⟨gx, 1, none⟩ (.slice A l.length c)).setCell ⟨gx, 2, none⟩ (.int .i64 a')).setCell ⟨gx, 3, none⟩ (.slice AL' rs'.length cL')) S gs gd gl gb g gw gx A c l a' many pg' f' bs AL' cL' rs' :=
            ⟨HB5.out.setS HV5.out hlo _ _ _ _, HV5.out.set4 _ _ _ _, hlo⟩
          generalize (((w5.setCell ⟨gx, 0, none⟩ (.int .i64 many)).setCell ⟨gx, 1, none⟩ (.slice A l.length c)).setCell ⟨gx, 2, none⟩ (.int .i64 a')).setCell ⟨gx, 3, none⟩ (.slice AL' rs'.length cL') = w6 at *
          have HP6 := Lib.hid hP6
          clear hP6 HB5 HV5 y0 y1 y2 y3 x0 x1 x2 x3 f0 f1 f2 f3 HSt HK HP
          have HU : Hid (∀ W, PlS w1 W S gs gd gl gb g gw gx A c l a' many pg' f' bs AL' cL' rs' → Calls Tryd.prog 29 #[.pointer (some ⟨gs, 0, none⟩)] W fun e w' => e = .returned (.int .i64 (rs'.length : Nat)) ∧ W = w') := fun W hW => by rw [hW.bth.ties.len]; exact hW.bth.sl.used
          have HM : Hid (∀ W, PlS w1 W S gs gd gl gb g gw gx A c l a' many pg' f' bs AL' cL' rs' → Calls Tryd.prog 37 #[.pointer (some ⟨gd, 0, none⟩)] W fun e w' => e = .returned (.int .i64 (8 * (many : Int))) ∧ W = w') := fun W hW => by
            obtain ⟨bs9, hS9, _⟩ := hW.bth.sl.is_
            have := dMany_any hS9.disk
            rwa [show ((many * 8 : Nat) : Int) = 8 * (many : Int) by omega] at this
          have hlen' := HP6.out.bth.le
          cases hin : (mayB many nd && f' nd.toNat)
          · have HI : Hid (∀ W, PlS w1 W S gs gd gl gb g gw gx A c l a' many pg' f' bs AL' cL' rs' → Calls Tryd.prog 32 #[.pointer (some ⟨gs, 0, none⟩), .int .i64 nd] W fun e w' => e = .returned (.bool false) ∧ W = w') := fun W hW => by have := hW.bth.sl.in_ nd; rwa [hin] at this
            have HAt : Hid (∀ W, PlS w1 W S gs gd gl gb g gw gx A c l a' many pg' f' bs AL' cL' rs' → Calls Tryd.prog 36 #[.agg #[.int .i64 many, .slice A l.length c, .int .i64 a', .slice AL' rs'.length cL'], .int .i64 nd] W fun e w' => e = .returned (.int .i64 (-1)) ∧ Below W.heap.size W w') := fun W hW => rAt_no _ _ _ nd hW.bth.ref (by omega) (hW.bth.ties.no hin)
            clear hin
            refine wp_region_class (fun W => PlS w1 W S gs gd gl gb g gw gx A c l a' many pg' f' bs AL' cL' rs') (by kernel_rfl) (by kernel_rfl) (HP6.out.drewN 1) ?_
            repeat (first
              | (go_big_quiet_want; refine quiet_load_row 70 (.tmp 16) rfl gx rfl 70 _ _ (fun W hW => hW.var) Tryd.underlying70 rfl s9_info ?_; go_big_quiet_on; simp only [Act.put, List.setIfInBounds_toArray, List.set_cons_zero, List.set_cons_succ])
              | go_big_quiet_step ((intro hC; first
                | (go_at_call 35; refine (asked_any hC.bth.sl.luck).mono ?_; rintro x w'' ⟨rfl, rfl⟩; exact ⟨rfl, hC⟩)
                | (go_at_call 29; refine (HU.out _ hC).mono ?_; rintro x w'' ⟨rfl, rfl⟩; exact ⟨rfl, hC⟩)
                | (go_at_call 33; refine hC.bth.sl.slots.mono ?_; rintro x w'' ⟨rfl, rfl⟩; exact ⟨rfl, hC⟩)
                | (go_at_call 32; refine (HI.out _ hC).mono ?_; rintro x w'' ⟨rfl, rfl⟩; exact ⟨rfl, hC⟩)
                | (go_at_call 36; refine (HAt.out _ hC).mono ?_; rintro x w'' ⟨rfl, hB⟩; exact ⟨rfl, hC.below0 hB⟩)
                | (go_at_call 37; refine (HM.out _ hC).mono ?_; rintro x w'' ⟨rfl, rfl⟩; exact ⟨rfl, hC⟩)
                | (obtain ⟨d0, d1, d2c, d3⟩ := HDk.out _ hC.bth.sl.below; have v2 := hC.var.cell 2; have v3 := hC.var.cell 3; obtain ⟨q0, q1⟩ := hC.bth.sl.c0; go_simp; try exact rfl)
                | exact rfl)))
            refine wpQuiet_nil ?_
            intro w8 hR8
            go_wp2
            go_roundw
            case rel => exact ⟨k + 1, a', pg', f', AL', cL', rs', by omega, by go_num, by omega, hR8⟩
            case measure => simp [intOf]; omega
          · obtain ⟨k0, r0, hk0, hr0⟩ : ∃ (k0 : Nat) (r0 : Pg), rs'[k0]? = some r0 ∧ (r0.n : Int) = nd := by
              have h2 := hin
              simp only [Bool.and_eq_true] at h2
              obtain ⟨n, rfl, hn⟩ := mayB_true h2.1
              obtain ⟨r, hr, hrn⟩ := HP6.out.bth.ties.has n hn (by simpa using h2.2)
              obtain ⟨k0, hk0⟩ := List.mem_iff_getElem?.1 hr
              exact ⟨k0, r, hk0, by omega⟩
            have HI : Hid (∀ W, PlS w1 W S gs gd gl gb g gw gx A c l a' many pg' f' bs AL' cL' rs' → Calls Tryd.prog 32 #[.pointer (some ⟨gs, 0, none⟩), .int .i64 nd] W fun e w' => e = .returned (.bool true) ∧ W = w') := fun W hW => by have := hW.bth.sl.in_ nd; rwa [hin] at this
            have HAt : Hid (∀ W, PlS w1 W S gs gd gl gb g gw gx A c l a' many pg' f' bs AL' cL' rs' → Calls Tryd.prog 36 #[.agg #[.int .i64 many, .slice A l.length c, .int .i64 a', .slice AL' rs'.length cL'], .int .i64 nd] W fun e w' => e = .returned (.int .i64 (k0 : Int)) ∧ Below W.heap.size W w') := fun W hW => rAt_at _ _ _ hW.bth.ref (by omega) hW.bth.ties.nd hk0 hr0
            clear hin hk0 hr0
            refine wp_region_class (fun W => PlS w1 W S gs gd gl gb g gw gx A c l a' many pg' f' bs AL' cL' rs') (by kernel_rfl) (by kernel_rfl) (HP6.out.drewN 1) ?_
            repeat (first
              | (go_big_quiet_want; refine quiet_load_row 70 (.tmp 16) rfl gx rfl 70 _ _ (fun W hW => hW.var) Tryd.underlying70 rfl s9_info ?_; go_big_quiet_on; simp only [Act.put, List.setIfInBounds_toArray, List.set_cons_zero, List.set_cons_succ])
              | go_big_quiet_step ((intro hC; first
                | (go_at_call 35; refine (asked_any hC.bth.sl.luck).mono ?_; rintro x w'' ⟨rfl, rfl⟩; exact ⟨rfl, hC⟩)
                | (go_at_call 29; refine (HU.out _ hC).mono ?_; rintro x w'' ⟨rfl, rfl⟩; exact ⟨rfl, hC⟩)
                | (go_at_call 33; refine hC.bth.sl.slots.mono ?_; rintro x w'' ⟨rfl, rfl⟩; exact ⟨rfl, hC⟩)
                | (go_at_call 32; refine (HI.out _ hC).mono ?_; rintro x w'' ⟨rfl, rfl⟩; exact ⟨rfl, hC⟩)
                | (go_at_call 36; refine (HAt.out _ hC).mono ?_; rintro x w'' ⟨rfl, hB⟩; exact ⟨rfl, hC.below0 hB⟩)
                | (go_at_call 37; refine (HM.out _ hC).mono ?_; rintro x w'' ⟨rfl, rfl⟩; exact ⟨rfl, hC⟩)
                | (obtain ⟨d0, d1, d2c, d3⟩ := HDk.out _ hC.bth.sl.below; have v2 := hC.var.cell 2; have v3 := hC.var.cell 3; obtain ⟨q0, q1⟩ := hC.bth.sl.c0; go_simp; try exact rfl)
                | exact rfl)))
            refine wpQuiet_nil ?_
            intro w8 hR8
            go_wp2
            go_roundw
            case rel => exact ⟨k + 1, a', pg', f', AL', cL', rs', by omega, by go_num, by omega, hR8⟩
            case measure => simp [intOf]; omega
      · obtain rfl : k = L.length := by omega
        have hB := HP.out.bth.sl.below
        have HB := Lib.hid (HB1.out.trans (hB.mono HB1.out.size))
        have HL := Lib.hid (slLives (HP.out.bth.sl.tab HT1.out))
        clear hB hP
        go_wp2_with fail
        refine HL.out.mono ?_
        rintro e w3 ⟨rfl, hB3⟩
        go_wp2
        go_ret
        exact ⟨rfl, HB.out.trans (hB3.mono HB.out.size)⟩
end Go.Proofs.YtcbfaahnhdmagaaDoor
