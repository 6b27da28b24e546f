/- The walk of gunnylaw27.CountPlays. -/
import Derived.Test.YteifdbfaclpcdaaRCntPlayA
import Derived.Deep.DeepCutAuto
import Derived.Deep.CutBlock
namespace Go.Proofs.YteifdbfaclpcdaaR
open Go.RowKit

theorem nilEq (W : World) : (Op.equalIn 10000 27 (.agg zeros16) (.agg #[.int .i64 0, .int .i64 0, .int .i64 0, .int .i64 0, .int .i64 0, .int .i64 0, .int .i64 0, .int .i64 0, .int .i64 0, .int .i64 0, .int .i64 0, .int .i64 0, .int .i64 0, .int .i64 0, .int .i64 0, .int .i64 0])).run Try.prog W = .ok true W := by
  have h := eq16 (fun _ => 0) (fun _ => 0) W
  rw [← cntVs_arr] at h
  have e : zeros16 = #[.int .i64 0, .int .i64 0, .int .i64 0, .int .i64 0, .int .i64 0, .int .i64 0, .int .i64 0, .int .i64 0, .int .i64 0, .int .i64 0, .int .i64 0, .int .i64 0, .int .i64 0, .int .i64 0, .int .i64 0, .int .i64 0] := by rfl
  rw [← e]
  exact h.trans (by simp)

set_option maxRecDepth 100000 in
set_option maxHeartbeats 1000000 in
theorem cplays_great (w : World) (A A2 : Option Addr) (c c2 : Nat) (L : List Dd) (ks : List Int) (hA : DeedsAt w w.heap.size A L) (hl : L.length ≤ 9223372036854775807) (h : greatB L = true ∨ 30 < ks.length) :
    Calls Try.prog 3 #[.slice A L.length c, .slice A2 ks.length c2] w fun e w' => e = .returned (.bool true) ∧ Below w.heap.size w w' := by
  have HA := Lib.hid hA
  have HH := Lib.hid h
  clear hA h
  go_enter Try.func3, Try.ntmps3
  have NE := nilEq
  go_wp2_with (first
    | (go_at_call 14; refine (cIn_nil (ks := [1]) (rd_lit _ [1] (by simp)) (by simp)).mono ?_; rintro e w2 ⟨rfl, rfl⟩)
    | (go_at_call 15; refine (cOut_nil (ks := [1]) (rd_lit _ [1] (by simp)) (by simp)).mono ?_; rintro e w2 ⟨rfl, rfl⟩)
    | (go_at_call 16; refine (cTurn_nil _ _ _).mono ?_; rintro e w2 ⟨rfl, rfl⟩)
    | (go_at_call 17; refine (cOf_nil (ks := [0, 1]) (rd_lit _ [0, 1] (by simp)) (by simp)).mono ?_; rintro e w2 ⟨rfl, rfl⟩)
    | (go_at_call 18; refine (cAll_nil _).mono ?_; rintro e w2 ⟨rfl, hb2⟩))
  clear NE
  have hBw : Below w.heap.size w w2 := (((((Below.refl w.heap.size w).alloc (Nat.le_refl _) _).alloc (by simp) _).alloc (by simp; omega) _)).trans (hb2.mono (by simp; omega))
  clear hb2
  have HG := Lib.hid (great_any (c := c) (HA.out.below hBw) hl)
  clear HA
  cases hb : greatB L
  all_goals
    rw [hb] at HG
    have h2 : greatB L = true ∨ 30 < ks.length := HH.out
    simp only [hb, Bool.false_eq_true, false_or, true_or] at h2
    clear hb HH
    go_wp2_with (first
      | (go_at_call 19; refine HG.out.mono ?_; rintro e w3 ⟨rfl, rfl⟩)
      | (go_at_call 20; refine (cntLives _).mono ?_; rintro e w1 ⟨rfl, hb⟩))
    go_ret
    exact ⟨rfl, hBw.trans (hb.mono hBw.size)⟩

/-- What CountPlays' loop holds. -/
structure PlayRun (w0 w : World) (g : Nat) (v : Value) (x : List Int) (M : Nat) : Prop where
  run : CntRun w0 w g (cntOf x) M
  own : OwnI w w0.heap.size v x
  all : allK x
  len : x.length ≤ M
theorem PlayRun.of {w0 w w' : World} {g M M' : Nat} {v : Value} {x : List Int} {f : Nat → Nat} (hR : CntRun w0 w g f M) (hO : OwnI w w0.heap.size v x) (hc : CntAt w' g (cntOf x)) (hF : Fr (· = g) w w') (ha : allK x) (hl : x.length ≤ M') : PlayRun w0 w' g v x M' where
  run := hR.fr hc (fun i => Nat.le_trans (cntOf_le x i) hl) hF
  own := owns_same hO fun k hk => hF.block k (World.ownsRow.lt hO k hk).2 (fun e => owns_ne hO hR.at_ (by decide) (by subst e; exact hk))
  all := ha
  len := hl
theorem PlayRun.more {w0 w w' : World} {g M : Nat} {v : Value} {x : List Int} (h : PlayRun w0 w g v x M) (hB : Below w.heap.size w w') : PlayRun w0 w' g v x M :=
  ⟨h.run.more hB, own_grow h.own hB, h.all, h.len⟩
theorem two_ks (ks : List Int) : ∃ a b r, ks ++ [0, 0] = a :: b :: r := by
  match ks with
  | [] => exact ⟨_, _, _, rfl⟩
  | [a] => exact ⟨_, _, _, rfl⟩
  | a :: b :: r => exact ⟨_, _, _, rfl⟩

set_option maxRecDepth 100000 in
set_option maxHeartbeats 4000000 in
theorem cplays_any (w : World) (A A2 : Option Addr) (c c2 : Nat) (L : List Dd) (kinds : List Int) (hA : DeedsAt w w.heap.size A L) (hK : RdI w w.heap.size A2 kinds) (hb : greatB L = false) (hk : kinds.length ≤ 30) :
    Calls Try.prog 3 #[.slice A L.length c, .slice A2 kinds.length c2] w fun e w' => e = .returned (.bool true) ∧ Below w.heap.size w w' := by
  obtain ⟨hl, hd30⟩ := greatB_false hb
  obtain ⟨i0, hi0, hz0, hz1, hz2⟩ := info_parts int_info
  have HA := Lib.hid hA
  have HK := Lib.hid hK
  have HB := Lib.hid hb
  have H30 := Lib.hid hd30
  clear hA hb hK hd30
  go_enter Try.func3, Try.ntmps3
  have NE := nilEq
  go_wp2_with (first
    | (go_at_call 14; refine (cIn_nil (ks := [1]) (rd_lit _ [1] (by simp)) (by simp)).mono ?_; rintro e w2 ⟨rfl, rfl⟩)
    | (go_at_call 15; refine (cOut_nil (ks := [1]) (rd_lit _ [1] (by simp)) (by simp)).mono ?_; rintro e w2 ⟨rfl, rfl⟩)
    | (go_at_call 16; refine (cTurn_nil _ _ _).mono ?_; rintro e w2 ⟨rfl, rfl⟩)
    | (go_at_call 17; refine (cOf_nil (ks := [0, 1]) (rd_lit _ [0, 1] (by simp)) (by simp)).mono ?_; rintro e w2 ⟨rfl, rfl⟩)
    | (go_at_call 18; refine (cAll_nil _).mono ?_; rintro e w2 ⟨rfl, hb2⟩))
  clear NE
  have hBw : Below w.heap.size w w2 := (((((Below.refl w.heap.size w).alloc (Nat.le_refl _) _).alloc (by simp) _).alloc (by simp; omega) _)).trans (hb2.mono (by simp; omega))
  clear hb2
  have HG := Lib.hid (great_any (c := c) (HA.out.below hBw) (by omega))
  rw [HB.out] at HG
  clear HB
  go_wp2_with (first
    | (go_at_call 19; refine HG.out.mono ?_; rintro e w3 ⟨rfl, rfl⟩)
    | (go_at_call 21; refine (cNew_any _).mono ?_; rintro e w1 ⟨rfl, hw1⟩; have hR : CntRun w w1 w2.heap.size (cntOf []) 0 := ⟨hw1 ▸ cntAt_new w2, fun _ => Nat.le_refl _, hBw.size, hw1 ▸ hBw.alloc hBw.size _⟩; clear hw1))
  generalize w2.heap.size = g at hR ⊢
  have hP : PlayRun w w1 g (.slice none 0 0) [] (30 * 0) := ⟨hR, World.ownsRow_nil _ _ _ _, fun k hk => (by cases hk), Nat.le_refl _⟩
  clear hR hBw HG
  go_loopw [7, 8] (fun v i wr => ∃ (k : Nat) (x : List Int), k ≤ L.length ∧ i = .int .i64 k ∧ PlayRun w wr g v x (30 * k)) (fun _ i _ => L.length - (intOf i).toNat)
  case atStart => exact ⟨0, [], Nat.zero_le _, rfl, hP⟩
  case round =>
    clear hP
    obtain ⟨k, x, hk', rfl, hP⟩ := hrel
    rcases Nat.lt_or_ge k L.length with hlt | hge
    · obtain ⟨Ax, cx, rfl⟩ := owns_form hP.own
      obtain ⟨d, b, o, hd, rfl, hbb, h1, h2, h3⟩ := (HA.out.below hP.run.below).get hlt
      have hd30 := H30.out d (List.mem_of_getElem? hd)
      have H3 := Lib.hid h3
      clear hd h3
      obtain ⟨q, A3, c3, ks⟩ := d
      simp only at h1 h2 H3 hd30
      go_upto_block 2 with (fail)
      go_cut [7, 9, 10] (fun v n m wx => ∃ (x2 : List Int) (did : Nat), did ≤ 1000 ∧ n = .int .i64 did ∧ m = .int .i64 did ∧ PlayRun w wx g v x2 (30 * (k + 1)))
      case first =>
        have hxl := hP.len
        have HX := Lib.hid (Rd.of_own hP.own : RdI wr wr.heap.size Ax x)
        by_cases hk0 : q = 0
        · subst hk0
          have HRef := Lib.hid (refIn_any (c := cx) (c2 := c3) HX.out (Nat.le_refl _) H3.out hP.run.below.size (by omega) (by omega))
          clear HX
          go_wp2_with (first
            | (go_at_call 22; refine HRef.out.mono ?_; rintro e w3 ⟨v2, rfl, hO, hB3⟩; have h23 : w3.cell? ⟨b, o + k * 2 + 1, none⟩ = some (.slice A3 ks.length c3) := (hB3.cell (p := ⟨b, _, none⟩) (by have := hP.run.below.size; show b < _; omega)).trans h2)
            | (go_at_call 14; have hR3 := hP.run.more hB3; refine (cIn_any (c := c3) hR3.at_ (H3.out.below' hB3 hP.run.below.size) hR3.below.size (RdI.ne (H3.out.below' hB3 hP.run.below.size) hR3.new) (30 * k) hR3.le (by omega)).mono ?_; rintro e w4 ⟨rfl, hc4, hF4⟩))
          go_meet
          have hvl := valid_le ks
          rw [putN_cnt] at hc4
          exact ⟨x ++ ks.filter isK, valid ks, by omega, rfl, rfl, PlayRun.of hR3 (owns_weaken hO hP.run.below.size) hc4 hF4 (allK_in hP.all ks) (by have := List.length_filter_le isK ks; simp; omega)⟩
        · have HQ0 : (q == 0) = false := by simp [hk0]
          clear hk0
          by_cases hk1 : q = 1
          · subst hk1
            have HRef := Lib.hid (refOut_any (c := cx) (c2 := c3) hP.own hP.run.below.size H3.out hP.run.below.size (by omega) (by omega))
            clear HX
            go_wp2_with (first
              | (go_at_call 23; refine HRef.out.mono ?_; rintro e w3 ⟨v2, rfl, hO, hB3⟩; have h23 : w3.cell? ⟨b, o + k * 2 + 1, none⟩ = some (.slice A3 ks.length c3) := (hB3.cell (p := ⟨b, _, none⟩) (by have := hP.run.below.size; show b < _; omega)).trans h2)
              | (go_at_call 15; have hR3 := hP.run.more hB3; refine (cOut_any (c := c3) hR3.at_ (H3.out.below' hB3 hP.run.below.size) hR3.below.size (RdI.ne (H3.out.below' hB3 hP.run.below.size) hR3.new) (30 * k) hR3.le (by omega) (by omega)).mono ?_; rintro e w4 ⟨rfl, hc4, hF4⟩))
            go_meet
            have hvl := rhits_le x ks
            obtain ⟨e1, e2⟩ := outN_cnt hP.all ks
            rw [e1] at hc4
            exact ⟨remN x ks, rhits x ks, by omega, rfl, by rw [e2], PlayRun.of hR3 hO hc4 hF4 (allK_remN hP.all ks) (by have := remN_len x ks; omega)⟩
          · have HQ1 : (q == 1) = false := by simp [hk1]
            clear hk1
            have HO := Lib.hid (World.ownsRow_made (base := w.heap.size) (e := 3) (size := 1) wr #[] 0 hP.run.below.size (by decide) rfl)
            have HR2 : Hid (Rd (wr.alloc (.cells #[] 3)) w.heap.size A3 (ks.map (Value.int .i64))) := H3.out.below' ((Below.refl wr.heap.size wr).alloc (Nat.le_refl _) (.cells #[] 3)) hP.run.below.size
            have hca : (wr.alloc (.cells #[] 3)).cell? ⟨b, o + k * 2 + 1, none⟩ = some (.slice A3 ks.length c3) := (((Below.refl wr.heap.size wr).alloc (Nat.le_refl _) (.cells #[] 3)).cell (p := ⟨b, _, none⟩) (by have := hP.run.below.size; show b < _; omega)).trans h2
            go_upto_region 14 with (first
              | (at_builtin; refine wpList_append_rd rfl (.tmp 63) (.tmp 68) 23 rfl w.heap.size 3 i0 (.int .i64 0) 8 Try.underlying23 hi0 hz0 hz1 hz2 rfl (.slice (some ⟨wr.heap.size, 0, none⟩) 0 0) 0 [] rfl HO.out w.heap.size A3 ks.length c3 (ks.map (Value.int .i64)) rfl (by simp) HR2.out (oneI ks) (by simp [maxLen]; omega) (by simp; omega) (by have := hP.run.below.size; simp; omega) ?_; intro v1 w3 hown1 hg1 hat1)
              | (at_builtin; refine wpList_append_rd rfl (.tmp 69) (.tmp 70) 23 rfl w.heap.size 3 i0 (.int .i64 0) 8 Try.underlying23 hi0 hz0 hz1 hz2 rfl v1 _ _ rfl (hown1.alloc _) (w3.heap.size + 1) (some ⟨w3.heap.size, 0, none⟩) 2 2 ([0, 0].map (Value.int .i64)) rfl (by simp) (rd_lit w3 [0, 0] rfl) (oneI _) (by simp [maxLen]; omega) (by simp; omega) (by have := hP.run.below.size; have := hg1.size; simp at this; simp; omega) ?_; intro v2 w4 hown2 hg2 hat2))
            have hsz0 := hP.run.below.size
            have hB4 : Below wr.heap.size wr w4 := (((((Below.refl wr.heap.size wr).alloc (Nat.le_refl _) _).grown hg1 (by simp) (fun k hk => by simp [Value.ownBlock] at hk; omega)).alloc (by have := hg1.size; simp at this; omega) _).grown hg2 (by have := hg1.size; simp at this; simp; omega) (fun k hk => by
              rcases hat1 with h | h
              · rw [h] at hk; simp [Value.ownBlock] at hk; omega
              · rw [h] at hk; simp at hk; omega))
            obtain ⟨a1, b1, r1, hab1⟩ := two_ks ks
            have hlen : ks.length + 2 = r1.length + 2 := by have := congrArg List.length hab1; simpa using this
            have HT : Hid (OwnI w4 w.heap.size v2 (a1 :: b1 :: r1)) := by
              show OwnI _ _ _ _
              rw [← hab1]
              simpa [OwnI] using hown2
            clear hown1 hown2 hg1 hg2 hat1 hat2 HO HR2 hca HX hab1
            obtain ⟨bt, ct, rfl, hbt, hbt2⟩ := World.ownsRow.form HT.out (by simp)
            have hct : (a1 :: b1 :: r1).length ≤ ct := by
              rcases (HT.out : w4.ownsRow _ _ _ _ _ _).2 with ⟨h, _⟩ | ⟨g', cap', cur', h, _, _, hle, _⟩
              · cases h
              · injection h with _ _ h3; omega
            have hct1 : 1 ≤ ct := by simp at hct; omega
            have hct2 : 2 ≤ ct := by simp at hct; omega
            have hc0 : w4.cell? ⟨bt, 0, none⟩ = some (.int .i64 a1) := (World.ownsRow.cellAt HT.out 0 (by simp)).trans rfl
            have hc1 : w4.cell? ⟨bt, 1, none⟩ = some (.int .i64 b1) := (World.ownsRow.cellAt HT.out 1 (by simp)).trans rfl
            have hP4 := hP.more hB4
            have hbg : bt ≠ g := fun e => owns_ne HT.out hP4.run.at_ (by decide) (by simp [Value.ownBlock, e])
            have HOf := Lib.hid (refOf_any (c := cx) (Rd.of_own hP4.own : RdI w4 w4.heap.size Ax x) a1 (by omega))
            have htb := turnOk_cnt hP4.all a1 b1
            have hcm : x.count a1 ≤ x.length := List.count_le_length
            have HTB := Lib.hid htb
            have hlt0 : 0 < (a1 :: b1 :: r1).length := by simp
            have hlt1 : 1 < (a1 :: b1 :: r1).length := by simp
            have hlt0i : (0 : Int) < (a1 :: b1 :: r1).length := by simp only [List.length_cons]; omega
            have hlt1i : (1 : Int) < (a1 :: b1 :: r1).length := by simp only [List.length_cons]; omega
            have hlen2 : (a1 :: b1 :: r1).length = r1.length + 2 := by simp
            generalize hll : (a1 :: b1 :: r1).length = ll at *
            have HLL := Lib.hid hll
            clear htb hll hlen2
            have hc0' : w4.cell? ⟨bt, 0, none⟩ = some (.int .i64 a1) := hc0
            go_cut [12] (fun m wx => m = .bool (turnOk (cntOf x) a1 b1) ∧ wx = w4)
            case first =>
              cases hkb : isK b1
              · have HKB := Lib.hid hkb
                have hx' := isK_false hkb
                clear hkb
                rcases hx' with hx' | hx'
                all_goals
                  go_wp2
                  go_meet
                  exact ⟨by rw [HTB.out, HKB.out]; rfl, rfl⟩
              · have HKB := Lib.hid hkb
                obtain ⟨n, rfl, hn⟩ := isK_true hkb
                clear hkb
                rcases Nat.eq_zero_or_pos (x.count a1) with hm | hm
                · have HM := Lib.hid hm
                  rw [hm] at HOf
                  clear hm
                  go_wp2_with (go_at_call 24; refine HOf.out.mono ?_; rintro e w5 ⟨rfl, rfl⟩)
                  go_meet
                  exact ⟨by rw [HTB.out, HKB.out, HM.out]; simp, rfl⟩
                · have HM := Lib.hid hm
                  generalize x.count a1 = cm at *
                  go_wp2_with (go_at_call 24; refine HOf.out.mono ?_; rintro e w5 ⟨rfl, rfl⟩)
                  go_meet
                  exact ⟨by rw [HTB.out, HKB.out]; simp [HM.out], rfl⟩
            case rest =>
              obtain ⟨rfl, rfl⟩ := hcut
              have HI : Hid (∀ W, W = wc.drewN 1 → Calls Try.prog 16 #[.pointer (some ⟨g, 0, none⟩), .int .i64 a1, .int .i64 b1] W fun e w' => e = .returned (.bool (turnOk (cntOf x) a1 b1)) ∧ CntAt w' g (turned (cntOf x) a1 b1) ∧ Fr (· = g) wc w') := fun W hW => by
                subst hW
                refine (cTurn_any (hP4.run.at_.drewN 1) (30 * k) hP4.run.le (by omega) a1 b1).mono ?_
                rintro e w' ⟨he, h1, h2⟩
                exact ⟨he, h1, ⟨h2.os, h2.tape, h2.output, h2.size, h2.block⟩⟩
              have HS : Hid (∀ W, Fr (· = g) wc W → W.cell? ⟨bt, 0, none⟩ = some (.int .i64 a1) ∧ W.cell? ⟨bt, 1, none⟩ = some (.int .i64 b1)) := fun W hF =>
                ⟨(hF.cell (a := ⟨bt, 0, none⟩) hbt2 hbg).trans hc0, (hF.cell (a := ⟨bt, 1, none⟩) hbt2 hbg).trans hc1⟩
              cases htk : turnOk (cntOf x) a1 b1
              · have HTK := Lib.hid htk
                rw [htk, turned_no htk] at HI
                clear htk
                go_wp2
                go_region_held3 (fun W => W.cell? ⟨bt, 0, none⟩ = some (.int .i64 a1) ∧ W.cell? ⟨bt, 1, none⟩ = some (.int .i64 b1)) (first | exact ⟨hc0, hc1⟩ | exact HS.out _ hF5) (first
                  | (go_at_call 16; refine (HI.out _ rfl).mono ?_; rintro e w5 ⟨rfl, hc5, hF5⟩))
                all_goals
                  clear HS HI
                  go_wp2
                  go_meet
                  exact ⟨x, 0, by omega, rfl, rfl, PlayRun.of hP4.run hP4.own hc5 hF5 hP4.all (by omega)⟩
              · have htr := turned_cnt hP4.all a1 b1 htk
                have hct0 : 0 < x.count a1 := by
                  have := HTB.out
                  rw [htk] at this
                  simp at this
                  exact List.count_pos_iff.2 this.2
                have hkb : isK b1 = true := by
                  have := HTB.out
                  rw [htk] at this
                  simp at this
                  exact this.1
                rw [htk, htr] at HI
                have HKB := Lib.hid hkb
                have HC0 := Lib.hid hct0
                clear htk htr hkb hct0
                go_wp2
                go_region_held3 (fun W => W.cell? ⟨bt, 0, none⟩ = some (.int .i64 a1) ∧ W.cell? ⟨bt, 1, none⟩ = some (.int .i64 b1)) (first | exact ⟨hc0, hc1⟩ | exact HS.out _ hF5) (first
                  | (go_at_call 16; refine (HI.out _ rfl).mono ?_; rintro e w5 ⟨rfl, hc5, hF5⟩))
                all_goals
                  have hO5 : OwnI w5 w.heap.size (.slice Ax x.length cx) x := owns_same hP4.own fun k hk => hF5.block k (World.ownsRow.lt hP4.own k hk).2 (fun e => owns_ne hP4.own hP4.run.at_ (by decide) (by subst e; exact hk))
                  have hT5 : OwnI w5 w.heap.size (.slice (some ⟨bt, 0, none⟩) ll ct) (a1 :: b1 :: r1) := owns_same HT.out fun k hk => hF5.block k (World.ownsRow.lt HT.out k hk).2 (fun e => hbg (by subst e; simpa [Value.ownBlock] using hk))
                  have hB5 : Below w.heap.size w w5 := hP4.run.below.trans (hF5.below hP4.run.below.size (fun k hk e => by have := hP4.run.new; omega))
                  have hR1 : RdI w5 w5.heap.size (some ⟨bt, 0, none⟩) [a1] := own_rd_take hT5 HLL.out.symm rfl 1
                  have hR2 : RdI w5 w5.heap.size (some ⟨bt, 1, none⟩) [b1] := (own_rd hT5 HLL.out.symm rfl 1).take 1
                  have hR1h := Lib.hid hR1
                  have hR2h := Lib.hid hR2
                  have HRef : Hid (Calls Try.prog 23 #[.slice Ax x.length cx, .slice (some ⟨bt, 0, none⟩) 1 ct] w5 fun e w' => ∃ v, e = .returned (.tuple #[v, .int .i64 (rhits x [a1])]) ∧ OwnI w' w.heap.size v (remN x [a1]) ∧ Below w5.heap.size w5 w') := refOut_any (c := cx) (c2 := ct) (ks := [a1]) hO5 hB5.size hR1 (Nat.le_refl _) (by omega) (by simp)
                  clear HS HI HOf hO5 hT5 hR1 hR2 hR1h HT
                  have hne1 : ¬ ct = 1 := by omega
                  go_upto_region 19 with (go_at_call 23; refine HRef.out.mono ?_; rintro e w6 ⟨v6, rfl, hO6, hB6⟩)
                  obtain ⟨A6, c6, rfl⟩ := owns_form hO6
                  have hrl := remN_one_len HC0.out
                  have HRef2 : Hid (Calls Try.prog 22 #[.slice A6 (remN x [a1]).length c6, .slice (some ⟨bt, 1, none⟩) 1 (ct - 1)] w6 fun e w' => ∃ v, e = .returned (.tuple #[v, .int .i64 (valid [b1])]) ∧ OwnI w' w6.heap.size v (remN x [a1] ++ [b1].filter isK) ∧ Below w6.heap.size w6 w') := refIn_any (c := c6) (c2 := ct - 1) (ks := [b1]) (Rd.of_own hO6 : RdI w6 w6.heap.size A6 (remN x [a1])) (Nat.le_refl _) (hR2h.out.below' hB6 (Nat.le_refl _)) hB6.size (by omega) (by simp)
                  clear hR2h HRef
                  go_wp2_with (go_at_call 22; refine HRef2.out.mono ?_; rintro e w7 ⟨v7, rfl, hO7, hB7⟩)
                  go_meet
                  have hB65 := hB6.trans (hB7.mono hB6.size)
                  have hR5 := hP4.run.fr hc5 (fun i => Nat.le_trans (cntOf_le _ i) (show (remN x [a1] ++ [b1].filter isK).length ≤ 30 * (k + 1) by have := List.length_filter_le isK [b1]; simp at this ⊢; omega)) hF5
                  exact ⟨remN x [a1] ++ [b1].filter isK, 0, by omega, rfl, rfl, hR5.more hB65, owns_weaken hO7 (by have := hB5.size; have := hB6.size; omega), allK_in (allK_remN hP.all [a1]) [b1], by have := List.length_filter_le isK [b1]; simp at this ⊢; omega⟩
      case rest =>
        clear hP H3 h1 h2 hd30
        obtain ⟨x, did, hdid, rfl, rfl, hP⟩ := hcut
        obtain ⟨Ax, cx, rfl⟩ := owns_form hP.own
        have hxl : x.length ≤ 1830 := Nat.le_trans hP.len (by omega)
        have HAI := Lib.hid arr_info
        have HAll := Lib.hid (cAll_any hP.run.at_)
        go_wp2_with (first
          | (go_at_call 18; refine HAll.out.mono ?_; rintro e w3 ⟨rfl, hb3⟩)
          | (refine wpList_store_row_abs rfl 27 (.tmp 13) (.tmp 154) rfl w3 rfl 27 _ (cntCells (cntOf x)) rfl rfl (HAI.out.trans (by rw [cells_size])) ((cells_size (cntOf x)).symm ▸ rfl) (cells_one (cntOf x)) ?_; intro W2 hbk hB2 hsz2))
        have hP4 := (hP.more hb3).more hB2
        generalize w3.heap.size = h at *
        clear hP hb3 hB2 hsz2 HAll
        go_loopw [15] (fun j wi => ∃ n : Nat, n ≤ 16 ∧ j = .int .i64 n ∧ PlayRun w wi g (.slice Ax x.length cx) x (30 * (k + 1)) ∧ Bk wi h 27 (cntCells (cntOf x))) (fun j _ => 16 - (intOf j).toNat)
        case atStart => exact ⟨0, by omega, rfl, hP4, hbk⟩
        case round =>
          clear hP4 hbk
          obtain ⟨n, hn, rfl, hP4, hbk⟩ := hrel
          rcases Nat.lt_or_ge n 16 with hn16 | hge
          · have hc : wr.cell? ⟨h, n, none⟩ = some (.int .i64 (x.count (n : Int))) := (Bk.cell hbk n).trans (cntCells_get (cntOf x) hn16)
            have HOf : Hid (∀ W, W = wr.drewN 1 → Calls Try.prog 24 #[.slice Ax x.length cx, .int .i64 n] W fun e w' => e = .returned (.int .i64 (x.count (n : Int))) ∧ W = w') := fun W hW => by
              subst hW
              exact refOf_any (w := wr.drewN 1) (c := cx) (show RdI (wr.drewN 1) wr.heap.size Ax x from Rd.of_own hP4.own) n (by omega)
            generalize x.count (n : Int) = y at *
            go_wp2
            go_region_held3 (fun W => W.cell? ⟨h, n, none⟩ = some (.int .i64 y)) (exact hc) (first
              | (go_at_call 24; refine (HOf.out _ rfl).mono ?_; rintro e w5 ⟨rfl, rfl⟩))
            all_goals
              clear HOf
              have hBw : Below wr.heap.size wr (wr.drewN 1) := (Below.refl wr.heap.size wr).trans ⟨rfl, rfl, rfl, Nat.le_refl _, fun _ _ => rfl⟩
              have hP5 := hP4.more hBw
              have hbk5 := Bk.below' hbk hBw
              go_wp2
              exact ⟨⟨n + 1, by omega, by go_num, hP5, hbk5⟩, by simp [intOf]; omega⟩
          · obtain rfl : n = 16 := by omega
            go_wp2
            go_loopw [14, 16] (fun s j wi => ∃ n : Nat, n ≤ kinds.length ∧ j = .int .i64 n ∧ s = .int .i64 (sumOf x (kinds.take n)) ∧ PlayRun w wi g (.slice Ax x.length cx) x (30 * (k + 1))) (fun _ j _ => kinds.length - (intOf j).toNat)
            case atStart => exact ⟨0, Nat.zero_le _, rfl, rfl, hP4⟩
            case round =>
              clear hP4 hbk
              obtain ⟨n, hn, rfl, rfl, hP4⟩ := hrel
              have hsl : sumOf x (kinds.take n) ≤ 54900 := Nat.le_trans (sumOf_le _ _) (Nat.le_trans (Nat.mul_le_mul (Nat.le_trans (List.length_take_le _ _) (Nat.le_trans hn hk)) hxl) (by omega))
              rcases Nat.lt_or_ge n kinds.length with hnl | hge
              · obtain ⟨ad, rfl, hab, hc⟩ := (HK.out.below hP4.run.below).at_ hnl
                have HS := Lib.hid (sumOf_succ x kinds hnl)
                generalize kinds[n]?.getD 0 = z at *
                have HOf := Lib.hid (refOf_any (c := cx) (Rd.of_own hP4.own : RdI wr wr.heap.size Ax x) z (by omega))
                have hcz : x.count z ≤ x.length := List.count_le_length
                generalize x.count z = y at *
                generalize hsm : sumOf x (kinds.take n) = sm at *
                have HSM := Lib.hid hsm
                clear hsm
                go_wp2_with (go_at_call 24; refine HOf.out.mono ?_; rintro e w5 ⟨rfl, rfl⟩)
                go_roundw
                case rel =>
                  (repeat apply Exists.intro (α := Value))
                  exact ⟨⟨n + 1, by omega, by go_num, by rw [HS.out]; go_num, hP4⟩, rfl⟩
                case measure => simp [intOf]; omega
              · obtain rfl : n = kinds.length := by omega
                rw [List.take_of_length_le (Nat.le_refl _)] at *
                have HOf := Lib.hid (cOf_any (c := c2) hP4.run.at_ (HK.out.below hP4.run.below) (30 * (k + 1)) hP4.run.le (by omega) (by omega))
                rw [ofN_cnt hP4.all] at HOf
                go_wp2_with (go_at_call 17; refine HOf.out.mono ?_; rintro e w5 ⟨rfl, rfl⟩)
                go_roundw
                case rel =>
                  exact ⟨k + 1, x, by omega, by go_num, hP4⟩
                case measure => simp [intOf]; omega
    · go_wp2_with (go_at_call 20; refine (cntLives _).mono ?_; rintro e w7 ⟨rfl, hB7⟩)
      go_ret
      exact ⟨rfl, hP.run.below.trans (hB7.mono hP.run.below.size)⟩
end Go.Proofs.YteifdbfaclpcdaaR
