/- The walk of gunnylaw27.CountBack. -/
import Derived.Test.YteifdbfaclpcdaaRCntL
namespace Go.Proofs.YteifdbfaclpcdaaR
open Go.RowKit

theorem out1_put1 (f : Nat → Nat) (k : Int) : out1 (put1 f k) k = f ∧ (hit1 (put1 f k) k) = isK k := by
  cases hk : isK k
  · simp [out1, hit1, put1, hk]
  · have h1 : hit1 (put1 f k) k = true := by simp [hit1, put1, hk, upd]
    refine ⟨?_, h1⟩
    rw [out1, h1]
    funext j
    simp only [put1, hk, if_true, upd]
    split <;> simp_all
theorem outN_append (f : Nat → Nat) (a b : List Int) : outN f (a ++ b) = outN (outN f a) b := by simp [outN]
theorem back_ok (f : Nat → Nat) (ks : List Int) : outN (putN f ks) ks.reverse = f ∧ hits (putN f ks) ks.reverse = valid ks := by
  induction ks generalizing f with
  | nil => exact ⟨rfl, rfl⟩
  | cons k r ih =>
    have e : putN f (k :: r) = putN (put1 f k) r := rfl
    obtain ⟨h1, h2⟩ := ih (put1 f k)
    obtain ⟨g1, g2⟩ := out1_put1 f k
    rw [List.reverse_cons, e, outN_append, h1, hits_snoc, h2, h1, g2]
    refine ⟨g1, ?_⟩
    simp only [valid, List.filter_cons]
    cases isK k <;> simp

def cntVs (f : Nat → Nat) : List Value := (List.range 16).map fun i => Value.int .i64 (f i)
theorem cntVs_arr (f : Nat → Nat) : cntCells f = (cntVs f).toArray := rfl
theorem cntVs_len (f : Nat → Nat) : (cntVs f).length = 16 := by simp [cntVs]
theorem range16 {W : World} {h t : Nat} {f : Nat → Nat} (hb : Bk W h t (cntCells f)) : W.rangeAt h 0 (cntVs f) := fun j v hv => by
  rw [Nat.zero_add, Bk.cell hb j, cntVs_arr]
  simpa using hv
theorem eq16 (f f' : Nat → Nat) (W : World) : (Op.equalIn 10000 27 (.agg (cntVs f).toArray) (.agg (cntVs f').toArray)).run Try.prog W = .ok (decide (cntL f = cntL f')) W := by
  have h := run_equalIn_arr (P := Try.prog) W 9998 16 27 3 .i64 (cntL f) (cntL f') Try.underlying27 Try.underlying3 (by kernel_rfl) (cntL_len f) (cntL_len f')
  rw [← cntCells_L, ← cntCells_L] at h
  exact h

/-- What the law's loops hold. -/
structure CntRun (w0 w : World) (g : Nat) (f : Nat → Nat) (M : Nat) : Prop where
  at_ : CntAt w g f
  le : ∀ i, f i ≤ M
  new : w0.heap.size ≤ g
  below : Below w0.heap.size w0 w
theorem CntRun.fr {w0 w w' : World} {g : Nat} {f f' : Nat → Nat} {M M' : Nat} (h : CntRun w0 w g f M) (hc : CntAt w' g f') (hle : ∀ i, f' i ≤ M') (hF : Fr (· = g) w w') : CntRun w0 w' g f' M' :=
  ⟨hc, hle, h.new, h.below.trans (hF.below h.below.size (fun k hk e => by have := h.new; omega))⟩
theorem CntRun.more {w0 w w' : World} {g : Nat} {f : Nat → Nat} {M : Nat} (h : CntRun w0 w g f M) (hB : Below w.heap.size w w') : CntRun w0 w' g f M :=
  ⟨h.at_.fr (S := fun _ => False) (Fr.of_below0 hB) id, h.le, h.new, h.below.trans (hB.mono h.below.size)⟩

set_option maxRecDepth 100000 in
set_option maxHeartbeats 2000000 in
theorem cback_great (w : World) (A A2 : Option Addr) (c c2 : Nat) (L : List Dd) (ks : List Int) (hA : DeedsAt w w.heap.size A L) (hl : L.length ≤ 9223372036854775807) (h : greatB L = true ∨ 30 < ks.length) :
    Calls Try.prog 5 #[.slice A L.length c, .slice A2 ks.length c2] w fun e w' => e = .returned (.bool true) ∧ Below w.heap.size w w' := by
  have HG := Lib.hid (great_any (c := c) hA hl)
  clear hA
  cases hb : greatB L
  all_goals
    rw [hb] at HG
    have h2 : greatB L = true ∨ 30 < ks.length := h
    simp only [hb, Bool.false_eq_true, false_or, true_or] at h2
    have HB := Lib.hid hb
    clear hb h
    go_enter Try.func5, Try.ntmps5
    go_wp2_with (first
      | (go_at_call 19; refine HG.out.mono ?_; rintro e w2 ⟨rfl, rfl⟩)
      | (go_at_call 20; refine (cntLives _).mono ?_; rintro e w1 ⟨rfl, hb⟩))
    go_ret
    exact ⟨rfl, hb⟩

def putAll (L : List Dd) : Nat → Nat := L.foldl (fun f d => putN f d.ks) (fun _ => 0)
theorem putAll_succ (L : List Dd) {k : Nat} {d : Dd} (hd : L[k]? = some d) : putAll (L.take (k + 1)) = putN (putAll (L.take k)) d.ks := by
  obtain ⟨hlt, e⟩ := List.getElem?_eq_some_iff.1 hd
  rw [List.take_succ_eq_append_getElem hlt, putAll, List.foldl_append, e]
  rfl

set_option maxRecDepth 100000 in
set_option maxHeartbeats 4000000 in
theorem cback_any (w : World) (A A2 : Option Addr) (c c2 : Nat) (L : List Dd) (ks : List Int) (hA : DeedsAt w w.heap.size A L) (hK : RdI w w.heap.size A2 ks) (hb : greatB L = false) (hk : ks.length ≤ 30) :
    Calls Try.prog 5 #[.slice A L.length c, .slice A2 ks.length c2] w fun e w' => e = .returned (.bool true) ∧ Below w.heap.size w w' := by
  obtain ⟨hl, hd30⟩ := greatB_false hb
  have HG := Lib.hid (great_any (c := c) hA (by omega))
  rw [hb] at HG
  have HA := Lib.hid hA
  have HK := Lib.hid hK
  have H30 := Lib.hid hd30
  obtain ⟨i0, hi0, hz0, hz1, hz2⟩ := info_parts int_info
  clear hA hK hd30 hb
  go_enter Try.func5, Try.ntmps5
  go_wp2_with (first
    | (go_at_call 19; refine HG.out.mono ?_; rintro e w2 ⟨rfl, rfl⟩)
    | (go_at_call 21; refine (cNew_any _).mono ?_; rintro e w1 ⟨rfl, hw1⟩; have hR : CntRun w w1 w.heap.size (putAll (L.take 0)) 0 := ⟨hw1 ▸ cntAt_new w, fun _ => Nat.le_refl _, Nat.le_refl _, hw1 ▸ (Below.refl _ _).alloc (Nat.le_refl _) _⟩; clear hw1))
  generalize hgg : w.heap.size = g at hR ⊢
  have HGG := Lib.hid hgg
  clear hgg
  go_loopw [6] (fun i wr => ∃ k : Nat, k ≤ L.length ∧ i = .int .i64 k ∧ CntRun w wr g (putAll (L.take k)) (30 * k)) (fun i _ => L.length - (intOf i).toNat)
  case atStart => exact ⟨0, Nat.zero_le _, rfl, hR⟩
  case round =>
    clear hR
    obtain ⟨k, hk', rfl, hR⟩ := hrel
    rcases Nat.lt_or_ge k L.length with hlt | hge
    · obtain ⟨d, b, o, hd, rfl, hbb, h1, h2, h3⟩ := (HA.out.below hR.below).get hlt
      have HS := Lib.hid (putAll_succ L hd)
      have hd30 := H30.out d (List.mem_of_getElem? hd)
      have HI := Lib.hid (cIn_any (c := d.c) hR.at_ h3 hR.below.size (h3.ne hR.new) (30 * k) hR.le (by omega))
      clear hd h3 h1
      go_wp2_with (go_at_call 14; refine HI.out.mono ?_; rintro e w2 ⟨rfl, hc2, hF2⟩)
      go_roundw
      case rel => exact ⟨k + 1, by omega, by go_num, by rw [HS.out]; exact hR.fr hc2 (fun i => by have := putN_le hR.le d.ks i; omega) hF2⟩
      case measure => simp [intOf]; omega
    · obtain rfl : k = L.length := by omega
      rw [List.take_of_length_le (Nat.le_refl _)] at hR
      generalize putAll L = f at hR
      have HCS := Lib.hid (cells_size f)
      have HC1 := Lib.hid (cells_one f)
      have HAI := Lib.hid arr_info
      have HAll := Lib.hid (cAll_any hR.at_)
      go_wp2_with (first
        | (go_at_call 18; refine HAll.out.mono ?_; rintro e w2 ⟨rfl, hb2⟩)
        | (refine wpList_store_row_abs rfl 27 (.tmp 7) (.tmp 34) rfl w2 rfl 27 _ (cntCells f) rfl rfl (HAI.out.trans (by rw [HCS.out])) (HCS.out.symm ▸ rfl) HC1.out ?_; intro W2 hbk hB2 hsz2))
      have hR2 : CntRun w W2 g f (30 * L.length) := (hR.more hb2).more hB2
      have hhg : w2.heap.size ≠ g := by have := hR.at_.lt; have := hb2.size; omega
      have hwh : w.heap.size ≤ w2.heap.size := (hR.below.trans (hb2.mono hR.below.size)).size
      generalize w2.heap.size = h at *
      clear hR hb2 hB2 HAll hsz2
      have HKr : Hid (RdI W2 w.heap.size A2 ks) := HK.out.below hR2.below
      refine (cIn_any (c := c2) hR2.at_ HKr.out hR2.below.size (HK.out.ne hR2.new) (30 * L.length) hR2.le (by omega)).mono ?_
      rintro e w3 ⟨rfl, hc3, hF3⟩
      have hR3 := hR2.fr hc3 (putN_le hR2.le ks) hF3
      have hbk3 := hbk.fr hF3 hhg
      clear hR2 hbk hc3 hF3 HKr
      have HM : 30 * L.length + ks.length ≤ 2000 := by omega
      generalize 30 * L.length + ks.length = M at *
      generalize hF : putN f ks = F at *
      have HFF := Lib.hid hF
      clear hF
      have HO : Hid (OwnI w3 w.heap.size (.slice none 0 0) (ks.drop ks.length).reverse) := by
        show OwnI _ _ _ _
        simp only [List.drop_length, List.reverse_nil]
        exact World.ownsRow_nil _ _ _ _
      go_wp2
      go_loopw [9, 10] (fun v i wr => ∃ q : Nat, q ≤ ks.length ∧ ((q = 0 ∧ i = .int .i64 (-1)) ∨ ∃ p : Nat, q = p + 1 ∧ i = .int .i64 p) ∧ Hid (OwnI wr w.heap.size v (ks.drop q).reverse) ∧ CntRun w wr g F M ∧ Bk wr h 27 (cntCells f)) (fun _ i _ => (intOf i + 1).toNat)
      case atStart =>
        refine ⟨ks.length, Nat.le_refl _, ?_, HO, hR3, hbk3⟩
        rcases hn : ks.length with _ | p
        · exact .inl ⟨rfl, rfl⟩
        · exact .inr ⟨p, rfl, by go_num⟩
      case round =>
        clear hR3 hbk3 HO
        obtain ⟨q, hq, hcase, HO, hR3, hbk3⟩ := hrel
        rcases hcase with ⟨rfl, rfl⟩ | ⟨p, rfl, rfl⟩
        · obtain ⟨A3, c3, rfl⟩ := owns_form HO.out
          have HB := back_ok f ks
          rw [HFF.out] at HB
          have HB1 := Lib.hid HB.1
          have HB2 := Lib.hid HB.2
          have HO5 : Hid (OwnI wr w.heap.size (.slice A3 ks.reverse.length c3) ks.reverse) := by show OwnI _ _ _ _; simpa using HO.out
          have hlr : (List.drop 0 ks).reverse.length = ks.reverse.length := by simp
          rw [hlr]
          have HRd : Hid (RdI wr wr.heap.size A3 ks.reverse) := Rd.of_own HO5.out
          have HN3 : Hid (∀ ad, A3 = some ad → 0 < ks.reverse.length → ad.block ≠ g) := fun ad e _ e2 => owns_ne HO5.out hR3.at_ (by decide) (by simp [Value.ownBlock, e, e2])
          have hl30 : ks.reverse.length ≤ 30 := by simpa using hk
          have HOut : Hid (∀ W, W = wr.drewN 1 → Calls Try.prog 15 #[.pointer (some ⟨g, 0, none⟩), .slice A3 ks.length c3] W fun e w' => e = .returned (.int .i64 (valid ks)) ∧ CntAt w' g f ∧ Fr (· = g) wr w') := fun W hW => by
            subst hW
            rw [show ks.length = ks.reverse.length from (List.length_reverse).symm]
            refine (cOut_any (c := c3) (hR3.at_.drewN 1) HRd.out (Nat.le_refl _) HN3.out M hR3.le (by omega) (by omega)).mono ?_
            rintro e w' ⟨he, h1, h2⟩
            rw [HB1.out] at h1
            rw [HB2.out] at he
            exact ⟨he, h1, ⟨h2.os, h2.tape, h2.output, h2.size, h2.block⟩⟩
          clear HO HO5 HB hlr HRd HN3
          have HEq : ∀ W, (Op.equalIn 10000 27 (.agg (cntVs f).toArray) (.agg (cntVs f).toArray)).run Try.prog W = .ok true W := fun W => by
            rw [eq16]
            simp
          have hu27 := Try.underlying27
          have hi27 : (Try.prog.info? 27).map (·.size) = some (cntVs f).length := by rw [cntVs_len]; exact arr_info
          have HAll2 : Hid (∀ W, CntAt W g f → Calls Try.prog 18 #[.pointer (some ⟨g, 0, none⟩)] W fun e w' => e = .returned (.agg (cntVs f).toArray) ∧ Below W.heap.size W w') := fun W hc => cAll_any hc
          have HRg : Hid (∀ W, Bk W h 27 (cntCells f) → W.rangeAt h 0 (cntVs f)) := fun W hb => range16 hb
          generalize cntVs f = vs at HEq hi27 HAll2 HRg
          go_wp2
          go_region_held3 (fun W => W.rangeAt h 0 vs) (exact HRg.out _ (by first | exact hbk7 | exact hbk6 | exact hbk5 | exact hbk3)) (first
            | (go_at_call 15; refine (HOut.out _ rfl).mono ?_; rintro e w5 ⟨rfl, hc5, hF5⟩; have hbk5 := hbk3.fr hF5 hhg)
            | (go_at_call 18; refine (HAll2.out _ hc5).mono ?_; rintro e w6 ⟨rfl, hB6⟩; have hbk6 := Bk.below' hbk5 hB6)
            | (go_at_call 20; refine (cntLives _).mono ?_; rintro e w7 ⟨rfl, hB7⟩; have hbk7 := Bk.below' hbk6 hB7))
          all_goals
            go_wp2
            go_ret
            have hb5 : Below w.heap.size w w5 := hR3.below.trans (hF5.below hR3.below.size (fun k hk e => by have := hR3.new; omega))
            exact ⟨rfl, (hb5.trans (hB6.mono hb5.size)).trans (hB7.mono (hb5.trans (hB6.mono hb5.size)).size)⟩
        · obtain ⟨ad, rfl, hab, hc⟩ := RdI.at_ (w := wr) (HK.out.below hR3.below) (show p < ks.length by omega)
          have HT : Hid ((ks.drop p).reverse = (ks.drop (p + 1)).reverse ++ [ks[p]?.getD 0]) := by
            show _ = _
            rw [List.drop_eq_getElem_cons (show p < ks.length by omega), List.reverse_cons]
            simp [show p < ks.length by omega]
          have hlen : (ks.drop (p + 1)).reverse.length ≤ 30 := by simp; omega
          generalize ks[p]?.getD 0 = x at *
          have HO2 : Hid ((wr.alloc (.cells #[.int .i64 x] 3)).ownsRow w.heap.size 3 1 u9 (ks.drop (p + 1)).reverse.length ((ks.drop (p + 1)).reverse.map (Value.int .i64))) := (HO.out : wr.ownsRow _ _ _ _ _ _).alloc _
          have HR3 := Lib.hid (rd_lit wr [x] rfl)
          generalize hdr : (ks.drop (p + 1)).reverse = dr at *
          have HDR := Lib.hid hdr
          clear hdr
          go_wp2_with (at_builtin; refine wpList_append_rd rfl (.tmp 45) (.tmp 50) 23 rfl w.heap.size 3 i0 (.int .i64 0) 8 Try.underlying23 hi0 hz0 hz1 hz2 rfl u9 _ _ rfl HO2.out _ (some ⟨wr.heap.size, 0, none⟩) 1 1 [.int .i64 x] rfl rfl HR3.out (by simp [Value.oneCell']) (by simp [maxLen]; omega) (by simp; omega) (by have := hR3.below.size; simp; omega) ?_; intro v2 w4 hown hg4 hat)
          have hF4 : Fr (fun k => u9.ownBlock = some k) wr w4 := ((Fr.refl _ wr).alloc _).grown hg4 (fun k hk _ => hk)
          have hlt9 := fun k hk => (World.ownsRow.lt HO2.out k hk).1
          have hR4 : CntRun w w4 g F M := ⟨hR3.at_.fr hF4 (owns_ne HO.out hR3.at_ (by decide)), hR3.le, hR3.new, hR3.below.trans (hF4.below hR3.below.size (fun k hk e => by have := hlt9 k e; omega))⟩
          have hbk4 := hbk3.fr hF4 (owns_ne HO.out hbk3 (by decide))
          have HO4 : Hid (OwnI w4 w.heap.size v2 (ks.drop p).reverse) := by
            show OwnI _ _ _ _
            rw [HT.out]
            simpa [OwnI] using hown
          refine ⟨⟨p, by omega, ?_, HO4, hR4, hbk4⟩, by simp [intOf]⟩
          rcases p with _ | p
          · exact .inl ⟨rfl, rfl⟩
          · exact .inr ⟨p, rfl, by go_num⟩
end Go.Proofs.YteifdbfaclpcdaaR
