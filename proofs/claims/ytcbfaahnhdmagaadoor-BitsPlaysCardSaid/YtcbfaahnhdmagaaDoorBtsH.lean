/- The walk of gunnylaw02.BitsPlays. -/
import Derived.Test.YtcbfaahnhdmagaaDoorBtsG
namespace Go.Proofs.YtcbfaahnhdmagaaDoor
open Go.RowKit

/-- A deed. -/
structure D2 where
  kd : Int
  nd : Int
instance : Inhabited D2 := ⟨⟨0, 0⟩⟩
def D2At (w : World) (B : Nat) (A : Option Addr) (L : List D2) : Prop :=
  ∀ i d, L[i]? = some d → ∃ b o, A = some ⟨b, o, none⟩ ∧ b < B ∧ w.cell? ⟨b, o + i * 2, none⟩ = some (.int .i64 d.kd) ∧ w.cell? ⟨b, o + i * 2 + 1, none⟩ = some (.int .i64 d.nd)
theorem D2At.below {w w' : World} {B : Nat} {A : Option Addr} {L : List D2} (h : D2At w B A L) (hb : Below B w w') : D2At w' B A L := fun i d hd => by
  obtain ⟨b, o, e, hB, h1, h2⟩ := h i d hd
  exact ⟨b, o, e, hB, (hb.cell (p := ⟨b, _, none⟩) hB).trans h1, (hb.cell (p := ⟨b, _, none⟩) hB).trans h2⟩

/-- A set and the reference's, both the law's own. -/
structure PlB (w0 w : World) (g gw size : Nat) (f : Nat → Bool) (A : Option Addr) (c : Nat) : Prop where
  st : StRun w0 w g gw f size
  rf : RefB w w0.heap.size (.slice A size c) f size
section
variable {w0 w w' w'' : World} {g gw size c c' : Nat} {f f' : Nat → Bool} {A A' : Option Addr}
theorem PlB.below0 (h : PlB w0 w g gw size f A c) (hb : Below w.heap.size w w') : PlB w0 w' g gw size f A c :=
  ⟨h.st.below0 hb, owns_same h.rf fun b hbb => hb.block b (World.ownsRow.lt h.rf b hbb).2⟩
theorem PlB.refS (h : PlB w0 w g gw size f A c) (hF : Fr (fun k => k = g ∨ k = gw) w w') : RefB w' w0.heap.size (.slice A size c) f size := by
  obtain ⟨wd, hs, _⟩ := h.st.set
  refine owns_same h.rf fun b hbb => hF.block b (World.ownsRow.lt h.rf b hbb).2 fun hh => ?_
  rcases hh with rfl | rfl
  · exact owns_ne h.rf hs.top (by decide) hbb
  · exact owns_ne h.rf hs.row (by decide) hbb
theorem PlB.deed (h : PlB w0 w g gw size f A c) (hS : SetIs w' g gw f' size) (hF : Fr (fun k => k = g ∨ k = gw) w w') (hR : RefB w'' w0.heap.size (.slice A' size c') f' size) (hB : Below w'.heap.size w' w'') : PlB w0 w'' g gw size f' A' c' :=
  ⟨(h.st.step hS hF).below0 hB, hR⟩
end

set_option maxRecDepth 100000 in
set_option maxHeartbeats 8000000 in
theorem plays_any (w : World) (hTab : Tab w) (sz : Int) (A : Option Addr) (c : Nat) (L : List D2) (hA : D2At w w.heap.size A L) (hl : L.length ≤ 100) (hs : sz ≤ 400 ∨ 4000 ≤ sz) :
    Calls Tryd.prog 4 #[.int .i64 sz, .slice A L.length c] w fun e w' => e = .returned (.bool true) ∧ Below w.heap.size w w' := by
  obtain ⟨size, hsize⟩ : ∃ size, newSize sz = size := ⟨_, rfl⟩
  have hsz : size ≤ 4096 := by rw [← hsize]; unfold newSize; omega
  have HNw := Lib.hid (fun W => stNew W sz)
  have HRn := Lib.hid (fun W => refNew_any W sz)
  rw [hsize] at HNw HRn
  have HA := Lib.hid hA
  have HTab := Lib.hid hTab
  have hg1 : ((400 : Int) < sz && decide (sz < 4000)) = false := by
    rcases hs with h | h
    · rw [decide_eq_false (by omega), Bool.false_and]
    · rw [decide_eq_false (p := sz < 4000) (by omega), Bool.and_false]
  have HT1 : Hid (∀ W, Below w.heap.size w W → Tab W) := fun W hW => hTab.below hW hTab.lt
  obtain ⟨b4, hb4⟩ : ∃ b4, decide ((400 : Int) < sz) = b4 := ⟨_, rfl⟩
  clear hA hTab hsize
  rcases (show (¬ (400 : Int) < sz) ∨ ((400 : Int) < sz ∧ ¬ sz < 4000) by omega) with h4 | ⟨h4, h5⟩
  all_goals
    clear hg1 hb4 hs
    go_enter Tryd.func4, Tryd.ntmps4
    go_wp2_with (first
      | (go_at_call 16; refine (nAll _).mono ?_; rintro x wa ⟨rfl, hBa⟩)
      | (go_at_call 14; refine (nPut _).mono ?_; rintro x w2 ⟨rfl, rfl⟩)
      | (go_at_call 11; refine (nDrop _).mono ?_; rintro x w2 ⟨rfl, rfl⟩)
      | (go_at_call 13; refine (nHas _).mono ?_; rintro x w2 ⟨rfl, rfl⟩)
      | (go_at_call 17; refine (nSize _).mono ?_; rintro x w2 ⟨rfl, rfl⟩)
      | (go_at_call 15; refine (nLen _).mono ?_; rintro x w2 ⟨rfl, rfl⟩)
      | (go_at_call 10; refine (HNw.out _).mono ?_; rintro x w1 ⟨g, gw, rfl, h1⟩)
      | (go_at_call 18; refine (HRn.out _).mono ?_; rintro x w3 ⟨A3, c3, rfl, hR3, hB3⟩; have hP3 : PlB wa w3 g gw size (fun _ => false) A3 c3 := ⟨h1.below0 hB3, owns_mono hR3 h1.below.size⟩; have ht3 := HT1.out _ (hBa.trans (hP3.st.below.mono hBa.size)))
      | (go_at_call 19; refine (same_any hP3.st.set hP3.rf ht3 hsz _).mono ?_; rintro x w4 ⟨rfl, hB4⟩; have hP4 := hP3.below0 hB4))
    have hza := hBa.size
    clear HNw HRn h1 hP3 hR3 hB3 ht3 hB4
    go_loopw [9, 10] (fun x i wr => ∃ (k : Nat) (f : Nat → Bool) (A3 : Option Addr) (c3 : Nat), k ≤ L.length ∧ i = .int .i64 k ∧ x = .slice A3 size c3 ∧ PlB wa wr g gw size f A3 c3) (fun _ i _ => L.length - (intOf i).toNat)
    case atStart => exact ⟨0, _, _, _, Nat.zero_le _, rfl, rfl, hP4⟩
    case round =>
      clear hP4
      obtain ⟨k, f, A3, c3, hk', rfl, rfl, hP⟩ := hrel
      have HP := Lib.hid hP
      have hbr : Below w.heap.size w wr := hBa.trans (hP.st.below.mono hza)
      rcases Nat.lt_or_ge k L.length with hlt | hge
      · obtain ⟨b, o, rfl, hb, hk0, hk1⟩ := (HA.out.below hbr) k L[k] (List.getElem?_eq_getElem hlt)
        generalize L[k].kd = kd at *
        generalize L[k].nd = nd at *
        go_upto_region 14 with fail
        go_cut [11] (fun p wx => ∃ gd, p = .pointer (some ⟨gd, 0, none⟩) ∧ wr.heap.size ≤ gd ∧ Below wr.heap.size wr wx ∧ Bk wx gd 39 #[.int .i64 kd, .int .i64 nd])
        case first => as_aux_lemma =>
          go_wp2
          go_meet
          exact ⟨_, rfl, Nat.le_refl _, (Below.refl _ _).alloc (Nat.le_refl _) _, Bk.new _ _ _⟩
        case rest =>
          obtain ⟨gd, rfl, hgd, hB0, hd⟩ := hcut
          have hP0 := hP.below0 hB0
          have hbc : Below w.heap.size w wc := hBa.trans (hP0.st.below.mono hza)
          have hlt2 := hP.st.set.lt
          have hgw : ¬ (gd = g ∨ gd = gw) := by omega
          have c0 : wc.cell? ⟨gd, 0, none⟩ = some (.int .i64 kd) := hd.cell 0
          have c1 : wc.cell? ⟨gd, 1, none⟩ = some (.int .i64 nd) := hd.cell 1
          have HSame : Hid (∀ W f A c, PlB wa W g gw size f A c → Calls Tryd.prog 19 #[.pointer (some ⟨g, 0, none⟩), .slice A size c, .int .i64 nd] W fun e w' => e = .returned (.bool true) ∧ Below W.heap.size W w') := fun W f A c hW =>
            same_any hW.st.set hW.rf (HT1.out _ (hBa.trans (hW.st.below.mono hza))) hsz nd
          have HPut := Lib.hid (isPutA hP0.st.set nd)
          have HDr := Lib.hid (isDropA hP0.st.set nd)
          have HWith : Hid (∀ W f A c n b, RefB W wa.heap.size (.slice A size c) f size → Below wa.heap.size wa W → Calls Tryd.prog 20 #[.slice A size c, .int .i64 n, .bool b] W fun e w' => ∃ A' c', e = .returned (.tuple #[.slice A' size c', .bool (didB f size n b)]) ∧ RefB w' wa.heap.size (.slice A' size c') (putF f size n b) size ∧ Below W.heap.size W w') := fun W f A c n b hR hB => refWith_all hR hB.size hsz n b
          have HTc := HT1.out _ hbc
          clear hP hk0 hk1
          by_cases k0 : kd = 0
          · subst k0
            have HW0 := Lib.hid (fun W h1 h2 => HWith.out W f A3 c3 nd true h1 h2)
            have hdd : (didB f size nd true != didB f size nd true) = false := by simp
            generalize didB f size nd true = did at *
            generalize putF f size nd true = f2 at *
            rcases (show (size : Int) < 1000 ∨ ¬ (size : Int) < 1000 by omega) with hs1 | hs1
            · go_wp2_with (first
                | (go_at_call 14; refine HPut.out.mono ?_; rintro x wp ⟨rfl, hSp, hFp⟩; have hRp := hP0.refS hFp; have hdp := hd.fr hFp hgw; have c1p : wp.cell? ⟨gd, 1, none⟩ = some (.int .i64 nd) := hdp.cell 1; have hBp := (hP0.st.step hSp hFp).below)
                | (go_at_call 20; refine (HW0.out _ hRp hBp).mono ?_; rintro x wq ⟨A', c', rfl, hRq, hBq⟩; have hPq := hP0.deed hSp hFp hRq hBq; have hdq := hdp.below' hBq; have c1q : wq.cell? ⟨gd, 1, none⟩ = some (.int .i64 nd) := hdq.cell 1)
                | (go_at_call 19; refine (HSame.out _ _ _ _ hPq).mono ?_; rintro x w9 ⟨rfl, hB9⟩; have hPn := hPq.below0 hB9))
              go_roundw
              case rel => exact ⟨k + 1, _, _, _, by omega, by go_num, rfl, hPn⟩
              case measure => simp [intOf]; omega
            · go_wp2_with (first
                | (go_at_call 14; refine HPut.out.mono ?_; rintro x wp ⟨rfl, hSp, hFp⟩; have hRp := hP0.refS hFp; have hdp := hd.fr hFp hgw; have c1p : wp.cell? ⟨gd, 1, none⟩ = some (.int .i64 nd) := hdp.cell 1; have hBp := (hP0.st.step hSp hFp).below)
                | (go_at_call 20; refine (HW0.out _ hRp hBp).mono ?_; rintro x wq ⟨A', c', rfl, hRq, hBq⟩; have hPq := hP0.deed hSp hFp hRq hBq; have hdq := hdp.below' hBq; have c1q : wq.cell? ⟨gd, 1, none⟩ = some (.int .i64 nd) := hdq.cell 1))
              go_roundw
              case rel => exact ⟨k + 1, _, _, _, by omega, by go_num, rfl, hPq⟩
              case measure => simp [intOf]; omega
          · have hb0 : (kd == 0) = false := beq_eq_false_iff_ne.2 k0
            by_cases k1 : kd = 1
            · subst k1
              have HW0 := Lib.hid (fun W h1 h2 => HWith.out W f A3 c3 nd false h1 h2)
              have hdd : (didB f size nd false != didB f size nd false) = false := by simp
              generalize didB f size nd false = did at *
              generalize putF f size nd false = f2 at *
              rcases (show (size : Int) < 1000 ∨ ¬ (size : Int) < 1000 by omega) with hs1 | hs1
              · go_wp2_with (first
                  | (go_at_call 11; refine HDr.out.mono ?_; rintro x wp ⟨rfl, hSp, hFp⟩; have hRp := hP0.refS hFp; have hdp := hd.fr hFp hgw; have c1p : wp.cell? ⟨gd, 1, none⟩ = some (.int .i64 nd) := hdp.cell 1; have hBp := (hP0.st.step hSp hFp).below)
                  | (go_at_call 20; refine (HW0.out _ hRp hBp).mono ?_; rintro x wq ⟨A', c', rfl, hRq, hBq⟩; have hPq := hP0.deed hSp hFp hRq hBq; have hdq := hdp.below' hBq; have c1q : wq.cell? ⟨gd, 1, none⟩ = some (.int .i64 nd) := hdq.cell 1)
                  | (go_at_call 19; refine (HSame.out _ _ _ _ hPq).mono ?_; rintro x w9 ⟨rfl, hB9⟩; have hPn := hPq.below0 hB9))
                go_roundw
                case rel => exact ⟨k + 1, _, _, _, by omega, by go_num, rfl, hPn⟩
                case measure => simp [intOf]; omega
              · go_wp2_with (first
                  | (go_at_call 11; refine HDr.out.mono ?_; rintro x wp ⟨rfl, hSp, hFp⟩; have hRp := hP0.refS hFp; have hdp := hd.fr hFp hgw; have c1p : wp.cell? ⟨gd, 1, none⟩ = some (.int .i64 nd) := hdp.cell 1; have hBp := (hP0.st.step hSp hFp).below)
                  | (go_at_call 20; refine (HW0.out _ hRp hBp).mono ?_; rintro x wq ⟨A', c', rfl, hRq, hBq⟩; have hPq := hP0.deed hSp hFp hRq hBq; have hdq := hdp.below' hBq; have c1q : wq.cell? ⟨gd, 1, none⟩ = some (.int .i64 nd) := hdq.cell 1))
                go_roundw
                case rel => exact ⟨k + 1, _, _, _, by omega, by go_num, rfl, hPq⟩
                case measure => simp [intOf]; omega
            · have hb1 : (kd == 1) = false := beq_eq_false_iff_ne.2 k1
              by_cases hc : cntB f size = size
              · have HTk := Lib.hid (isTake_none hP0.st.set hc)
                have HFi := Lib.hid (refFirst_none hP0.rf hsz (full_of hc))
                rcases (show (size : Int) < 1000 ∨ ¬ (size : Int) < 1000 by omega) with hs1 | hs1
                · go_wp2_with (first
                    | (go_at_call 12; refine HTk.out.mono ?_; rintro x wp ⟨rfl, rfl⟩)
                    | (go_at_call 21; refine HFi.out.mono ?_; rintro x wp ⟨rfl, rfl⟩)
                    | (go_at_call 19; refine (HSame.out _ _ _ _ hP0).mono ?_; rintro x w9 ⟨rfl, hB9⟩; have hPn := hP0.below0 hB9))
                  go_roundw
                  case rel => exact ⟨k + 1, _, _, _, by omega, by go_num, rfl, hPn⟩
                  case measure => simp [intOf]; omega
                · go_wp2_with (first
                    | (go_at_call 12; refine HTk.out.mono ?_; rintro x wp ⟨rfl, rfl⟩)
                    | (go_at_call 21; refine HFi.out.mono ?_; rintro x wp ⟨rfl, rfl⟩))
                  go_roundw
                  case rel => exact ⟨k + 1, _, _, _, by omega, by go_num, rfl, hP0⟩
                  case measure => simp [intOf]; omega
              · have hclt : cntB f size < size := by have := cntB_le f size; omega
                obtain ⟨q, hq, hqf, hql⟩ := hole_of hclt
                have HTk := Lib.hid (isTake_some hP0.st.set HTc hq hqf hql)
                have HFi : Hid (∀ W, RefB W wa.heap.size (.slice A3 size c3) f size → Calls Tryd.prog 21 #[.slice A3 size c3] W fun e w' => e = .returned (.tuple #[.int .i64 q, .bool true]) ∧ W = w') := fun W hW => refFirst_some hW hsz hq hqf hql
                have HW0 := Lib.hid (fun W h1 h2 => HWith.out W f A3 c3 (q : Int) true h1 h2)
                have hd1 : didB f size (q : Int) true = true := by simp [didB, mayB_nat hq, hqf]
                have hp1 : putF f size (q : Int) true = updB f q true := by unfold putF; rw [hd1, if_pos rfl, Int.toNat_natCast]
                rw [hd1, hp1] at HW0
                clear hd1 hp1 hc
                generalize updB f q true = f2 at *
                rcases (show (size : Int) < 1000 ∨ ¬ (size : Int) < 1000 by omega) with hs1 | hs1
                · go_wp2_with (first
                    | (go_at_call 12; refine HTk.out.mono ?_; rintro x wp ⟨rfl, hSp, hFp⟩; have hRp := hP0.refS hFp; have hdp := hd.fr hFp hgw; have c1p : wp.cell? ⟨gd, 1, none⟩ = some (.int .i64 nd) := hdp.cell 1; have hBp := (hP0.st.step hSp hFp).below)
                    | (go_at_call 21; refine (HFi.out _ hRp).mono ?_; rintro x wz ⟨rfl, rfl⟩)
                    | (go_at_call 20; refine (HW0.out _ hRp hBp).mono ?_; rintro x wq ⟨A', c', rfl, hRq, hBq⟩; have hPq := hP0.deed hSp hFp hRq hBq; have hdq := hdp.below' hBq; have c1q : wq.cell? ⟨gd, 1, none⟩ = some (.int .i64 nd) := hdq.cell 1)
                    | (go_at_call 19; refine (HSame.out _ _ _ _ hPq).mono ?_; rintro x w9 ⟨rfl, hB9⟩; have hPn := hPq.below0 hB9))
                  go_roundw
                  case rel => exact ⟨k + 1, _, _, _, by omega, by go_num, rfl, hPn⟩
                  case measure => simp [intOf]; omega
                · go_wp2_with (first
                    | (go_at_call 12; refine HTk.out.mono ?_; rintro x wp ⟨rfl, hSp, hFp⟩; have hRp := hP0.refS hFp; have hdp := hd.fr hFp hgw; have c1p : wp.cell? ⟨gd, 1, none⟩ = some (.int .i64 nd) := hdp.cell 1; have hBp := (hP0.st.step hSp hFp).below)
                    | (go_at_call 21; refine (HFi.out _ hRp).mono ?_; rintro x wz ⟨rfl, rfl⟩)
                    | (go_at_call 20; refine (HW0.out _ hRp hBp).mono ?_; rintro x wq ⟨A', c', rfl, hRq, hBq⟩; have hPq := hP0.deed hSp hFp hRq hBq; have hdq := hdp.below' hBq; have c1q : wq.cell? ⟨gd, 1, none⟩ = some (.int .i64 nd) := hdq.cell 1))
                  go_roundw
                  case rel => exact ⟨k + 1, _, _, _, by omega, by go_num, rfl, hPq⟩
                  case measure => simp [intOf]; omega
      · have HSm := Lib.hid (same_any hP.st.set hP.rf (HT1.out _ hbr) hsz 0)
        go_wp2_with (first
          | (go_at_call 19; refine HSm.out.mono ?_; rintro x w4 ⟨rfl, hB4⟩; have hb4 := hbr.trans (hB4.mono hbr.size))
          | (go_at_call 9; refine (bitsLives (HT1.out _ hb4)).mono ?_; rintro x w7 ⟨rfl, hB7⟩))
        go_ret
        exact ⟨rfl, hb4.trans (hB7.mono hb4.size)⟩

set_option maxRecDepth 100000 in
set_option maxHeartbeats 2000000 in
theorem plays_great (w : World) (hTab : Tab w) (sz : Int) (A : Option Addr) (c n : Nat) (h : 100 < n ∨ (¬ 100 < n ∧ 400 < sz ∧ sz < 4000)) (_hn : n ≤ 9223372036854775807) :
    Calls Tryd.prog 4 #[.int .i64 sz, .slice A n c] w fun e w' => e = .returned (.bool true) ∧ Below w.heap.size w w' := by
  have HT1 : Hid (∀ W, Below w.heap.size w W → Tab W) := fun W hW => hTab.below hW hTab.lt
  clear hTab
  rcases (show (100 : Int) < n ∨ (¬ (100 : Int) < n ∧ (400 : Int) < sz ∧ sz < 4000) by omega) with h1 | ⟨h1, h2, h3⟩
  all_goals
    clear h
    go_enter Tryd.func4, Tryd.ntmps4
    go_wp2_with (first
      | (go_at_call 16; refine (nAll _).mono ?_; rintro x wa ⟨rfl, hBa⟩)
      | (go_at_call 14; refine (nPut _).mono ?_; rintro x w2 ⟨rfl, rfl⟩)
      | (go_at_call 11; refine (nDrop _).mono ?_; rintro x w2 ⟨rfl, rfl⟩)
      | (go_at_call 13; refine (nHas _).mono ?_; rintro x w2 ⟨rfl, rfl⟩)
      | (go_at_call 17; refine (nSize _).mono ?_; rintro x w2 ⟨rfl, rfl⟩)
      | (go_at_call 15; refine (nLen _).mono ?_; rintro x w2 ⟨rfl, rfl⟩)
      | (go_at_call 9; refine (bitsLives (HT1.out _ hBa)).mono ?_; rintro x w7 ⟨rfl, hB7⟩))
    go_ret
    exact ⟨rfl, hBa.trans (hB7.mono hBa.size)⟩
end Go.Proofs.YtcbfaahnhdmagaaDoor
