/- Slots: a step of both, Look. -/
import Derived.Test.YtcbfaahnhdmagaaDoorSlZ
namespace Go.Proofs.YtcbfaahnhdmagaaDoor
open Go.RowKit

set_option maxRecDepth 100000 in
set_option maxHeartbeats 8000000 in
theorem step_look {w0 w : World} {S : Nat → Prop} {gs gd gl gb g gw a many bs cL c : Nat} {l : List Bool} {pg : Nat → List UInt8} {f : Nat → Bool} {A AL : Option Addr} {rs : List Pg} (h : Bth w0 w S gs gd gl gb g gw l a many pg f bs AL cL rs)
    (hA : RdB w0 w0.heap.size A l) (_hl : l.length ≤ 3000) (_ha : a ≤ 800000) {kd : Int} (hkd : kd < 0 ∨ 4 < kd) (nd : Int) (fd : UInt8) (dA : Option Addr) (dn dc : Nat) :
    Calls Tryd.prog 34 #[.pointer (some ⟨gs, 0, none⟩), .agg #[.int .i64 many, .slice A l.length c, .int .i64 a, .slice AL rs.length cL], .agg #[.int .i64 kd, .int .i64 nd, .int .u8 (fd.toNat : Int), .slice dA dn dc]] w (StepQ w0 w S gs gd gl gb g gw l a many bs A c) := by
  obtain ⟨w7, hw7, hbX, hbD, hbZ, hB7, hz7⟩ := st_new w many a kd nd fd A AL dA l.length c rs.length cL dn dc
  have HX7 := Lib.hid hbX
  have HZ7 := Lib.hid hbZ
  have HD7 := Lib.hid hbD
  have HB7 := Lib.hid hB7
  have HW7 := Lib.hid hw7
  have H7 := Lib.hid (h.below0 hB7)
  have HAs := Lib.hid hA
  have c0 : w7.cell? ⟨w.heap.size + 1, 0, none⟩ = some (.int .i64 kd) := hbD.cell 0
  have c1 : w7.cell? ⟨w.heap.size + 1, 1, none⟩ = some (.int .i64 nd) := hbD.cell 1
  have hlw : w0.heap.size ≤ w.heap.size := Nat.le_trans h.lo h.hi
  have hbw : bs ≤ w.heap.size := h.hi
  have hm := h.sl.many_le
  have hlen := h.le
  have e0 : (kd == 0) = false := beq_eq_false_iff_ne.2 (by omega)
  have e1 : (kd == 1) = false := beq_eq_false_iff_ne.2 (by omega)
  have e2 : (kd == 2) = false := beq_eq_false_iff_ne.2 (by omega)
  have e3 : (kd == 3) = false := beq_eq_false_iff_ne.2 (by omega)
  have e4 : (kd == 4) = false := beq_eq_false_iff_ne.2 (by omega)
  clear hw7 hbX hbD hbZ hB7 h hA
  go_enter Tryd.func34, Tryd.ntmps34
  go_upto_region 1 with fail
  rw [← HW7.out]
  clear HW7
  have k0 : w7.cell? ⟨w.heap.size, 0, none⟩ = some (.int .i64 many) := HX7.out.cell 0
  have k1 : w7.cell? ⟨w.heap.size, 1, none⟩ = some (.slice A l.length c) := HX7.out.cell 1
  have k2 : w7.cell? ⟨w.heap.size, 2, none⟩ = some (.int .i64 a) := HX7.out.cell 2
  have k3 : w7.cell? ⟨w.heap.size, 3, none⟩ = some (.slice AL rs.length cL) := HX7.out.cell 3
  cases hin : (mayB many nd && f nd.toNat)
  · have HP := Lib.hid (rAt_no (.int .i64 many) (.slice A l.length c) (.int .i64 a) nd H7.out.ref (by omega) (H7.out.ties.no hin))
    have HIn := Lib.hid hin
    clear hin
    go_upto_region 18 with fail
    go_wp2_with fail
    refine HP.out.mono ?_
    rintro e w9 ⟨rfl, hB9⟩
    have HB9 := Lib.hid (HB7.out.trans (hB9.mono HB7.out.size))
    have H9 := Lib.hid (H7.out.below0 hB9)
    have HX9 := Lib.hid (HX7.out.below' hB9)
    have HZ9 := Lib.hid (HZ7.out.below' hB9)
    have d1 : w9.cell? ⟨w.heap.size + 1, 1, none⟩ = some (.int .i64 nd) := (HD7.out.below' hB9).cell 1
    have HPs := Lib.hid (H9.out.sl.lookNo HIn.out)
    clear k0 k1 k2 k3 HP c0 c1 hB9
    go_wp2_with fail
    refine HPs.out.mono ?_
    rintro e w2 ⟨rfl, hw2⟩
    subst hw2
    have k0 : w9.cell? ⟨w.heap.size, 0, none⟩ = some (.int .i64 many) := HX9.out.cell 0
    have k1 : w9.cell? ⟨w.heap.size, 1, none⟩ = some (.slice A l.length c) := HX9.out.cell 1
    have k2 : w9.cell? ⟨w.heap.size, 2, none⟩ = some (.int .i64 a) := HX9.out.cell 2
    have k3 : w9.cell? ⟨w.heap.size, 3, none⟩ = some (.slice AL rs.length cL) := HX9.out.cell 3
    have z0 : w9.cell? ⟨w.heap.size + 1 + 1, 0, none⟩ = some (.int .i64 0) := HZ9.out.cell 0
    have z1 : w9.cell? ⟨w.heap.size + 1 + 1, 1, none⟩ = some (.slice none 0 0) := HZ9.out.cell 1
    have z2 : w9.cell? ⟨w.heap.size + 1 + 1, 2, none⟩ = some (.int .i64 0) := HZ9.out.cell 2
    have z3 : w9.cell? ⟨w.heap.size + 1 + 1, 3, none⟩ = some (.slice none 0 0) := HZ9.out.cell 3
    have f0 := HZ9.out.free 0
    have f1 := HZ9.out.free 1
    have f2 := HZ9.out.free 2
    have f3 := HZ9.out.free 3
    have HS := s9_back HZ9.out (.int .i64 many) (.slice A l.length c) (.int .i64 a) (.slice AL rs.length cL)
    go_wp2
    exact bodyPost_ret (results_ct rfl _ _ (w.heap.size + 1 + 1) 70 _ _ (.bool true) rfl rfl HS.1 Tryd.underlying70 rfl HS.2) rfl (stepQ_fin (a := a) (A := A) (c := c) H9.out (Fr.of_below0 HB9.out) HZ9.out (by omega) hbw (by omega) _ _ _ _)
  · obtain ⟨n, rfl, hn, hf⟩ : ∃ n : Nat, nd = n ∧ n < many ∧ f n = true := by
      simp only [Bool.and_eq_true] at hin
      obtain ⟨n, rfl, hn⟩ := mayB_true hin.1
      exact ⟨n, rfl, hn, by simpa using hin.2⟩
    have HP := Lib.hid (rAt_yes (.int .i64 many) (.slice A l.length c) (.int .i64 a) n H7.out.ref (by omega) (H7.out.ties.yes hn hf))
    have HFn := Lib.hid hf
    have HNn := Lib.hid hn
    clear hin hf hn
    go_upto_region 18 with fail
    go_wp2_with fail
    refine HP.out.mono ?_
    rintro e w9 ⟨⟨k, r, rfl, hr, hrn⟩, hB9⟩
    have hkl : k < rs.length := (List.getElem?_eq_some_iff.1 hr).1
    have HB9 := Lib.hid (HB7.out.trans (hB9.mono HB7.out.size))
    have H9 := Lib.hid (H7.out.below0 hB9)
    have HX9 := Lib.hid (HX7.out.below' hB9)
    have HZ9 := Lib.hid (HZ7.out.below' hB9)
    have d1 : w9.cell? ⟨w.heap.size + 1, 1, none⟩ = some (.int .i64 n) := (HD7.out.below' hB9).cell 1
    have HPs := Lib.hid (H9.out.sl.look HNn.out HFn.out)
    have HRk := Lib.hid hr
    have HRn := Lib.hid hrn
    clear k0 k1 k2 k3 HP c0 c1 hB9 hr hrn
    go_wp2_with fail
    refine HPs.out.mono ?_
    rintro e w2 ⟨A5, c5, rfl, hO5, hpl, hB2⟩
    have HB2 := Lib.hid (HB9.out.trans (hB2.mono HB9.out.size))
    have H2 := Lib.hid (H9.out.below0 hB2)
    have HX2 := Lib.hid (HX9.out.below' hB2)
    have HZ2 := Lib.hid (HZ9.out.below' hB2)
    obtain ⟨r', gr, hr', hrm, hAL, hg1, hg2, -, hc1, hOr, hrl⟩ := H2.out.ref.get hkl
    obtain rfl : r' = r := by have := HRk.out; rw [hr'] at this; injection this
    have hgw : gr < w9.heap.size := by
      obtain ⟨_, g0, _, _, e0, _, h0, _⟩ := H9.out.ref.get hkl
      rw [hAL] at e0
      injection e0 with e0
      injection e0 with e0
      omega
    have hgne : gr ≠ w.heap.size + 1 + 1 := fun e => by
      obtain ⟨g, cap, hv, _, _⟩ := H2.out.ref.row.form (by omega)
      rw [hAL] at hv
      injection hv with hv
      injection hv with hv
      injection hv with hv
      have := owns_ne H2.out.ref.row HZ2.out (by decide)
      rw [hAL] at this
      exact this (by rw [← e]; rfl)
    have HRb := Lib.hid (H2.out.ties.page hrm HRn.out)
    have HRy := Lib.hid hOr.rd
    have HBy0 := refBytes_any (c := c5) (c2 := r'.c) (hO5.rd.drewN 1) (HRy.out.drewN 1)
    rw [HRb.out, hpl, beq_self_eq_true] at HBy0
    rw [hrl] at hc1
    have HBy := Lib.hid HBy0
    subst hAL
    have k0 : w2.cell? ⟨w.heap.size, 0, none⟩ = some (.int .i64 many) := HX2.out.cell 0
    have k1 : w2.cell? ⟨w.heap.size, 1, none⟩ = some (.slice A l.length c) := HX2.out.cell 1
    have k2 : w2.cell? ⟨w.heap.size, 2, none⟩ = some (.int .i64 a) := HX2.out.cell 2
    have k3 : w2.cell? ⟨w.heap.size, 3, none⟩ = some (.slice (some ⟨gr, 0, none⟩) rs.length cL) := HX2.out.cell 3
    have z0 : w2.cell? ⟨w.heap.size + 1 + 1, 0, none⟩ = some (.int .i64 0) := HZ2.out.cell 0
    have z1 : w2.cell? ⟨w.heap.size + 1 + 1, 1, none⟩ = some (.slice none 0 0) := HZ2.out.cell 1
    have z2 : w2.cell? ⟨w.heap.size + 1 + 1, 2, none⟩ = some (.int .i64 0) := HZ2.out.cell 2
    have z3 : w2.cell? ⟨w.heap.size + 1 + 1, 3, none⟩ = some (.slice none 0 0) := HZ2.out.cell 3
    have f0 := HZ2.out.free 0
    have f1 := HZ2.out.free 1
    have f2 := HZ2.out.free 2
    have f3 := HZ2.out.free 3
    have HXx := Lib.hid (((((HX2.out.far (p := ⟨w.heap.size + 1 + 1, 0, none⟩) (show w.heap.size ≠ w.heap.size + 1 + 1 by omega) (.int .i64 many)).far (p := ⟨w.heap.size + 1 + 1, 1, none⟩) (show w.heap.size ≠ w.heap.size + 1 + 1 by omega) (.slice A l.length c)).far (p := ⟨w.heap.size + 1 + 1, 2, none⟩) (show w.heap.size ≠ w.heap.size + 1 + 1 by omega) (.int .i64 a)).far (p := ⟨w.heap.size + 1 + 1, 3, none⟩) (show w.heap.size ≠ w.heap.size + 1 + 1 by omega) (.slice (some ⟨gr, 0, none⟩) rs.length cL)))
    have hf4 := fr_set4 w2 (w.heap.size + 1 + 1) (.int .i64 many) (.slice A l.length c) (.int .i64 a) (.slice (some ⟨gr, 0, none⟩) rs.length cL)
    have HCx := Lib.hid ((hf4.cell (a := ⟨gr, k * 2 + 1, none⟩) hg2 hgne).trans hc1)
    have HFN := Lib.hid ((stepQ_fin (a := a) (A := A) (c := c) H2.out (Fr.of_below0 (S := SlW gl gb g gw) HB2.out) HZ2.out (by omega) hbw (by omega) (.int .i64 many) (.slice A l.length c) (.int .i64 a) (.slice (some ⟨gr, 0, none⟩) rs.length cL)).drewN 1)
    have HS := Lib.hid (s9_back HZ2.out (.int .i64 many) (.slice A l.length c) (.int .i64 a) (.slice (some ⟨gr, 0, none⟩) rs.length cL))
    clear hf4 hO5 hpl hB2 HBy0 hr' hrm hOr hrl hg1
    go_upto_region 22 with fail
    go_region_held3 (fun W => W.cell? ⟨w.heap.size, 0, none⟩ = some (.int .i64 many) ∧ W.cell? ⟨w.heap.size, 1, none⟩ = some (.slice A l.length c) ∧ W.cell? ⟨w.heap.size, 2, none⟩ = some (.int .i64 a) ∧ W.cell? ⟨w.heap.size, 3, none⟩ = some (.slice (some ⟨gr, 0, none⟩) rs.length cL) ∧ W.cell? ⟨gr, k * 2 + 1, none⟩ = some (.slice r'.A 4096 r'.c)) (first | exact ⟨k0, k1, k2, k3, hc1⟩ | exact ⟨HXx.out.cell 0, HXx.out.cell 1, HXx.out.cell 2, HXx.out.cell 3, HCx.out⟩) ((go_at_call 51; refine HBy.out.mono ?_; rintro x wx ⟨rfl, rfl⟩))
    all_goals
      go_wp2
      exact bodyPost_ret (results_ct rfl _ _ (w.heap.size + 1 + 1) 70 _ _ (.bool true) rfl rfl HS.out.1 Tryd.underlying70 rfl HS.out.2) rfl HFN.out
end Go.Proofs.YtcbfaahnhdmagaaDoor
