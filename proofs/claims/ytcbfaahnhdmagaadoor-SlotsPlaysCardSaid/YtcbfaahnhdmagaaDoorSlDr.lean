/- Slots: a step of both, Drop. -/
import Derived.Test.YtcbfaahnhdmagaaDoorSlZ
namespace Go.Proofs.YtcbfaahnhdmagaaDoor
open Go.RowKit

set_option maxRecDepth 100000 in
set_option maxHeartbeats 8000000 in
theorem step_drop {w0 w : World} {S : Nat → Prop} {gs gd gl gb g gw a many bs cL c : Nat} {l : List Bool} {pg : Nat → List UInt8} {f : Nat → Bool} {A AL : Option Addr} {rs : List Pg} (h : Bth w0 w S gs gd gl gb g gw l a many pg f bs AL cL rs)
    (hA : RdB w0 w0.heap.size A l) (_hl : l.length ≤ 3000) (_ha : a ≤ 800000) (nd : Int) (fd : UInt8) (dA : Option Addr) (dn dc : Nat) :
    Calls Tryd.prog 34 #[.pointer (some ⟨gs, 0, none⟩), .agg #[.int .i64 many, .slice A l.length c, .int .i64 a, .slice AL rs.length cL], .agg #[.int .i64 4, .int .i64 nd, .int .u8 (fd.toNat : Int), .slice dA dn dc]] w (StepQ w0 w S gs gd gl gb g gw l a many bs A c) := by
  obtain ⟨w7, hw7, hbX, hbD, hbZ, hB7, hz7⟩ := st_new w many a 4 nd fd A AL dA l.length c rs.length cL dn dc
  have HX7 := Lib.hid hbX
  have HZ7 := Lib.hid hbZ
  have HD7 := Lib.hid hbD
  have HB7 := Lib.hid hB7
  have HW7 := Lib.hid hw7
  have H7 := Lib.hid (h.below0 hB7)
  have HAs := Lib.hid hA
  have c0 : w7.cell? ⟨w.heap.size + 1, 0, none⟩ = some (.int .i64 4) := hbD.cell 0
  have c1 : w7.cell? ⟨w.heap.size + 1, 1, none⟩ = some (.int .i64 nd) := hbD.cell 1
  have hlw : w0.heap.size ≤ w.heap.size := Nat.le_trans h.lo h.hi
  have hbw : bs ≤ w.heap.size := h.hi
  have hm := h.sl.many_le
  have hlen := h.le
  clear hw7 hbX hbD hbZ hB7 h hA
  go_enter Tryd.func34, Tryd.ntmps34
  go_upto_region 1 with fail
  rw [← HW7.out]
  clear HW7
  have k0 : w7.cell? ⟨w.heap.size, 0, none⟩ = some (.int .i64 many) := HX7.out.cell 0
  have k1 : w7.cell? ⟨w.heap.size, 1, none⟩ = some (.slice A l.length c) := HX7.out.cell 1
  have k2 : w7.cell? ⟨w.heap.size, 2, none⟩ = some (.int .i64 a) := HX7.out.cell 2
  have k3 : w7.cell? ⟨w.heap.size, 3, none⟩ = some (.slice AL rs.length cL) := HX7.out.cell 3
  cases hin : (mayB many nd && f nd.toNat)
  · have HP := Lib.hid (rDrop_no9 (A := A) (m := many) (a := a) (nA := l.length) (c := c) H7.out.ref (by omega) (H7.out.ties.no hin))
    have HIn := Lib.hid hin
    clear hin
    go_upto_region 16 with fail
    go_wp2_with fail
    refine HP.out.mono ?_
    rintro e w9 ⟨rfl, hB9⟩
    have hBa := hB9.alloc hB9.size (.cells #[.int .i64 many, .slice A l.length c, .int .i64 a, .slice AL rs.length cL] 70)
    have HYa := Lib.hid (Bk.new w9 70 #[.int .i64 many, .slice A l.length c, .int .i64 a, .slice AL rs.length cL])
    have HZa := Lib.hid (HZ7.out.below' hBa)
    have d1 : (w9.alloc (.cells #[.int .i64 many, .slice A l.length c, .int .i64 a, .slice AL rs.length cL] 70)).cell? ⟨w.heap.size + 1, 1, none⟩ = some (.int .i64 nd) := (HD7.out.below' hBa).cell 1
    have HDa := Lib.hid (HD7.out.below' hBa)
    have HXa := Lib.hid (H7.out.below0 hBa)
    have HFa : Hid (Fr (SlW gl gb g gw) w _) := Fr.of_below0 (HB7.out.trans (hBa.mono HB7.out.size))
    have hgne : w9.heap.size ≠ w.heap.size + 1 + 1 := by have := hB9.size; omega
    have hg9 : bs ≤ w9.heap.size := by have := hB9.size; omega
    clear k0 k1 k2 k3 HP c0 c1 hB9 hBa
    go_upto_region 17 with fail
    generalize w9.alloc (.cells #[.int .i64 many, .slice A l.length c, .int .i64 a, .slice AL rs.length cL] 70) = wa at *
    generalize w9.heap.size = g9 at *
    have HPs := Lib.hid ((HXa.out.drewN 1).sl.dropNo HIn.out)
    have y0 : wa.cell? ⟨g9, 0, none⟩ = some (.int .i64 many) := HYa.out.cell 0
    have y1 : wa.cell? ⟨g9, 1, none⟩ = some (.slice A l.length c) := HYa.out.cell 1
    have y2 : wa.cell? ⟨g9, 2, none⟩ = some (.int .i64 a) := HYa.out.cell 2
    have y3 : wa.cell? ⟨g9, 3, none⟩ = some (.slice AL rs.length cL) := HYa.out.cell 3
    go_upto_region 17 with fail
    go_region_held3 (fun W => W.cell? ⟨g9, 0, none⟩ = some (.int .i64 many) ∧ W.cell? ⟨g9, 1, none⟩ = some (.slice A l.length c) ∧ W.cell? ⟨g9, 2, none⟩ = some (.int .i64 a) ∧ W.cell? ⟨g9, 3, none⟩ = some (.slice AL rs.length cL) ∧ W.cell? ⟨w.heap.size + 1, 1, none⟩ = some (.int .i64 nd)) (first | exact ⟨y0, y1, y2, y3, d1⟩ | exact ⟨HYx.out.cell 0, HYx.out.cell 1, HYx.out.cell 2, HYx.out.cell 3, HDx.out.cell 1⟩ | exact ⟨HYy.out.cell 0, HYy.out.cell 1, HYy.out.cell 2, HYy.out.cell 3, HDy.out.cell 1⟩) ((go_at_call 30; refine HPs.out.mono ?_; rintro x wx ⟨rfl, hwx⟩; have HYx : Hid (Bk wx _ _ _) := (by rw [← hwx]; exact HYa.out.drewN 1); have HZx : Hid (Bk wx _ _ _) := (by rw [← hwx]; exact HZa.out.drewN 1); have HDx : Hid (Bk wx _ _ _) := (by rw [← hwx]; exact HDa.out.drewN 1); have z0 : wx.cell? ⟨w.heap.size + 1 + 1, 0, none⟩ = some (.int .i64 0) := HZx.out.cell 0; have z1 : wx.cell? ⟨w.heap.size + 1 + 1, 1, none⟩ = some (.slice none 0 0) := HZx.out.cell 1; have z2 : wx.cell? ⟨w.heap.size + 1 + 1, 2, none⟩ = some (.int .i64 0) := HZx.out.cell 2; have z3 : wx.cell? ⟨w.heap.size + 1 + 1, 3, none⟩ = some (.slice none 0 0) := HZx.out.cell 3; have f0 := HZx.out.free 0; have f1 := HZx.out.free 1; have f2 := HZx.out.free 2; have f3 := HZx.out.free 3; have HYy := Lib.hid (((((HYx.out.far (p := ⟨w.heap.size + 1 + 1, 0, none⟩) hgne (.int .i64 many)).far (p := ⟨w.heap.size + 1 + 1, 1, none⟩) hgne (.slice A l.length c)).far (p := ⟨w.heap.size + 1 + 1, 2, none⟩) hgne (.int .i64 a)).far (p := ⟨w.heap.size + 1 + 1, 3, none⟩) hgne (.slice AL rs.length cL))); have HDy := Lib.hid (((((HDx.out.far (p := ⟨w.heap.size + 1 + 1, 0, none⟩) (show w.heap.size + 1 ≠ w.heap.size + 1 + 1 by omega) (.int .i64 many)).far (p := ⟨w.heap.size + 1 + 1, 1, none⟩) (show w.heap.size + 1 ≠ w.heap.size + 1 + 1 by omega) (.slice A l.length c)).far (p := ⟨w.heap.size + 1 + 1, 2, none⟩) (show w.heap.size + 1 ≠ w.heap.size + 1 + 1 by omega) (.int .i64 a)).far (p := ⟨w.heap.size + 1 + 1, 3, none⟩) (show w.heap.size + 1 ≠ w.heap.size + 1 + 1 by omega) (.slice AL rs.length cL)))))
    all_goals
      go_wp2
      have HS := s9_back HZx.out (.int .i64 many) (.slice A l.length c) (.int .i64 a) (.slice AL rs.length cL)
      have HN : Bth w0 wx S gs gd gl gb g gw l a many pg f bs AL cL rs := by rw [← hwx]; exact HXa.out.drewN 1
      have HFx : Fr (SlW gl gb g gw) w wx := by rw [← hwx]; exact HFa.out.drewN 1
      exact bodyPost_ret (results_ct rfl _ _ (w.heap.size + 1 + 1) 70 _ _ (.bool true) rfl rfl HS.1 Tryd.underlying70 rfl HS.2) rfl (stepQ_fin (a := a) (A := A) (c := c) HN HFx HZx.out (by omega) hbw (by omega) _ _ _ _)
  · obtain ⟨n, rfl, hn, hf⟩ : ∃ n : Nat, nd = n ∧ n < many ∧ f n = true := by
      simp only [Bool.and_eq_true] at hin
      obtain ⟨n, rfl, hn⟩ := mayB_true hin.1
      exact ⟨n, rfl, hn, by simpa using hin.2⟩
    have HP := Lib.hid (rDrop_yes9 (A := A) (m := many) (a := a) (nA := l.length) (c := c) H7.out.ref H7.out.hi (by omega) (H7.out.ties.yes hn hf))
    have HFn := Lib.hid hf
    have HNn := Lib.hid hn
    clear hin hf hn
    go_upto_region 16 with fail
    go_wp2_with fail
    refine HP.out.mono ?_
    rintro e w9 ⟨⟨k, r, A2, c2, hr, hrn, rfl, hR⟩, hB9⟩
    have hrn2 : r.n = n := by omega
    have hTi := H7.out.ties.drop hr
    rw [hrn2] at hTi
    generalize rs.take k ++ rs.drop (k + 1) = rs2 at *
    have HTi := Lib.hid hTi
    have HR9 := Lib.hid hR
    clear hTi hR hrn hrn2 hr
    have hBa := hB9.alloc hB9.size (.cells #[.int .i64 many, .slice A l.length c, .int .i64 a, .slice A2 rs2.length c2] 70)
    have HYa := Lib.hid (Bk.new w9 70 #[.int .i64 many, .slice A l.length c, .int .i64 a, .slice A2 rs2.length c2])
    have HZa := Lib.hid (HZ7.out.below' hBa)
    have d1 : (w9.alloc (.cells #[.int .i64 many, .slice A l.length c, .int .i64 a, .slice A2 rs2.length c2] 70)).cell? ⟨w.heap.size + 1, 1, none⟩ = some (.int .i64 n) := (HD7.out.below' hBa).cell 1
    have HDa := Lib.hid (HD7.out.below' hBa)
    have HXa := Lib.hid (H7.out.below0 hBa)
    have HFa : Hid (Fr (SlW gl gb g gw) w _) := Fr.of_below0 (HB7.out.trans (hBa.mono HB7.out.size))
    have hgne : w9.heap.size ≠ w.heap.size + 1 + 1 := by have := hB9.size; omega
    have hg9 : bs ≤ w9.heap.size := by have := hB9.size; omega
    have HRa := Lib.hid (HR9.out.below ((Below.refl _ _).alloc (Nat.le_refl _) (.cells #[.int .i64 many, .slice A l.length c, .int .i64 a, .slice A2 rs2.length c2] 70)))
    clear k0 k1 k2 k3 HP c0 c1 hB9 hBa
    go_upto_region 17 with fail
    generalize w9.alloc (.cells #[.int .i64 many, .slice A l.length c, .int .i64 a, .slice A2 rs2.length c2] 70) = wa at *
    generalize w9.heap.size = g9 at *
    have HPs := Lib.hid ((HXa.out.drewN 1).sl.drop HNn.out HFn.out)
    have hgx := H7.out.hi
    have y0 : wa.cell? ⟨g9, 0, none⟩ = some (.int .i64 many) := HYa.out.cell 0
    have y1 : wa.cell? ⟨g9, 1, none⟩ = some (.slice A l.length c) := HYa.out.cell 1
    have y2 : wa.cell? ⟨g9, 2, none⟩ = some (.int .i64 a) := HYa.out.cell 2
    have y3 : wa.cell? ⟨g9, 3, none⟩ = some (.slice A2 rs2.length c2) := HYa.out.cell 3
    go_upto_region 17 with fail
    go_region_held3 (fun W => W.cell? ⟨g9, 0, none⟩ = some (.int .i64 many) ∧ W.cell? ⟨g9, 1, none⟩ = some (.slice A l.length c) ∧ W.cell? ⟨g9, 2, none⟩ = some (.int .i64 a) ∧ W.cell? ⟨g9, 3, none⟩ = some (.slice A2 rs2.length c2) ∧ W.cell? ⟨w.heap.size + 1, 1, none⟩ = some (.int .i64 n)) (first | exact ⟨y0, y1, y2, y3, d1⟩ | exact ⟨HYx.out.cell 0, HYx.out.cell 1, HYx.out.cell 2, HYx.out.cell 3, HDx.out.cell 1⟩ | exact ⟨HYy.out.cell 0, HYy.out.cell 1, HYy.out.cell 2, HYy.out.cell 3, HDy.out.cell 1⟩) ((go_at_call 30; refine HPs.out.mono ?_; rintro x wx ⟨rfl, hS, hF⟩; have HYx : Hid (Bk wx _ _ _) := (HYa.out.drewN 1).fr hF (H7.out.far (by omega)); have HZx : Hid (Bk wx _ _ _) := (HZa.out.drewN 1).fr hF (H7.out.far (by omega)); have HDx : Hid (Bk wx _ _ _) := (HDa.out.drewN 1).fr hF (H7.out.far (by omega)); have z0 : wx.cell? ⟨w.heap.size + 1 + 1, 0, none⟩ = some (.int .i64 0) := HZx.out.cell 0; have z1 : wx.cell? ⟨w.heap.size + 1 + 1, 1, none⟩ = some (.slice none 0 0) := HZx.out.cell 1; have z2 : wx.cell? ⟨w.heap.size + 1 + 1, 2, none⟩ = some (.int .i64 0) := HZx.out.cell 2; have z3 : wx.cell? ⟨w.heap.size + 1 + 1, 3, none⟩ = some (.slice none 0 0) := HZx.out.cell 3; have f0 := HZx.out.free 0; have f1 := HZx.out.free 1; have f2 := HZx.out.free 2; have f3 := HZx.out.free 3; have HYy := Lib.hid (((((HYx.out.far (p := ⟨w.heap.size + 1 + 1, 0, none⟩) hgne (.int .i64 many)).far (p := ⟨w.heap.size + 1 + 1, 1, none⟩) hgne (.slice A l.length c)).far (p := ⟨w.heap.size + 1 + 1, 2, none⟩) hgne (.int .i64 a)).far (p := ⟨w.heap.size + 1 + 1, 3, none⟩) hgne (.slice A2 rs2.length c2))); have HDy := Lib.hid (((((HDx.out.far (p := ⟨w.heap.size + 1 + 1, 0, none⟩) (show w.heap.size + 1 ≠ w.heap.size + 1 + 1 by omega) (.int .i64 many)).far (p := ⟨w.heap.size + 1 + 1, 1, none⟩) (show w.heap.size + 1 ≠ w.heap.size + 1 + 1 by omega) (.slice A l.length c)).far (p := ⟨w.heap.size + 1 + 1, 2, none⟩) (show w.heap.size + 1 ≠ w.heap.size + 1 + 1 by omega) (.int .i64 a)).far (p := ⟨w.heap.size + 1 + 1, 3, none⟩) (show w.heap.size + 1 ≠ w.heap.size + 1 + 1 by omega) (.slice A2 rs2.length c2)))))
    all_goals
      go_wp2
      have HS := s9_back HZx.out (.int .i64 many) (.slice A l.length c) (.int .i64 a) (.slice A2 rs2.length c2)
      have hRx : RefP wx bs (.slice A2 rs2.length c2) rs2 := RefP.fr (w := wa.drewN 1) ⟨HRa.out.row, HRa.out.ys⟩ hF fun k h1 _ h3 => (by have := H7.out.old k (H7.out.sl.inW k h3); omega)
      have HN : Bth w0 wx S gs gd gl gb g gw l a many pg (updB f n false) bs A2 c2 rs2 := ⟨hS, hRx, HTi.out, H7.out.old, H7.out.lo, Nat.le_trans (Nat.le_trans HXa.out.hi (Nat.le_refl _)) hF.size⟩
      have HFx : Fr (SlW gl gb g gw) w wx := (HFa.out.drewN 1).trans hF fun _ _ h => h
      exact bodyPost_ret (results_ct rfl _ _ (w.heap.size + 1 + 1) 70 _ _ (.bool true) rfl rfl HS.1 Tryd.underlying70 rfl HS.2) rfl (stepQ_fin (a := a) (A := A) (c := c) HN HFx HZx.out (by omega) hbw (by omega) _ _ _ _)
end Go.Proofs.YtcbfaahnhdmagaaDoor
