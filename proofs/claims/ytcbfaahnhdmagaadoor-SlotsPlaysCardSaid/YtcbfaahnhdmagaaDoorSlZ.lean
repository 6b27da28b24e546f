/- Slots: a step of both, Page. -/
import Derived.Test.YtcbfaahnhdmagaaDoorSlY
namespace Go.Proofs.YtcbfaahnhdmagaaDoor
open Go.RowKit

theorem Bth.drewN {w0 w : World} {S : Nat → Prop} {gs gd gl gb g gw a many bs cL : Nat} {l : List Bool} {pg : Nat → List UInt8} {f : Nat → Bool} {AL : Option Addr} {rs : List Pg} (h : Bth w0 w S gs gd gl gb g gw l a many pg f bs AL cL rs) (n : Nat) : Bth w0 (w.drewN n) S gs gd gl gb g gw l a many pg f bs AL cL rs :=
  ⟨h.sl.drewN n, ⟨h.ref.row, h.ref.ys⟩, h.ties, h.old, h.lo, h.hi⟩
theorem StepQ.drewN {w0 w : World} {S : Nat → Prop} {gs gd gl gb g gw a many bs c : Nat} {l : List Bool} {A : Option Addr} {e : Ending} {w' : World} (h : StepQ w0 w S gs gd gl gb g gw l a many bs A c e w') (n : Nat) : StepQ w0 w S gs gd gl gb g gw l a many bs A c e (w'.drewN n) := by
  obtain ⟨a', rs', AL', cL', pg', f', h1, h2, h3, h4⟩ := h
  exact ⟨a', rs', AL', cL', pg', f', h1, h2, h3.drewN n, h4.drewN n⟩
set_option maxRecDepth 100000 in
set_option maxHeartbeats 8000000 in
theorem step_page {w0 w : World} {S : Nat → Prop} {gs gd gl gb g gw a many bs cL c : Nat} {l : List Bool} {pg : Nat → List UInt8} {f : Nat → Bool} {A AL : Option Addr} {rs : List Pg} (h : Bth w0 w S gs gd gl gb g gw l a many pg f bs AL cL rs)
    (hA : RdB w0 w0.heap.size A l) (hl : l.length ≤ 3000) (ha : a ≤ 800000) (nd : Int) (fd : UInt8) (dA : Option Addr) (dn dc : Nat) :
    Calls Tryd.prog 34 #[.pointer (some ⟨gs, 0, none⟩), .agg #[.int .i64 many, .slice A l.length c, .int .i64 a, .slice AL rs.length cL], .agg #[.int .i64 3, .int .i64 nd, .int .u8 (fd.toNat : Int), .slice dA dn dc]] w (StepQ w0 w S gs gd gl gb g gw l a many bs A c) := by
  obtain ⟨w7, hw7, hbX, hbD, hbZ, hB7, hz7⟩ := st_new w many a 3 nd fd A AL dA l.length c rs.length cL dn dc
  have HX7 := Lib.hid hbX
  have HZ7 := Lib.hid hbZ
  have HD7 := Lib.hid hbD
  have HB7 := Lib.hid hB7
  have HW7 := Lib.hid hw7
  have H7 := Lib.hid (h.below0 hB7)
  have HAs := Lib.hid hA
  have c0 : w7.cell? ⟨w.heap.size + 1, 0, none⟩ = some (.int .i64 3) := hbD.cell 0
  have c1 : w7.cell? ⟨w.heap.size + 1, 1, none⟩ = some (.int .i64 nd) := hbD.cell 1
  have hlw : w0.heap.size ≤ w.heap.size := Nat.le_trans h.lo h.hi
  have hbw : bs ≤ w.heap.size := h.hi
  have hm := h.sl.many_le
  have hlen := h.le
  have hcn := cnt8_le l a
  have hcast : ((a + cnt8 l a : Nat) : Int) = (a : Int) + (cnt8 l a : Nat) := by omega
  clear hw7 hbX hbD hbZ hB7 h hA
  go_enter Tryd.func34, Tryd.ntmps34
  go_upto_region 1 with fail
  rw [← HW7.out]
  clear HW7
  have k0 : w7.cell? ⟨w.heap.size, 0, none⟩ = some (.int .i64 many) := HX7.out.cell 0
  have k1 : w7.cell? ⟨w.heap.size, 1, none⟩ = some (.slice A l.length c) := HX7.out.cell 1
  have k2 : w7.cell? ⟨w.heap.size, 2, none⟩ = some (.int .i64 a) := HX7.out.cell 2
  have k3 : w7.cell? ⟨w.heap.size, 3, none⟩ = some (.slice AL rs.length cL) := HX7.out.cell 3
  cases hin : (mayB many nd && f nd.toNat)
  · have HP := Lib.hid (rPage_no9 (A := A) (m := many) (a := a) (nA := l.length) (c := c) H7.out.ref (by omega) (H7.out.ties.no hin))
    have HIn := Lib.hid hin
    clear hin hcast hcn
    go_upto_region 12 with fail
    go_wp2_with fail
    refine HP.out.mono ?_
    rintro e w9 ⟨rfl, hB9⟩
    have hBa := hB9.alloc hB9.size (.cells #[.int .i64 many, .slice A l.length c, .int .i64 a, .slice AL rs.length cL] 70)
    have HYa := Lib.hid (Bk.new w9 70 #[.int .i64 many, .slice A l.length c, .int .i64 a, .slice AL rs.length cL])
    have HZa := Lib.hid (HZ7.out.below' hBa)
    have d1 : (w9.alloc (.cells #[.int .i64 many, .slice A l.length c, .int .i64 a, .slice AL rs.length cL] 70)).cell? ⟨w.heap.size + 1, 1, none⟩ = some (.int .i64 nd) := (HD7.out.below' hBa).cell 1
    have HXa := Lib.hid (H7.out.below0 hBa)
    have HFa : Hid (Fr (SlW gl gb g gw) w _) := Fr.of_below0 (HB7.out.trans (hBa.mono HB7.out.size))
    have HPs := Lib.hid (HXa.out.sl.pageNo HIn.out)
    have hgne : w9.heap.size ≠ w.heap.size + 1 + 1 := by have := hB9.size; omega
    clear k0 k1 k2 k3 HP c0 c1 hB9 hBa
    go_wp2_with fail
    refine HPs.out.mono ?_
    generalize w9.alloc (.cells #[.int .i64 many, .slice A l.length c, .int .i64 a, .slice AL rs.length cL] 70) = wa at *
    rintro e wc ⟨rfl, rfl⟩
    obtain ⟨wb, hwb⟩ : ∃ wb, wb = wa := ⟨_, rfl⟩
    subst hwb
    have HYb := HYa
    have HZb := HZa
    generalize w9.heap.size = g9 at *
    have HBy := Lib.hid (refBytes_any (c := 0) (c2 := 0) (RdY.nil wb.drew 0 none) (RdY.nil wb.drew 0 none))
    have y0 : wb.cell? ⟨g9, 0, none⟩ = some (.int .i64 many) := HYb.out.cell 0
    have y1 : wb.cell? ⟨g9, 1, none⟩ = some (.slice A l.length c) := HYb.out.cell 1
    have y2 : wb.cell? ⟨g9, 2, none⟩ = some (.int .i64 a) := HYb.out.cell 2
    have y3 : wb.cell? ⟨g9, 3, none⟩ = some (.slice AL rs.length cL) := HYb.out.cell 3
    have z0 : wb.cell? ⟨w.heap.size + 1 + 1, 0, none⟩ = some (.int .i64 0) := HZb.out.cell 0
    have z1 : wb.cell? ⟨w.heap.size + 1 + 1, 1, none⟩ = some (.slice none 0 0) := HZb.out.cell 1
    have z2 : wb.cell? ⟨w.heap.size + 1 + 1, 2, none⟩ = some (.int .i64 0) := HZb.out.cell 2
    have z3 : wb.cell? ⟨w.heap.size + 1 + 1, 3, none⟩ = some (.slice none 0 0) := HZb.out.cell 3
    have f0 := HZb.out.free 0
    have f1 := HZb.out.free 1
    have f2 := HZb.out.free 2
    have f3 := HZb.out.free 3
    have HS := Lib.hid (s9_back HZb.out (.int .i64 many) (.slice A l.length c) (.int .i64 a) (.slice AL rs.length cL))
    have FN0 := stepQ_fin (a := a) (A := A) (c := c) HXa.out HFa.out HZb.out (by omega) hbw (by omega) (.int .i64 many) (.slice A l.length c) (.int .i64 a) (.slice AL rs.length cL)
    have FN := Lib.hid FN0
    clear FN0
    have HYx := Lib.hid (((((HYb.out.far (p := ⟨w.heap.size + 1 + 1, 0, none⟩) hgne (.int .i64 many)).far (p := ⟨w.heap.size + 1 + 1, 1, none⟩) hgne (.slice A l.length c)).far (p := ⟨w.heap.size + 1 + 1, 2, none⟩) hgne (.int .i64 a)).far (p := ⟨w.heap.size + 1 + 1, 3, none⟩) hgne (.slice AL rs.length cL)).drew)
    go_upto_region 14 with fail
    go_region_held3 (fun W => W.cell? ⟨g9, 0, none⟩ = some (.int .i64 many) ∧ W.cell? ⟨g9, 1, none⟩ = some (.slice A l.length c) ∧ W.cell? ⟨g9, 2, none⟩ = some (.int .i64 a) ∧ W.cell? ⟨g9, 3, none⟩ = some (.slice AL rs.length cL)) (first | exact ⟨y0, y1, y2, y3⟩ | exact ⟨HYx.out.cell 0, HYx.out.cell 1, HYx.out.cell 2, HYx.out.cell 3⟩) ((go_at_call 51; refine HBy.out.mono ?_; rintro x wx ⟨rfl, rfl⟩))
    all_goals
      go_wp2
      exact bodyPost_ret (results_ct rfl _ _ (w.heap.size + 1 + 1) 70 _ _ (.bool true) rfl rfl HS.out.1 Tryd.underlying70 rfl HS.out.2) rfl (FN.out.drewN 1)
  · obtain ⟨n, rfl, hn, hf⟩ : ∃ n : Nat, nd = n ∧ n < many ∧ f n = true := by
      simp only [Bool.and_eq_true] at hin
      obtain ⟨n, rfl, hn⟩ := mayB_true hin.1
      exact ⟨n, rfl, hn, by simpa using hin.2⟩
    have HP := Lib.hid (rPage_yes9 (m := many) (a := a) (c := c) (HAs.out.below H7.out.sl.below) (by have := H7.out.sl.below.size; omega) H7.out.ref (by omega) (by omega) (H7.out.ties.yes hn hf))
    have HFn := Lib.hid hf
    have HN := Lib.hid hn
    clear hin hf hn
    go_upto_region 12 with fail
    go_wp2_with fail
    refine HP.out.mono ?_
    rintro e w9 ⟨hbad, hok, hB9⟩
    cases hb8 : bad8 l a
    · obtain ⟨r, hrm, hrn, rfl⟩ := hok hb8
      have HRm := Lib.hid hrm
      have hB9' : w7.heap.size ≤ w9.heap.size := hB9.size
      have HRb := Lib.hid ((H7.out.ties.page hrm hrn))
      have hrl : r.b.length = 4096 := (H7.out.ref.ys r hrm).2
      have HRl := Lib.hid hrl
      clear hbad hok hrm hrn hrl
      have hBa := hB9.alloc hB9.size (.cells #[.int .i64 many, .slice A l.length c, .int .i64 ((a : Int) + (cnt8 l a : Nat)), .slice AL rs.length cL] 70)
      have HYa := Lib.hid (Bk.new w9 70 #[.int .i64 many, .slice A l.length c, .int .i64 ((a : Int) + (cnt8 l a : Nat)), .slice AL rs.length cL])
      have HZa := Lib.hid (HZ7.out.below' hBa)
      have d1 : (w9.alloc (.cells #[.int .i64 many, .slice A l.length c, .int .i64 ((a : Int) + (cnt8 l a : Nat)), .slice AL rs.length cL] 70)).cell? ⟨w.heap.size + 1, 1, none⟩ = some (.int .i64 n) := (HD7.out.below' hBa).cell 1
      have HXa := Lib.hid (H7.out.below0 hBa)
      have HFa : Hid (Fr (SlW gl gb g gw) w _) := Fr.of_below0 (HB7.out.trans (hBa.mono HB7.out.size))
      have HPs := Lib.hid (HXa.out.sl.page (by omega) (by omega) HN.out HFn.out)
      have hgne : w9.heap.size ≠ w.heap.size + 1 + 1 := by have := hB9.size; omega
      clear k0 k1 k2 k3 HP c0 c1 hB9 hBa
      go_wp2_with fail
      refine HPs.out.mono ?_
      generalize w9.alloc (.cells #[.int .i64 many, .slice A l.length c, .int .i64 ((a : Int) + (cnt8 l a : Nat)), .slice AL rs.length cL] 70) = wa at *
      rintro e wb ⟨-, hok2, hS, hF⟩
      obtain ⟨hpl, A5, c5, rfl, hO5⟩ := hok2 hb8
      have hF2 : Fr (SlW gl gb g gw) wa wb := hF.mono fun _ _ h => .inl h
      have hgx := H7.out.hi
      have HYb := Lib.hid (HYa.out.fr hF2 (H7.out.far (by have := hB9'; omega)))
      have HZb := Lib.hid (HZa.out.fr hF2 (H7.out.far (by omega)))
      have HFb := Lib.hid (HFa.out.trans hF2 fun _ _ h => h)
      have HSb := Lib.hid (HXa.out.step hS hF2)
      have HRy := Lib.hid ((HSb.out.ref.ys r HRm.out).1.rd)
      have HBy0 := refBytes_any (c := c5) (c2 := r.c) (hO5.rd.drewN 1) (HRy.out.drewN 1)
      rw [HRb.out, hpl, beq_self_eq_true] at HBy0
      rw [HRl.out]
      have HBy1 := Lib.hid HBy0
      clear hok2 hO5 hS hF hF2 hpl HBy0 HPs HXa HFa HZa HYa
      generalize w9.heap.size = g9 at *
      have HBy := Lib.hid (HBy1.out)
      have y0 : wb.cell? ⟨g9, 0, none⟩ = some (.int .i64 many) := HYb.out.cell 0
      have y1 : wb.cell? ⟨g9, 1, none⟩ = some (.slice A l.length c) := HYb.out.cell 1
      have y2 : wb.cell? ⟨g9, 2, none⟩ = some (.int .i64 ((a : Int) + (cnt8 l a : Nat))) := HYb.out.cell 2
      have y3 : wb.cell? ⟨g9, 3, none⟩ = some (.slice AL rs.length cL) := HYb.out.cell 3
      have z0 : wb.cell? ⟨w.heap.size + 1 + 1, 0, none⟩ = some (.int .i64 0) := HZb.out.cell 0
      have z1 : wb.cell? ⟨w.heap.size + 1 + 1, 1, none⟩ = some (.slice none 0 0) := HZb.out.cell 1
      have z2 : wb.cell? ⟨w.heap.size + 1 + 1, 2, none⟩ = some (.int .i64 0) := HZb.out.cell 2
      have z3 : wb.cell? ⟨w.heap.size + 1 + 1, 3, none⟩ = some (.slice none 0 0) := HZb.out.cell 3
      have f0 := HZb.out.free 0
      have f1 := HZb.out.free 1
      have f2 := HZb.out.free 2
      have f3 := HZb.out.free 3
      have HS := Lib.hid (s9_back HZb.out (.int .i64 many) (.slice A l.length c) (.int .i64 ((a : Int) + (cnt8 l a : Nat))) (.slice AL rs.length cL))
      have FN0 := stepQ_fin (a := a) (A := A) (c := c) HSb.out HFb.out HZb.out (by omega) hbw (by omega) (.int .i64 many) (.slice A l.length c) (.int .i64 ((a : Int) + (cnt8 l a : Nat))) (.slice AL rs.length cL)
      rw [hcast] at FN0
      have FN := Lib.hid FN0
      clear FN0
      have HYx := Lib.hid (((((HYb.out.far (p := ⟨w.heap.size + 1 + 1, 0, none⟩) hgne (.int .i64 many)).far (p := ⟨w.heap.size + 1 + 1, 1, none⟩) hgne (.slice A l.length c)).far (p := ⟨w.heap.size + 1 + 1, 2, none⟩) hgne (.int .i64 ((a : Int) + (cnt8 l a : Nat)))).far (p := ⟨w.heap.size + 1 + 1, 3, none⟩) hgne (.slice AL rs.length cL)).drew)
      go_upto_region 14 with fail
      go_region_held3 (fun W => W.cell? ⟨g9, 0, none⟩ = some (.int .i64 many) ∧ W.cell? ⟨g9, 1, none⟩ = some (.slice A l.length c) ∧ W.cell? ⟨g9, 2, none⟩ = some (.int .i64 ((a : Int) + (cnt8 l a : Nat))) ∧ W.cell? ⟨g9, 3, none⟩ = some (.slice AL rs.length cL)) (first | exact ⟨y0, y1, y2, y3⟩ | exact ⟨HYx.out.cell 0, HYx.out.cell 1, HYx.out.cell 2, HYx.out.cell 3⟩) ((go_at_call 51; refine HBy.out.mono ?_; rintro x wx ⟨rfl, rfl⟩))
      all_goals
        go_wp2
        exact bodyPost_ret (results_ct rfl _ _ (w.heap.size + 1 + 1) 70 _ _ (.bool true) rfl rfl HS.out.1 Tryd.underlying70 rfl HS.out.2) rfl (FN.out.drewN 1)
    · obtain rfl := hbad hb8
      have hB9' : w7.heap.size ≤ w9.heap.size := hB9.size
      clear hbad hok
      have hBa := hB9.alloc hB9.size (.cells #[.int .i64 many, .slice A l.length c, .int .i64 ((a : Int) + (cnt8 l a : Nat)), .slice AL rs.length cL] 70)
      have HYa := Lib.hid (Bk.new w9 70 #[.int .i64 many, .slice A l.length c, .int .i64 ((a : Int) + (cnt8 l a : Nat)), .slice AL rs.length cL])
      have HZa := Lib.hid (HZ7.out.below' hBa)
      have d1 : (w9.alloc (.cells #[.int .i64 many, .slice A l.length c, .int .i64 ((a : Int) + (cnt8 l a : Nat)), .slice AL rs.length cL] 70)).cell? ⟨w.heap.size + 1, 1, none⟩ = some (.int .i64 n) := (HD7.out.below' hBa).cell 1
      have HXa := Lib.hid (H7.out.below0 hBa)
      have HFa : Hid (Fr (SlW gl gb g gw) w _) := Fr.of_below0 (HB7.out.trans (hBa.mono HB7.out.size))
      have HPs := Lib.hid (HXa.out.sl.page (by omega) (by omega) HN.out HFn.out)
      have hgne : w9.heap.size ≠ w.heap.size + 1 + 1 := by have := hB9.size; omega
      clear k0 k1 k2 k3 HP c0 c1 hB9 hBa
      go_wp2_with fail
      refine HPs.out.mono ?_
      generalize w9.alloc (.cells #[.int .i64 many, .slice A l.length c, .int .i64 ((a : Int) + (cnt8 l a : Nat)), .slice AL rs.length cL] 70) = wa at *
      rintro e wb ⟨hbad2, -, hS, hF⟩
      obtain rfl := hbad2 hb8
      have hF2 : Fr (SlW gl gb g gw) wa wb := hF.mono fun _ _ h => .inl h
      have hgx := H7.out.hi
      have HYb := Lib.hid (HYa.out.fr hF2 (H7.out.far (by have := hB9'; omega)))
      have HZb := Lib.hid (HZa.out.fr hF2 (H7.out.far (by omega)))
      have HFb := Lib.hid (HFa.out.trans hF2 fun _ _ h => h)
      have HSb := Lib.hid (HXa.out.step hS hF2)
      clear hbad2 hS hF hF2 HPs HXa HFa HZa HYa
      generalize w9.heap.size = g9 at *
      have HBy := Lib.hid (refBytes_any (c := 0) (c2 := 0) (RdY.nil wb.drew 0 none) (RdY.nil wb.drew 0 none))
      have y0 : wb.cell? ⟨g9, 0, none⟩ = some (.int .i64 many) := HYb.out.cell 0
      have y1 : wb.cell? ⟨g9, 1, none⟩ = some (.slice A l.length c) := HYb.out.cell 1
      have y2 : wb.cell? ⟨g9, 2, none⟩ = some (.int .i64 ((a : Int) + (cnt8 l a : Nat))) := HYb.out.cell 2
      have y3 : wb.cell? ⟨g9, 3, none⟩ = some (.slice AL rs.length cL) := HYb.out.cell 3
      have z0 : wb.cell? ⟨w.heap.size + 1 + 1, 0, none⟩ = some (.int .i64 0) := HZb.out.cell 0
      have z1 : wb.cell? ⟨w.heap.size + 1 + 1, 1, none⟩ = some (.slice none 0 0) := HZb.out.cell 1
      have z2 : wb.cell? ⟨w.heap.size + 1 + 1, 2, none⟩ = some (.int .i64 0) := HZb.out.cell 2
      have z3 : wb.cell? ⟨w.heap.size + 1 + 1, 3, none⟩ = some (.slice none 0 0) := HZb.out.cell 3
      have f0 := HZb.out.free 0
      have f1 := HZb.out.free 1
      have f2 := HZb.out.free 2
      have f3 := HZb.out.free 3
      have HS := Lib.hid (s9_back HZb.out (.int .i64 many) (.slice A l.length c) (.int .i64 ((a : Int) + (cnt8 l a : Nat))) (.slice AL rs.length cL))
      have FN0 := stepQ_fin (a := a) (A := A) (c := c) HSb.out HFb.out HZb.out (by omega) hbw (by omega) (.int .i64 many) (.slice A l.length c) (.int .i64 ((a : Int) + (cnt8 l a : Nat))) (.slice AL rs.length cL)
      rw [hcast] at FN0
      have FN := Lib.hid FN0
      clear FN0
      have HYx := Lib.hid (((((HYb.out.far (p := ⟨w.heap.size + 1 + 1, 0, none⟩) hgne (.int .i64 many)).far (p := ⟨w.heap.size + 1 + 1, 1, none⟩) hgne (.slice A l.length c)).far (p := ⟨w.heap.size + 1 + 1, 2, none⟩) hgne (.int .i64 ((a : Int) + (cnt8 l a : Nat)))).far (p := ⟨w.heap.size + 1 + 1, 3, none⟩) hgne (.slice AL rs.length cL)).drew)
      go_upto_region 14 with fail
      go_region_held3 (fun W => W.cell? ⟨g9, 0, none⟩ = some (.int .i64 many) ∧ W.cell? ⟨g9, 1, none⟩ = some (.slice A l.length c) ∧ W.cell? ⟨g9, 2, none⟩ = some (.int .i64 ((a : Int) + (cnt8 l a : Nat))) ∧ W.cell? ⟨g9, 3, none⟩ = some (.slice AL rs.length cL)) (first | exact ⟨y0, y1, y2, y3⟩ | exact ⟨HYx.out.cell 0, HYx.out.cell 1, HYx.out.cell 2, HYx.out.cell 3⟩) ((go_at_call 51; refine HBy.out.mono ?_; rintro x wx ⟨rfl, rfl⟩))
      all_goals
        go_wp2
        exact bodyPost_ret (results_ct rfl _ _ (w.heap.size + 1 + 1) 70 _ _ (.bool true) rfl rfl HS.out.1 Tryd.underlying70 rfl HS.out.2) rfl (FN.out.drewN 1)
end Go.Proofs.YtcbfaahnhdmagaaDoor
