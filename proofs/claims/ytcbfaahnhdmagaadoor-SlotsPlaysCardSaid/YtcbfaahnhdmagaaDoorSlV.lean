/- Slots: the reference's Page. -/
import Derived.Test.YtcbfaahnhdmagaaDoorSlU
namespace Go.Proofs.YtcbfaahnhdmagaaDoor
open Go.RowKit

theorem s9_new (w : World) (m a : Int) (A AL : Option Addr) (nA c nL cL : Nat) : ∃ w7, w7 = (w.alloc (.cells #[.int .i64 m, .slice A nA c, .int .i64 a, .slice AL nL cL] 70)).alloc (.cells #[.int .i64 0, .slice none 0 0, .int .i64 0, .slice none 0 0] 70) ∧
    Bk w7 w.heap.size 70 #[.int .i64 m, .slice A nA c, .int .i64 a, .slice AL nL cL] ∧ Bk w7 (w.heap.size + 1) 70 #[.int .i64 0, .slice none 0 0, .int .i64 0, .slice none 0 0] ∧ Below w.heap.size w w7 ∧ w.heap.size + 2 ≤ w7.heap.size := by
  refine ⟨_, rfl, (Bk.new _ _ _).alloc _, Bk.new_at _ _ _ (by simp), ((Below.refl _ _).alloc (Nat.le_refl _) _).alloc (by simp) _, by simp⟩
set_option maxRecDepth 100000 in
set_option maxHeartbeats 4000000 in
theorem rPage_no9 {w : World} {base : Nat} {A AL : Option Addr} {m a nA c cL : Nat} {rs : List Pg} (hR : RefP w base (.slice AL rs.length cL) rs) (hl : rs.length ≤ 1000) {n : Int} (hno : ∀ r ∈ rs, (r.n : Int) ≠ n) :
    Calls Tryd.prog 50 #[.agg #[.int .i64 m, .slice A nA c, .int .i64 a, .slice AL rs.length cL], .int .i64 n] w fun e w' => e = .returned (.tuple #[.agg #[.int .i64 m, .slice A nA c, .int .i64 a, .slice AL rs.length cL], .slice none 0 0, .int .i64 6]) ∧ Below w.heap.size w w' := by
  obtain ⟨w7, hw7, hbD, hbZ, hB7, hz7⟩ := s9_new w m a A AL nA c rs.length cL
  have HAt := Lib.hid (rAt_no (.int .i64 m) (.slice A nA c) (.int .i64 a) n (hR.below hB7) hl hno)
  have HD7 := Lib.hid hbD
  have HZ7 := Lib.hid hbZ
  have HB7 := Lib.hid hB7
  have HW7 := Lib.hid hw7
  clear hR hno hw7 hbD hbZ hB7
  go_enter Tryd.func50, Tryd.ntmps50
  go_upto_region 1 with fail
  rw [← HW7.out]
  clear HW7
  have k0 : w7.cell? ⟨w.heap.size, 0, none⟩ = some (.int .i64 m) := HD7.out.cell 0
  have k1 : w7.cell? ⟨w.heap.size, 1, none⟩ = some (.slice A nA c) := HD7.out.cell 1
  have k2 : w7.cell? ⟨w.heap.size, 2, none⟩ = some (.int .i64 a) := HD7.out.cell 2
  have k3 : w7.cell? ⟨w.heap.size, 3, none⟩ = some (.slice AL rs.length cL) := HD7.out.cell 3
  go_wp2_with fail
  refine HAt.out.mono ?_
  rintro e w2 ⟨rfl, hB2⟩
  have HB2 := Lib.hid (HB7.out.trans (hB2.mono HB7.out.size))
  have HDx := Lib.hid (HD7.out.below' hB2)
  have HZx := Lib.hid (HZ7.out.below' hB2)
  clear k0 k1 k2 k3 hB2
  have k0 : w2.cell? ⟨w.heap.size, 0, none⟩ = some (.int .i64 m) := HDx.out.cell 0
  have k1 : w2.cell? ⟨w.heap.size, 1, none⟩ = some (.slice A nA c) := HDx.out.cell 1
  have k2 : w2.cell? ⟨w.heap.size, 2, none⟩ = some (.int .i64 a) := HDx.out.cell 2
  have k3 : w2.cell? ⟨w.heap.size, 3, none⟩ = some (.slice AL rs.length cL) := HDx.out.cell 3
  have z0 : w2.cell? ⟨w.heap.size + 1, 0, none⟩ = some (.int .i64 0) := HZx.out.cell 0
  have z1 : w2.cell? ⟨w.heap.size + 1, 1, none⟩ = some (.slice none 0 0) := HZx.out.cell 1
  have z2 : w2.cell? ⟨w.heap.size + 1, 2, none⟩ = some (.int .i64 0) := HZx.out.cell 2
  have z3 : w2.cell? ⟨w.heap.size + 1, 3, none⟩ = some (.slice none 0 0) := HZx.out.cell 3
  have f0 := HZx.out.free 0
  have f1 := HZx.out.free 1
  have f2 := HZx.out.free 2
  have f3 := HZx.out.free 3
  go_wp2
  have HS := s9_back HZx.out (.int .i64 m) (.slice A nA c) (.int .i64 a) (.slice AL rs.length cL)
  refine bodyPost_ret (results_ctt rfl _ _ (w.heap.size + 1) 70 _ _ (.slice none 0 0) (.int .i64 6) rfl rfl rfl HS.1 Tryd.underlying70 rfl HS.2) rfl ⟨rfl, ?_⟩
  exact HB2.out.trans ((fr_set4 w2 (w.heap.size + 1) _ _ _ _).below HB2.out.size fun q hq e => by omega)

set_option maxRecDepth 100000 in
set_option maxHeartbeats 8000000 in
theorem rPage_yes9 {w : World} {B base : Nat} {A AL : Option Addr} {m a c cL : Nat} {l : List Bool} {rs : List Pg} (hA : RdB w B A l) (hB : B ≤ w.heap.size) (hR : RefP w base (.slice AL rs.length cL) rs) (hl : rs.length ≤ 1000) (ha : a ≤ 900000) {n : Int} (hyes : ∃ r ∈ rs, (r.n : Int) = n) :
    Calls Tryd.prog 50 #[.agg #[.int .i64 m, .slice A l.length c, .int .i64 a, .slice AL rs.length cL], .int .i64 n] w fun e w' =>
      (bad8 l a = true → e = .returned (.tuple #[.agg #[.int .i64 m, .slice A l.length c, .int .i64 ((a : Int) + (cnt8 l a : Nat)), .slice AL rs.length cL], .slice none 0 0, .int .i64 12])) ∧
      (bad8 l a = false → ∃ r ∈ rs, (r.n : Int) = n ∧ e = .returned (.tuple #[.agg #[.int .i64 m, .slice A l.length c, .int .i64 ((a : Int) + (cnt8 l a : Nat)), .slice AL rs.length cL], .slice r.A r.b.length r.c, .int .i64 0])) ∧ Below w.heap.size w w' := by
  obtain ⟨w7, hw7, hbD, hbZ, hB7, hz7⟩ := s9_new w m a A AL l.length c rs.length cL
  have HAt := Lib.hid (rAt_yes (.int .i64 m) (.slice A l.length c) (.int .i64 a) n (hR.below hB7) hl hyes)
  have HD7 := Lib.hid hbD
  have HZ7 := Lib.hid hbZ
  have HB7 := Lib.hid hB7
  have HW7 := Lib.hid hw7
  have HL := Lib.hid hR
  have HAs := Lib.hid hA
  have hai : (a : Int) ≤ 900000 := by omega
  clear hR hyes hw7 hbD hbZ hB7 hA
  go_enter Tryd.func50, Tryd.ntmps50
  go_upto_region 1 with fail
  rw [← HW7.out]
  clear HW7
  have k0 : w7.cell? ⟨w.heap.size, 0, none⟩ = some (.int .i64 m) := HD7.out.cell 0
  have k1 : w7.cell? ⟨w.heap.size, 1, none⟩ = some (.slice A l.length c) := HD7.out.cell 1
  have k2 : w7.cell? ⟨w.heap.size, 2, none⟩ = some (.int .i64 a) := HD7.out.cell 2
  have k3 : w7.cell? ⟨w.heap.size, 3, none⟩ = some (.slice AL rs.length cL) := HD7.out.cell 3
  go_wp2_with fail
  refine HAt.out.mono ?_
  rintro e w2 ⟨⟨k, r, rfl, hr, hrn⟩, hB2⟩
  have HB2 := Lib.hid (HB7.out.trans (hB2.mono HB7.out.size))
  have HD2 := Lib.hid (HD7.out.below' hB2)
  have HZ2 := Lib.hid (HZ7.out.below' hB2)
  have HRk := Lib.hid hr
  have HRn := Lib.hid hrn
  have hkl : k < rs.length := (List.getElem?_eq_some_iff.1 hr).1
  clear k0 k1 k2 k3 hB2 hr hrn HAt HD7 HZ7
  have k0 : w2.cell? ⟨w.heap.size, 0, none⟩ = some (.int .i64 m) := HD2.out.cell 0
  have k1 : w2.cell? ⟨w.heap.size, 1, none⟩ = some (.slice A l.length c) := HD2.out.cell 1
  have k2 : w2.cell? ⟨w.heap.size, 2, none⟩ = some (.int .i64 a) := HD2.out.cell 2
  have k3 : w2.cell? ⟨w.heap.size, 3, none⟩ = some (.slice AL rs.length cL) := HD2.out.cell 3
  have HAk := Lib.hid (rAsks_any (c := c) (.int .i64 m) (.slice AL rs.length cL) (HAs.out.below (HB2.out.mono hB)) (by have := HB2.out.size; omega) (a := a) (by omega))
  have hcn := cnt8_le l a
  have hcni : (cnt8 l a : Int) ≤ 8 := by omega
  go_wp2_with fail
  refine HAk.out.mono ?_
  rintro e w4 ⟨rfl, hB4⟩
  have HB4 := Lib.hid (HB2.out.trans (hB4.mono HB2.out.size))
  have HD4 := Lib.hid (HD2.out.below' hB4)
  have HZ4 := Lib.hid (HZ2.out.below' hB4)
  have hz4 := hB4.size
  clear k0 k1 k2 k3 HD2 HZ2 HAk hB4
  have k2 : w4.cell? ⟨w.heap.size, 2, none⟩ = some (.int .i64 a) := HD4.out.cell 2
  have k2f := HD4.out.free 2
  go_upto_region 6 with fail
  obtain ⟨w5, hw5⟩ : ∃ w5, w5 = w4.setCell ⟨w.heap.size, 2, none⟩ (.int .i64 ((a : Int) + (cnt8 l a : Nat))) := ⟨_, rfl⟩
  have hD5 : Bk w5 w.heap.size 70 #[.int .i64 m, .slice A l.length c, .int .i64 ((a : Int) + (cnt8 l a : Nat)), .slice AL rs.length cL] := by
    rw [hw5]
    simpa using HD4.out.set 2 (.int .i64 ((a : Int) + (cnt8 l a : Nat)))
  have hF5 : Fr (· = w.heap.size) w4 w5 := by rw [hw5]; exact (Fr.refl _ _).set _ _ fun _ => rfl
  have hsz5 : w4.heap.size ≤ w5.heap.size := hF5.size
  rw [← hw5]
  have HZ5 := Lib.hid (HZ4.out.fr hF5 (by omega))
  have HB5 := Lib.hid (HB4.out.trans (hF5.below HB4.out.size fun q hq e => by omega))
  have hL5 := HL.out.below HB5.out
  have HD5 := Lib.hid hD5
  clear hD5 hF5 HZ4 HB4 HD4 k2 k2f hw5
  have k0 : w5.cell? ⟨w.heap.size, 0, none⟩ = some (.int .i64 m) := HD5.out.cell 0
  have k1 : w5.cell? ⟨w.heap.size, 1, none⟩ = some (.slice A l.length c) := HD5.out.cell 1
  have k2 : w5.cell? ⟨w.heap.size, 2, none⟩ = some (.int .i64 ((a : Int) + (cnt8 l a : Nat))) := HD5.out.cell 2
  have k3 : w5.cell? ⟨w.heap.size, 3, none⟩ = some (.slice AL rs.length cL) := HD5.out.cell 3
  have z0 : w5.cell? ⟨w.heap.size + 1, 0, none⟩ = some (.int .i64 0) := HZ5.out.cell 0
  have z1 : w5.cell? ⟨w.heap.size + 1, 1, none⟩ = some (.slice none 0 0) := HZ5.out.cell 1
  have z2 : w5.cell? ⟨w.heap.size + 1, 2, none⟩ = some (.int .i64 0) := HZ5.out.cell 2
  have z3 : w5.cell? ⟨w.heap.size + 1, 3, none⟩ = some (.slice none 0 0) := HZ5.out.cell 3
  have f0 := HZ5.out.free 0
  have f1 := HZ5.out.free 1
  have f2 := HZ5.out.free 2
  have f3 := HZ5.out.free 3
  have HS := Lib.hid (s9_back HZ5.out (.int .i64 m) (.slice A l.length c) (.int .i64 ((a : Int) + (cnt8 l a : Nat))) (.slice AL rs.length cL))
  have hBF := Lib.hid (HB5.out.trans ((fr_set4 w5 (w.heap.size + 1) (.int .i64 m) (.slice A l.length c) (.int .i64 ((a : Int) + (cnt8 l a : Nat))) (.slice AL rs.length cL)).below HB5.out.size fun q hq e => by omega))
  cases hb8 : bad8 l a
  · obtain ⟨r', g, hr', hrm, hAL, hg1, hg2, c0, c1, -, hrl⟩ := hL5.get hkl
    obtain rfl : r' = r := by have := HRk.out; rw [hr'] at this; injection this
    have hgw : g < w.heap.size := by
      obtain ⟨_, g0, _, _, e0, _, h0, _⟩ := HL.out.get hkl
      rw [hAL] at e0
      injection e0 with e0
      injection e0 with e0
      omega
    have hgne : g ≠ w.heap.size + 1 := by omega
    subst hAL
    have HRm := Lib.hid hrm
    have HB8 := Lib.hid hb8
    clear hr' hrm hL5 hrl hb8
    go_upto_region 8 with fail
    go_region
    all_goals
      go_wp2
      refine bodyPost_ret (results_ctt rfl _ _ (w.heap.size + 1) 70 _ _ (.slice r'.A r'.b.length r'.c) (.int .i64 0) rfl rfl rfl HS.out.1 Tryd.underlying70 rfl HS.out.2) rfl ⟨fun h => (by rw [HB8.out] at h; cases h), fun _ => ⟨r', HRm.out, HRn.out, rfl⟩, ⟨hBF.out.os, hBF.out.tape, hBF.out.output, hBF.out.size, hBF.out.block⟩⟩
  · have HB8 := Lib.hid hb8
    go_wp2
    refine bodyPost_ret (results_ctt rfl _ _ (w.heap.size + 1) 70 _ _ (.slice none 0 0) (.int .i64 12) rfl rfl rfl HS.out.1 Tryd.underlying70 rfl HS.out.2) rfl ⟨fun _ => rfl, fun h => (by rw [HB8.out] at h; cases h), hBF.out⟩
end Go.Proofs.YtcbfaahnhdmagaaDoor
