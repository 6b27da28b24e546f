/- Slots: the reference's Put. -/
import Derived.Test.YtcbfaahnhdmagaaDoorSlT
namespace Go.Proofs.YtcbfaahnhdmagaaDoor
open Go.RowKit

theorem Bk.set4 {w : World} {g : Nat} {t : TypeId} {x0 x1 x2 x3 : Value} (h : Bk w g t #[x0, x1, x2, x3]) (a b c d : Value) : Bk ((((w.setCell ⟨g, 0, none⟩ a).setCell ⟨g, 1, none⟩ b).setCell ⟨g, 2, none⟩ c).setCell ⟨g, 3, none⟩ d) g t #[a, b, c, d] := by
  simpa using (((h.set 0 a).set 1 b).set 2 c).set 3 d
theorem fr_set4 (w : World) (g : Nat) (a b c d : Value) : Fr (· = g) w ((((w.setCell ⟨g, 0, none⟩ a).setCell ⟨g, 1, none⟩ b).setCell ⟨g, 2, none⟩ c).setCell ⟨g, 3, none⟩ d) :=
  ((((Fr.refl (· = g) w).set ⟨g, 0, none⟩ a fun _ => rfl).set ⟨g, 1, none⟩ b fun _ => rfl).set ⟨g, 2, none⟩ c fun _ => rfl).set ⟨g, 3, none⟩ d fun _ => rfl
theorem pgOne (rs : List Pg) : ∀ u ∈ pgCells rs, u.oneCell' = true := by
  intro u hu
  unfold pgCells at hu
  obtain ⟨r, _, hr⟩ := List.mem_flatMap.1 hu
  simp at hr
  rcases hr with rfl | rfl <;> rfl
theorem p_info : (Tryd.prog.info? 98).map (fun i => (i.size, i.bytes, i.zero.map (·.cells.size))) = some (2, 32, some 2) := by kernel_rfl
theorem p_parts : ∃ i z, Tryd.prog.info? 98 = some i ∧ i.zero = some z ∧ i.size = 2 ∧ i.bytes = 32 ∧ z.cells.size = 2 := by
  obtain ⟨i, hi, h⟩ := Option.map_eq_some_iff.1 p_info
  simp only [Prod.mk.injEq] at h
  obtain ⟨z, hz, hzs⟩ := Option.map_eq_some_iff.1 h.2.2
  exact ⟨i, z, hi, hz, h.1, h.2.1, hzs⟩
set_option maxRecDepth 100000 in
set_option maxHeartbeats 1000000 in
theorem rPut_len (w : World) (A AL Ab : Option Addr) (m a nA c nL cL nb cb : Nat) (hb : nb ≠ 4096) :
    Calls Tryd.prog 49 #[.agg #[.int .i64 m, .slice A nA c, .int .i64 a, .slice AL nL cL], .slice Ab nb cb] w fun e w' => e = .returned (.tuple #[.agg #[.int .i64 m, .slice A nA c, .int .i64 a, .slice AL nL cL], .int .i64 0, .int .i64 1]) ∧ Below w.heap.size w w' := by
  have h1 : ((nb : Int) != 4096) = true := bne_iff_ne.2 (by omega)
  go_enter Tryd.func49, Tryd.ntmps49
  go_wp2
  go_returns
  exact ⟨rfl, ((Below.refl _ _).alloc (Nat.le_refl _) _).alloc (by simp) _⟩

/-- What is handed back of a box that was stored anew, and what that turned. -/
theorem s9_back {w : World} {g : Nat} {x0 x1 x2 x3 : Value} (h : Bk w g 70 #[x0, x1, x2, x3]) (a b c d : Value) :
    Bk ((((w.setCell ⟨g, 0, none⟩ a).setCell ⟨g, 1, none⟩ b).setCell ⟨g, 2, none⟩ c).setCell ⟨g, 3, none⟩ d) g 70 #[a, b, c, d] ∧ (Tryd.prog.info? 70).map (·.size) = some (#[a, b, c, d] : Array Value).size :=
  ⟨h.set4 a b c d, s9_info⟩
set_option maxRecDepth 100000 in
set_option maxHeartbeats 8000000 in
theorem rPut_any {w : World} {B B2 base : Nat} {A AL Ab : Option Addr} {m a c cL cb : Nat} {l : List Bool} {b : List UInt8} {rs : List Pg} (hA : RdB w B A l) (hB : B ≤ w.heap.size) (hb : RdY w B2 Ab b) (hB2 : B2 ≤ w.heap.size) (hbl : b.length = 4096) (hR : RefP w base (.slice AL rs.length cL) rs) (hbase : base ≤ w.heap.size) (hl : rs.length ≤ 1000) (ha : a ≤ 900000) {n : Nat} (hn : n ≤ 128) (hlow : ∀ j, j < n → ∃ r ∈ rs, (r.n : Int) = (j : Int)) (hno : ∀ r ∈ rs, (r.n : Int) ≠ (n : Int)) :
    Calls Tryd.prog 49 #[.agg #[.int .i64 m, .slice A l.length c, .int .i64 a, .slice AL rs.length cL], .slice Ab 4096 cb] w fun e w' =>
      (m ≤ n → e = .returned (.tuple #[.agg #[.int .i64 m, .slice A l.length c, .int .i64 a, .slice AL rs.length cL], .int .i64 0, .int .i64 11])) ∧
      (n < m → bad8 l a = true → e = .returned (.tuple #[.agg #[.int .i64 m, .slice A l.length c, .int .i64 ((a : Int) + (cnt8 l a : Nat)), .slice AL rs.length cL], .int .i64 0, .int .i64 12])) ∧
      (n < m → bad8 l a = false → ∃ A2 c2 A9 c9, e = .returned (.tuple #[.agg #[.int .i64 m, .slice A l.length c, .int .i64 ((a : Int) + (cnt8 l a : Nat)), .slice A2 (rs.length + 1) c2], .int .i64 n, .int .i64 0]) ∧ RefP w' base (.slice A2 (rs.length + 1) c2) (rs ++ [⟨n, A9, c9, b⟩])) ∧ Below w.heap.size w w' := by
  obtain ⟨i0, hi0, hz0, hz1, hz2⟩ := info_parts u8_info
  obtain ⟨iW, zW, hiW, hzW, hsW, hbW, hcW⟩ := p_parts
  have hbi : ((4096 : Int) != 4096) = false := by decide
  have hai : (a : Int) ≤ 900000 := by omega
  have hL := hR
  have HL := Lib.hid hR
  have HY := Lib.hid hb
  have HBL := Lib.hid hbl
  have HAs := Lib.hid hA
  have HLow := Lib.hid hlow
  have HNo := Lib.hid hno
  clear hA hR hb hbl hL hlow hno
  go_enter Tryd.func49, Tryd.ntmps49
  go_upto_region 3 with fail
  obtain ⟨w7, hw7⟩ : ∃ w7, w7 = (w.alloc (.cells #[.int .i64 m, .slice A l.length c, .int .i64 a, .slice AL rs.length cL] 70)).alloc (.cells #[.int .i64 0, .slice none 0 0, .int .i64 0, .slice none 0 0] 70) := ⟨_, rfl⟩
  have hbD : Bk w7 w.heap.size 70 #[.int .i64 m, .slice A l.length c, .int .i64 a, .slice AL rs.length cL] := by rw [hw7]; exact (Bk.new _ _ _).alloc _
  have hbZ : Bk w7 (w.heap.size + 1) 70 #[.int .i64 0, .slice none 0 0, .int .i64 0, .slice none 0 0] := by rw [hw7]; exact Bk.new_at _ _ _ (by simp)
  have hB7 : Below w.heap.size w w7 := by rw [hw7]; exact ((Below.refl _ _).alloc (Nat.le_refl _) _).alloc (by simp) _
  have hz7 : w.heap.size + 2 ≤ w7.heap.size := by rw [hw7]; simp
  rw [← hw7]
  have HD7 := Lib.hid hbD
  have HZ7 := Lib.hid hbZ
  have HB7 := Lib.hid hB7
  clear hw7 hbD hbZ hB7
  go_wp2
  go_loopw [7] (fun iv wr => ∃ k : Nat, k ≤ n ∧ iv = .int .i64 k ∧ Below w7.heap.size w7 wr) (fun iv _ => n - (intOf iv).toNat)
  case atStart => exact ⟨0, Nat.zero_le _, rfl, Below.refl _ _⟩
  case round =>
    obtain ⟨k, hk, rfl, hBr⟩ := hrel
    have hki : (k : Int) ≤ 128 := by omega
    have HBr := Lib.hid hBr
    have hzr := hBr.size
    have HD := Lib.hid (HD7.out.below' hBr)
    have k0 : wr.cell? ⟨w.heap.size, 0, none⟩ = some (.int .i64 m) := HD.out.cell 0
    have k1 : wr.cell? ⟨w.heap.size, 1, none⟩ = some (.slice A l.length c) := HD.out.cell 1
    have k2 : wr.cell? ⟨w.heap.size, 2, none⟩ = some (.int .i64 a) := HD.out.cell 2
    have k3 : wr.cell? ⟨w.heap.size, 3, none⟩ = some (.slice AL rs.length cL) := HD.out.cell 3
    have HLr := Lib.hid ((HL.out.below HB7.out).below hBr)
    clear hBr
    rcases Nat.lt_or_ge k n with hlt | hge
    · have HAt := Lib.hid (rAt_yes (.int .i64 m) (.slice A l.length c) (.int .i64 a) k HLr.out hl (HLow.out k hlt))
      go_wp2_with fail
      refine HAt.out.mono ?_
      rintro e w2 ⟨⟨j, r, rfl, -, -⟩, hB2⟩
      go_wp2
      go_roundw
      case rel => exact ⟨k + 1, by omega, by go_num, HBr.out.trans (hB2.mono hzr)⟩
      case measure => simp [intOf]; omega
    · obtain rfl : k = n := by omega
      have HAt := Lib.hid (rAt_no (.int .i64 m) (.slice A l.length c) (.int .i64 a) k HLr.out hl HNo.out)
      go_wp2_with fail
      refine HAt.out.mono ?_
      rintro e w2 ⟨rfl, hB2⟩
      have hB3 : Below w7.heap.size w7 w2 := HBr.out.trans (hB2.mono hzr)
      have hz2' := hB3.size
      have HB3 := Lib.hid (HB7.out.trans (hB3.mono (by omega)))
      have HL3 := Lib.hid (HLr.out.below hB2)
      have HD3 := Lib.hid (HD7.out.below' hB3)
      have HZ3 := Lib.hid (HZ7.out.below' hB3)
      clear k0 k1 k2 k3 hB2 hB3 HD HLr HAt HLow HNo
      have k0 : w2.cell? ⟨w.heap.size, 0, none⟩ = some (.int .i64 m) := HD3.out.cell 0
      have k1 : w2.cell? ⟨w.heap.size, 1, none⟩ = some (.slice A l.length c) := HD3.out.cell 1
      have k2 : w2.cell? ⟨w.heap.size, 2, none⟩ = some (.int .i64 a) := HD3.out.cell 2
      have k3 : w2.cell? ⟨w.heap.size, 3, none⟩ = some (.slice AL rs.length cL) := HD3.out.cell 3
      rcases Nat.lt_or_ge k m with hkm | hkm
      · have hkmi : (k : Int) < (m : Int) := by omega
        have HAk := Lib.hid (rAsks_any (c := c) (.int .i64 m) (.slice AL rs.length cL) (HAs.out.below (HB3.out.mono hB)) (by have := HB3.out.size; omega) (a := a) (by omega))
        have hcn := cnt8_le l a
        have hcni : (cnt8 l a : Int) ≤ 8 := by omega
        go_wp2_with fail
        refine HAk.out.mono ?_
        rintro e w4 ⟨rfl, hB4⟩
        have HB4 := Lib.hid (HB3.out.trans (hB4.mono HB3.out.size))
        have HL4 := Lib.hid (HL3.out.below hB4)
        have HD4 := Lib.hid (HD3.out.below' hB4)
        have HZ4 := Lib.hid (HZ3.out.below' hB4)
        have hz4 := hB4.size
        clear k0 k1 k2 k3 HD3 HZ3 HL3 HAk hB4
        have k2 : w4.cell? ⟨w.heap.size, 2, none⟩ = some (.int .i64 a) := HD4.out.cell 2
        have k2f := HD4.out.free 2
        go_upto_region 10 with fail
        obtain ⟨w5, hw5⟩ : ∃ w5, w5 = w4.setCell ⟨w.heap.size, 2, none⟩ (.int .i64 ((a : Int) + (cnt8 l a : Nat))) := ⟨_, rfl⟩
        have hD5 : Bk w5 w.heap.size 70 #[.int .i64 m, .slice A l.length c, .int .i64 ((a : Int) + (cnt8 l a : Nat)), .slice AL rs.length cL] := by
          rw [hw5]
          simpa using HD4.out.set 2 (.int .i64 ((a : Int) + (cnt8 l a : Nat)))
        have hF5 : Fr (· = w.heap.size) w4 w5 := by rw [hw5]; exact (Fr.refl _ _).set _ _ fun _ => rfl
        have hsz5 : w4.heap.size ≤ w5.heap.size := hF5.size
        rw [← hw5]
        have HZ5 := Lib.hid (HZ4.out.fr hF5 (by omega))
        have HB5 := Lib.hid (HB4.out.trans (hF5.below HB4.out.size fun q hq e => by omega))
        have HL5 := Lib.hid (HL.out.below HB5.out)
        have HD5 := Lib.hid hD5
        clear hD5 hF5 HZ4 HB4 HL4 HD4 k2 k2f hw5
        have k0 : w5.cell? ⟨w.heap.size, 0, none⟩ = some (.int .i64 m) := HD5.out.cell 0
        have k1 : w5.cell? ⟨w.heap.size, 1, none⟩ = some (.slice A l.length c) := HD5.out.cell 1
        have k2 : w5.cell? ⟨w.heap.size, 2, none⟩ = some (.int .i64 ((a : Int) + (cnt8 l a : Nat))) := HD5.out.cell 2
        have k3 : w5.cell? ⟨w.heap.size, 3, none⟩ = some (.slice AL rs.length cL) := HD5.out.cell 3
        cases hb8 : bad8 l a
        · have hz5 : w.heap.size + 2 ≤ w5.heap.size := by omega
          have p3 : (w5.alloc (.cells #[] 98)).cell? ⟨w.heap.size, 3, none⟩ = some (.slice AL rs.length cL) := (HD5.out.alloc _).cell 3
          have HO1 : Hid ((w5.alloc (.cells #[] 98)).ownsRow w5.heap.size 98 2 (.slice (some ⟨w5.heap.size, 0, none⟩) 0 0) 0 []) :=
            World.ownsRow_made (base := w5.heap.size) (e := 98) (size := 2) w5 #[] 0 (Nat.le_refl _) (by decide) rfl
          have HR1 : Hid (Rd (w5.alloc (.cells #[] 98)) w5.heap.size AL (pgCells rs)) := (HL5.out.rd).below' ((Below.refl _ _).alloc (Nat.le_refl _) _) (Nat.le_refl _)
          have h1 := Lib.hid (pgOne rs)
          have hwl : (pgCells rs).length = rs.length * 2 := pair_len _ _ _
          have HWL := Lib.hid hwl
          clear k0 k1 k2 k3 hwl HL5
          go_wp2_with ((with_reducible refine wpList_dst 40 ?_); refine wpList_append_rn rfl (.tmp 37) (.tmp 39) 68 rfl w5.heap.size 98 iW zW 2 32 Tryd.underlying68 hiW hzW hsW hbW hcW (by omega) (.slice (some ⟨w5.heap.size, 0, none⟩) 0 0) 0 [] rfl HO1.out w5.heap.size AL rs.length cL (pgCells rs) rfl HWL.out HR1.out h1.out (by simp [maxLen]; omega) (by omega) (by simp) ?_; intro v8 w8 hown8 hg8 hat8)
          have hB8 : Below w5.heap.size w5 w8 := ((Below.refl _ _).alloc (Nat.le_refl _) (.cells #[] 98)).grown hg8 (by simp) (fun q hq => by simp [Value.ownBlock] at hq; omega)
          have HO8 : Hid (w8.ownsRow w5.heap.size 98 2 v8 rs.length (pgCells rs)) := by
            show w8.ownsRow _ _ _ _ _ _
            simpa using hown8
          have hz8 := hB8.size
          have HB8 := Lib.hid hB8
          have HOb : Hid ((w8.alloc (.cells #[] 5)).ownsRow w8.heap.size 5 1 (.slice (some ⟨w8.heap.size, 0, none⟩) 0 0) 0 []) :=
            World.ownsRow_made (base := w8.heap.size) (e := 5) (size := 1) w8 #[] 0 (Nat.le_refl _) (by decide) rfl
          have HRb : Hid (Rd (w8.alloc (.cells #[] 5)) w.heap.size Ab (b.map bv)) := (((HY.out.more hB2).below HB5.out).below (hB8.mono (by omega))).below' ((Below.refl w8.heap.size w8).alloc (Nat.le_refl _) _) (by omega)
          have h1b := Lib.hid (oneY b)
          have HBm : Hid (4096 = (b.map bv).length) := by show _ = _; rw [List.length_map]; exact HBL.out.symm
          have hbm : (b.map bv).length ≤ 4096 := by rw [List.length_map, HBL.out]; exact Nat.le_refl _
          have hbl2 : b.length ≤ 4096 := by rw [HBL.out]; exact Nat.le_refl _
          clear hown8 hg8 hat8 HO1 HR1 p3 hB8
          refine wp_append_rd (.tmp 42) (.tmp 43) 22 rfl w8.heap.size 5 i0 (.int .u8 0) 1 Tryd.underlying22 hi0 hz0 hz1 hz2 rfl (.slice (some ⟨w8.heap.size, 0, none⟩) 0 0) 0 [] rfl HOb.out w.heap.size Ab 4096 cb (b.map bv) rfl HBm.out HRb.out h1b.out (by simp [maxLen]; omega) (by omega) (by simp) ?_
          intro v9 w9 hown9 hg9 hat9
          have hB9 : Below w8.heap.size w8 w9 := ((Below.refl _ _).alloc (Nat.le_refl _) (.cells #[] 5)).grown hg9 (by simp) (fun q hq => by simp [Value.ownBlock] at hq; omega)
          have hO9 : OwnY w9 w8.heap.size v9 b := by
            unfold OwnY
            simpa using hown9
          obtain ⟨A9, c9, rfl⟩ := hO9.form
          rw [HBL.out] at hO9
          have hz9 := hB9.size
          have HB9 := Lib.hid hB9
          have HO9 := Lib.hid hO9
          have HO8' := Lib.hid (own_fr (R := fun k => w8.heap.size ≤ k) HO8.out (Fr.of_below hB9 fun _ _ h => h) (fun k _ h2 h3 => by omega))
          have hA8 : Hid (∀ q, v8.ownBlock = some q → q < w8.heap.size) := fun q hq => (World.ownsRow.lt HO8.out q hq).2
          obtain ⟨A8, c8, rfl⟩ := owns_form HO8.out
          have HO8a : Hid ((w9.alloc (.cells #[.int .i64 k, .slice A9 4096 c9] 98)).ownsRow w5.heap.size 98 2 (.slice A8 rs.length c8) rs.length (pgCells rs)) := HO8'.out.alloc _
          have HRw : Hid (Rd (w9.alloc (.cells #[.int .i64 k, .slice A9 4096 c9] 98)) (w9.heap.size + 1) (some ⟨w9.heap.size, 0, none⟩) [.int .i64 k, .slice A9 4096 c9]) := by
            intro k u hu
            refine ⟨_, rfl, by simp, ?_⟩
            rw [off_z, World.cell?_alloc_mark]
            simpa using hu
          clear hown9 hg9 hat9 HOb HRb hB9 hO9 HO8 HO8'
          rw [HBL.out]
          go_wp2_with ((with_reducible refine wpList_dst 47 ?_); refine wpList_append_rn rfl (.tmp 40) (.tmp 46) 68 rfl w5.heap.size 98 iW zW 2 32 Tryd.underlying68 hiW hzW hsW hbW hcW (by omega) (.slice A8 rs.length c8) rs.length (pgCells rs) rfl HO8a.out (w9.heap.size + 1) (some ⟨w9.heap.size, 0, none⟩) 1 1 [.int .i64 k, .slice A9 4096 c9] rfl rfl HRw.out (fun u hu => by simp at hu; rcases hu with rfl | rfl <;> rfl) (by simp [maxLen]; omega) (by omega) (by simp; omega) ?_; intro v10 w10 hown10 hg10 hat10; obtain ⟨A10, c10, rfl⟩ := owns_form hown10; have hB10 : Below w5.heap.size w5 w10 := ((HB8.out.trans (HB9.out.mono hz8)).alloc (Nat.le_trans hz8 hz9) _).grown hg10 (by simp; omega) (fun q hq => (World.ownsRow.lt HO8a.out q hq).1); have HDx := Lib.hid (HD5.out.below' hB10); have HZx := Lib.hid (HZ5.out.below' hB10); have d0 : w10.cell? ⟨w.heap.size, 0, none⟩ = some (.int .i64 m) := HDx.out.cell 0; have d1 : w10.cell? ⟨w.heap.size, 1, none⟩ = some (.slice A l.length c) := HDx.out.cell 1; have d2 : w10.cell? ⟨w.heap.size, 2, none⟩ = some (.int .i64 ((a : Int) + (cnt8 l a : Nat))) := HDx.out.cell 2; have d3 : w10.cell? ⟨w.heap.size, 3, none⟩ = some (.slice AL rs.length cL) := HDx.out.cell 3; have e3 := HDx.out.free 3; have z0 : w10.cell? ⟨w.heap.size + 1, 0, none⟩ = some (.int .i64 0) := HZx.out.cell 0; have z1 : w10.cell? ⟨w.heap.size + 1, 1, none⟩ = some (.slice none 0 0) := HZx.out.cell 1; have z2 : w10.cell? ⟨w.heap.size + 1, 2, none⟩ = some (.int .i64 0) := HZx.out.cell 2; have z3 : w10.cell? ⟨w.heap.size + 1, 3, none⟩ = some (.slice none 0 0) := HZx.out.cell 3; have f0 := HZx.out.free 0; have f1 := HZx.out.free 1; have f2 := HZx.out.free 2; have f3 := HZx.out.free 3)
          have HI : Hid ((Tryd.prog.info? 70).map (·.size) = some (#[Value.int .i64 m, .slice A l.length c, .int .i64 ((a : Int) + (cnt8 l a : Nat)), .slice A10 (rs.length + 1) c10] : Array Value).size) := s9_info
          have hF : Fr (fun k => k = w.heap.size ∨ k = w.heap.size + 1) w10 (((((w10.setCell ⟨w.heap.size, 3, none⟩ (.slice A10 (rs.length + 1) c10)).setCell ⟨w.heap.size + 1, 0, none⟩ (.int .i64 m)).setCell ⟨w.heap.size + 1, 1, none⟩ (.slice A l.length c)).setCell ⟨w.heap.size + 1, 2, none⟩ (.int .i64 ((a : Int) + (cnt8 l a : Nat)))).setCell ⟨w.heap.size + 1, 3, none⟩ (.slice A10 (rs.length + 1) c10)) :=
            Fr.trans ((Fr.refl (fun k => k = w.heap.size ∨ k = w.heap.size + 1) w10).set ⟨w.heap.size, 3, none⟩ _ fun _ => .inl rfl) (fr_set4 _ (w.heap.size + 1) _ _ _ _) fun _ _ h => .inr h
          have hZ := (HZx.out.far (p := ⟨w.heap.size, 3, none⟩) (by show w.heap.size + 1 ≠ w.heap.size; omega) (.slice A10 (rs.length + 1) c10)).set4 (.int .i64 m) (.slice A l.length c) (.int .i64 ((a : Int) + (cnt8 l a : Nat))) (.slice A10 (rs.length + 1) c10)
          have hB10w : Below w.heap.size w w10 := HB5.out.trans (hB10.mono (by omega))
          have hBW := hB10w.trans (hF.below hB10w.size fun k hk e => by omega)
          refine bodyPost_ret (results_ctt rfl _ _ (w.heap.size + 1) 70 _ _ (.int .i64 k) (.int .i64 0) rfl rfl rfl hZ Tryd.underlying70 rfl HI.out) rfl ⟨fun h => by omega, fun _ h => (by rw [hb8] at h; cases h), fun _ _ => ⟨A10, c10, A9, c9, rfl, ⟨?_, fun r hr => ?_⟩⟩, hBW⟩
          · have e1 : pgCells (rs ++ [⟨k, A9, c9, b⟩]) = pgCells rs ++ [.int .i64 k, .slice A9 4096 c9] := by
              unfold pgCells
              rw [List.flatMap_append]
              simp [HBL.out]
            rw [e1, List.length_append]
            exact owns_weaken (own_fr hown10 hF fun k h1 _ h3 => by omega) (by omega)
          · rcases List.mem_append.1 hr with hr | hr
            · exact (HL.out.below hBW).ys r hr
            · simp at hr
              subst hr
              refine ⟨?_, HBL.out⟩
              show OwnY _ base (.slice A9 b.length c9) b
              rw [HBL.out]
              have h9 : OwnY w10 w8.heap.size (.slice A9 4096 c9) b := HO9.out.same fun q hq => by
                have h1 := HO9.out.lt hq
                rw [hg10.block q (by simp; omega) (fun e => by have := hA8.out q e.symm; omega)]
                exact Below.heap_alloc w9 _ q h1.2
              exact OwnY.weaken (own_fr h9 hF fun k h1 _ h3 => by omega) (by omega)
        · have z0 : w5.cell? ⟨w.heap.size + 1, 0, none⟩ = some (.int .i64 0) := HZ5.out.cell 0
          have z1 : w5.cell? ⟨w.heap.size + 1, 1, none⟩ = some (.slice none 0 0) := HZ5.out.cell 1
          have z2 : w5.cell? ⟨w.heap.size + 1, 2, none⟩ = some (.int .i64 0) := HZ5.out.cell 2
          have z3 : w5.cell? ⟨w.heap.size + 1, 3, none⟩ = some (.slice none 0 0) := HZ5.out.cell 3
          have f0 := HZ5.out.free 0
          have f1 := HZ5.out.free 1
          have f2 := HZ5.out.free 2
          have f3 := HZ5.out.free 3
          go_wp2
          have HS := s9_back HZ5.out (.int .i64 m) (.slice A l.length c) (.int .i64 ((a : Int) + (cnt8 l a : Nat))) (.slice AL rs.length cL)
          refine bodyPost_ret (results_ctt rfl _ _ (w.heap.size + 1) 70 _ _ (.int .i64 0) (.int .i64 12) rfl rfl rfl HS.1 Tryd.underlying70 rfl HS.2) rfl ⟨fun h => by omega, fun _ _ => rfl, fun _ h => (by rw [hb8] at h; cases h), ?_⟩
          exact HB5.out.trans ((fr_set4 w5 (w.heap.size + 1) _ _ _ _).below HB5.out.size fun q hq e => by omega)
      · have hkmi : ¬ (k : Int) < (m : Int) := by omega
        have z0 : w2.cell? ⟨w.heap.size + 1, 0, none⟩ = some (.int .i64 0) := HZ3.out.cell 0
        have z1 : w2.cell? ⟨w.heap.size + 1, 1, none⟩ = some (.slice none 0 0) := HZ3.out.cell 1
        have z2 : w2.cell? ⟨w.heap.size + 1, 2, none⟩ = some (.int .i64 0) := HZ3.out.cell 2
        have z3 : w2.cell? ⟨w.heap.size + 1, 3, none⟩ = some (.slice none 0 0) := HZ3.out.cell 3
        have f0 := HZ3.out.free 0
        have f1 := HZ3.out.free 1
        have f2 := HZ3.out.free 2
        have f3 := HZ3.out.free 3
        go_wp2
        have HS := s9_back HZ3.out (.int .i64 m) (.slice A l.length c) (.int .i64 a) (.slice AL rs.length cL)
        refine bodyPost_ret (results_ctt rfl _ _ (w.heap.size + 1) 70 _ _ (.int .i64 0) (.int .i64 11) rfl rfl rfl HS.1 Tryd.underlying70 rfl HS.2) rfl ⟨fun _ => rfl, fun h => by omega, fun h => by omega, ?_⟩
        exact HB3.out.trans ((fr_set4 w2 (w.heap.size + 1) _ _ _ _).below HB3.out.size fun q hq e => by omega)
end Go.Proofs.YtcbfaahnhdmagaaDoor
