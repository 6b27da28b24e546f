/- The reference's disk: Write. -/
import Derived.Test.YtcbfaahnhdmagaaDskJ
namespace Go.Proofs.Ytcbfaahnhdmagaa
open Go.RowKit

set_option maxRecDepth 100000 in
set_option maxHeartbeats 1000000 in
theorem rWrite_out (w : World) (A AL Ab : Option Addr) (m a nA c nL cL nb cb : Nat) (n : Int) (hn : n < 0 ∨ (0 ≤ n ∧ (m : Int) ≤ n)) :
    Calls Try.prog 27 #[.agg #[.int .i64 m, .slice A nA c, .int .i64 a, .slice AL nL cL], .int .i64 n, .slice Ab nb cb] w fun e w' => e = .returned (.tuple #[.agg #[.int .i64 m, .slice A nA c, .int .i64 a, .slice AL nL cL], .int .i64 2]) ∧ Below w.heap.size w w' := by
  rcases hn with hn | ⟨hn, hn2⟩
  all_goals
    go_enter Try.func27, Try.ntmps27
    go_wp2
    go_returns
    exact ⟨rfl, ((Below.refl _ _).alloc (Nat.le_refl _) _).alloc (by simp) _⟩
set_option maxRecDepth 100000 in
set_option maxHeartbeats 1000000 in
theorem rWrite_len (w : World) (A AL Ab : Option Addr) (m a nA c nL cL nb cb : Nat) (n : Nat) (hn : n < m) (hb : nb ≠ 512) :
    Calls Try.prog 27 #[.agg #[.int .i64 m, .slice A nA c, .int .i64 a, .slice AL nL cL], .int .i64 n, .slice Ab nb cb] w fun e w' => e = .returned (.tuple #[.agg #[.int .i64 m, .slice A nA c, .int .i64 a, .slice AL nL cL], .int .i64 1]) ∧ Below w.heap.size w w' := by
  have h1 : ((nb : Int) != 512) = true := bne_iff_ne.2 (by omega)
  go_enter Try.func27, Try.ntmps27
  go_wp2
  go_returns
  exact ⟨rfl, ((Below.refl _ _).alloc (Nat.le_refl _) _).alloc (by simp) _⟩
set_option maxRecDepth 100000 in
set_option maxHeartbeats 1000000 in
theorem rWrite_fail {w : World} {B : Nat} {A AL Ab : Option Addr} {m a c nL cL cb : Nat} {l : List Bool} (hA : RdB w B A l) (hB : B ≤ w.heap.size) (ha : a ≤ 1000000) {n : Nat} (hn : n < m) (hx : l[a]?.getD false = true) :
    Calls Try.prog 27 #[.agg #[.int .i64 m, .slice A l.length c, .int .i64 a, .slice AL nL cL], .int .i64 n, .slice Ab 512 cb] w fun e w' => e = .returned (.tuple #[.agg #[.int .i64 m, .slice A l.length c, .int .i64 ((a : Int) + 1), .slice AL nL cL], .int .i64 12]) ∧ Below w.heap.size w w' := by
  have HF : Hid (∀ W, Below w.heap.size w W → Calls Try.prog 16 #[.slice A l.length c, .int .i64 a] W fun e w' => e = .returned (.bool true) ∧ W = w') := fun W hW => by
    have := refFails_any (c := c) (hA.below (hW.mono hB)) a
    rwa [hx] at this
  have HW : Hid (Below w.heap.size w ((w.alloc (.cells #[.int .i64 m, .slice A l.length c, .int .i64 a, .slice AL nL cL] 52)).alloc (.cells #[.int .i64 0, .slice none 0 0, .int .i64 0, .slice none 0 0] 52))) := ((Below.refl _ _).alloc (Nat.le_refl _) _).alloc (by simp) _
  have hai : (a : Int) ≤ 1000000 := by omega
  clear hA hx
  go_enter Try.func27, Try.ntmps27
  go_wp2_with (go_at_call 16; refine (HF.out _ HW.out).mono ?_; rintro e w2 ⟨rfl, rfl⟩)
  go_returns
  exact ⟨rfl, ((Below.refl _ _).alloc (Nat.le_refl _) _).alloc (by simp) _⟩

theorem wrOne (rs : List Wr) : ∀ u ∈ wrCells rs, u.oneCell' = true := by
  intro u hu
  unfold wrCells at hu
  obtain ⟨r, _, hr⟩ := List.mem_flatMap.1 hu
  simp at hr
  rcases hr with rfl | rfl <;> rfl
theorem w_parts : ∃ i z, Try.prog.info? 64 = some i ∧ i.zero = some z ∧ i.size = 2 ∧ i.bytes = 32 ∧ z.cells.size = 2 := by
  obtain ⟨i, hi, h⟩ := Option.map_eq_some_iff.1 w_info
  simp only [Prod.mk.injEq] at h
  obtain ⟨z, hz, hzs⟩ := Option.map_eq_some_iff.1 h.2.2
  exact ⟨i, z, hi, hz, h.1, h.2.1, hzs⟩
set_option maxRecDepth 100000 in
set_option maxHeartbeats 4000000 in
theorem rWrite_ok {w : World} {B B2 base : Nat} {A AL Ab : Option Addr} {m a c cL cb : Nat} {l : List Bool} {b : List UInt8} {rs : List Wr} (hA : RdB w B A l) (hB : B ≤ w.heap.size) (hb : RdY w B2 Ab b) (hB2 : B2 ≤ w.heap.size) (hbl : b.length = 512) (hR : RefL w base (.slice AL rs.length cL) rs) (hbase : base ≤ w.heap.size) (hl : rs.length ≤ 1000) (ha : a ≤ 1000000) {n : Nat} (hn : n < m) (hx : l[a]?.getD false = false) :
    Calls Try.prog 27 #[.agg #[.int .i64 m, .slice A l.length c, .int .i64 a, .slice AL rs.length cL], .int .i64 n, .slice Ab 512 cb] w fun e w' => ∃ A2 c2 rs', e = .returned (.tuple #[.agg #[.int .i64 m, .slice A l.length c, .int .i64 ((a : Int) + 1), .slice A2 rs'.length c2], .int .i64 0]) ∧ RefL w' base (.slice A2 rs'.length c2) rs' ∧ rs'.length = rs.length + 1 ∧ (∀ k, pkW rs' k = if k = n then b else pkW rs k) ∧ Below w.heap.size w w' := by
  obtain ⟨i0, hi0, hz0, hz1, hz2⟩ := info_parts u8_info
  obtain ⟨iW, zW, hiW, hzW, hsW, hbW, hcW⟩ := w_parts
  have HF : Hid (∀ W, Below w.heap.size w W → Calls Try.prog 16 #[.slice A l.length c, .int .i64 a] W fun e w' => e = .returned (.bool false) ∧ W = w') := fun W hW => by
    have := refFails_any (c := c) (hA.below (hW.mono hB)) a
    rwa [hx] at this
  have HW : Hid (Below w.heap.size w ((w.alloc (.cells #[.int .i64 m, .slice A l.length c, .int .i64 a, .slice AL rs.length cL] 52)).alloc (.cells #[.int .i64 0, .slice none 0 0, .int .i64 0, .slice none 0 0] 52))) := ((Below.refl _ _).alloc (Nat.le_refl _) _).alloc (by simp) _
  have hai : (a : Int) ≤ 1000000 := by omega
  have HL := Lib.hid hR
  have HY := Lib.hid hb
  have HBL := Lib.hid hbl
  clear hA hx hR hb hbl
  go_enter Try.func27, Try.ntmps27
  go_upto_region 9 with (go_at_call 16; refine (HF.out _ HW.out).mono ?_; rintro e w2 ⟨rfl, rfl⟩)
  obtain ⟨w7, hw7⟩ : ∃ w7, w7 = (w.alloc (.cells #[.int .i64 m, .slice A l.length c, .int .i64 ((a : Int) + 1), .slice AL rs.length cL] 52)).alloc (.cells #[.int .i64 0, .slice none 0 0, .int .i64 0, .slice none 0 0] 52) := ⟨_, rfl⟩
  have hbD : Bk w7 w.heap.size 52 #[.int .i64 m, .slice A l.length c, .int .i64 ((a : Int) + 1), .slice AL rs.length cL] := by rw [hw7]; exact (Bk.new _ _ _).alloc _
  have hbZ : Bk w7 (w.heap.size + 1) 52 #[.int .i64 0, .slice none 0 0, .int .i64 0, .slice none 0 0] := by rw [hw7]; exact Bk.new_at _ _ _ (by simp)
  have hB7 : Below w.heap.size w w7 := by rw [hw7]; exact ((Below.refl _ _).alloc (Nat.le_refl _) _).alloc (by simp) _
  have hz7 : w.heap.size + 2 ≤ w7.heap.size := by rw [hw7]; simp
  rw [← hw7]
  have HD7 := Lib.hid hbD
  have HZ7 := Lib.hid hbZ
  have HB7 := Lib.hid hB7
  have k3 : (w7.alloc (.cells #[] 64)).cell? ⟨w.heap.size, 3, none⟩ = some (.slice AL rs.length cL) := (hbD.alloc _).cell 3
  have HO1 : Hid ((w7.alloc (.cells #[] 64)).ownsRow w7.heap.size 64 2 (.slice (some ⟨w7.heap.size, 0, none⟩) 0 0) 0 []) :=
    World.ownsRow_made (base := w7.heap.size) (e := 64) (size := 2) w7 #[] 0 (Nat.le_refl _) (by decide) rfl
  have HR1 : Hid (Rd (w7.alloc (.cells #[] 64)) w7.heap.size AL (wrCells rs)) := ((HL.out.below hB7).rd).below' ((Below.refl _ _).alloc (Nat.le_refl _) _) (Nat.le_refl _)
  have h1 := Lib.hid (wrOne rs)
  have hwl : (wrCells rs).length = rs.length * 2 := pair_len _ _ _
  have HWL := Lib.hid hwl
  clear hw7 HW HF hbD hbZ hB7 hwl
  go_wp2_with ((with_reducible refine wpList_dst 36 ?_); refine wpList_append_rn rfl (.tmp 33) (.tmp 35) 50 rfl w7.heap.size 64 iW zW 2 32 Try.underlying50 hiW hzW hsW hbW hcW (by omega) (.slice (some ⟨w7.heap.size, 0, none⟩) 0 0) 0 [] rfl HO1.out w7.heap.size AL rs.length cL (wrCells rs) rfl HWL.out HR1.out h1.out (by simp [maxLen]; omega) (by omega) (by simp) ?_; intro v8 w8 hown8 hg8 hat8)
  have hB8 : Below w7.heap.size w7 w8 := ((Below.refl _ _).alloc (Nat.le_refl _) (.cells #[] 64)).grown hg8 (by simp) (fun q hq => by simp [Value.ownBlock] at hq; omega)
  have HO8 : Hid (w8.ownsRow w7.heap.size 64 2 v8 rs.length (wrCells rs)) := by
    show w8.ownsRow _ _ _ _ _ _
    simpa using hown8
  have hz8 := hB8.size
  have HB8 := Lib.hid hB8
  have HOb : Hid ((w8.alloc (.cells #[] 5)).ownsRow w8.heap.size 5 1 (.slice (some ⟨w8.heap.size, 0, none⟩) 0 0) 0 []) :=
    World.ownsRow_made (base := w8.heap.size) (e := 5) (size := 1) w8 #[] 0 (Nat.le_refl _) (by decide) rfl
  have HRb : Hid (Rd (w8.alloc (.cells #[] 5)) w.heap.size Ab (b.map bv)) := (((HY.out.more hB2).below HB7.out).below (hB8.mono (by omega))).below' ((Below.refl w8.heap.size w8).alloc (Nat.le_refl _) _) (by omega)
  have h1b := Lib.hid (oneY b)
  have HBm : Hid (512 = (b.map bv).length) := by show _ = _; rw [List.length_map]; exact HBL.out.symm
  have hbm : (b.map bv).length ≤ 512 := by rw [List.length_map, HBL.out]; exact Nat.le_refl _
  have hbl2 : b.length ≤ 512 := by rw [HBL.out]; exact Nat.le_refl _
  clear hown8 hg8 hat8 HO1 HR1 k3 hB8
  refine wp_append_rd (.tmp 38) (.tmp 39) 32 rfl w8.heap.size 5 i0 (.int .u8 0) 1 Try.underlying32 hi0 hz0 hz1 hz2 rfl (.slice (some ⟨w8.heap.size, 0, none⟩) 0 0) 0 [] rfl HOb.out w.heap.size Ab 512 cb (b.map bv) rfl HBm.out HRb.out h1b.out (by simp [maxLen]; omega) (by omega) (by simp) ?_
  intro v9 w9 hown9 hg9 hat9
  have hB9 : Below w8.heap.size w8 w9 := ((Below.refl _ _).alloc (Nat.le_refl _) (.cells #[] 5)).grown hg9 (by simp) (fun q hq => by simp [Value.ownBlock] at hq; omega)
  have hO9 : OwnY w9 w8.heap.size v9 b := by
    unfold OwnY
    simpa using hown9
  obtain ⟨A9, c9, rfl⟩ := hO9.form
  rw [HBL.out] at hO9
  have hz9 := hB9.size
  have HB9 := Lib.hid hB9
  have HO9 := Lib.hid hO9
  have HO8' := Lib.hid (own_fr (R := fun k => w8.heap.size ≤ k) HO8.out (Fr.of_below hB9 fun _ _ h => h) (fun k _ h2 h3 => by omega))
  have hA8 : Hid (∀ q, v8.ownBlock = some q → q < w8.heap.size) := fun q hq => (World.ownsRow.lt HO8.out q hq).2
  obtain ⟨A8, c8, rfl⟩ := owns_form HO8.out
  have HO8a : Hid ((w9.alloc (.cells #[.int .i64 n, .slice A9 512 c9] 64)).ownsRow w7.heap.size 64 2 (.slice A8 rs.length c8) rs.length (wrCells rs)) := HO8'.out.alloc _
  have HRw : Hid (Rd (w9.alloc (.cells #[.int .i64 n, .slice A9 512 c9] 64)) (w9.heap.size + 1) (some ⟨w9.heap.size, 0, none⟩) [.int .i64 n, .slice A9 512 c9]) := by
    intro k u hu
    refine ⟨_, rfl, by simp, ?_⟩
    rw [off_z, World.cell?_alloc_mark]
    simpa using hu
  clear hown9 hg9 hat9 HOb HRb hB9 hO9 HO8 HO8'
  rw [HBL.out]
  go_wp2_with ((with_reducible refine wpList_dst 43 ?_); refine wpList_append_rn rfl (.tmp 36) (.tmp 42) 50 rfl w7.heap.size 64 iW zW 2 32 Try.underlying50 hiW hzW hsW hbW hcW (by omega) (.slice A8 rs.length c8) rs.length (wrCells rs) rfl HO8a.out (w9.heap.size + 1) (some ⟨w9.heap.size, 0, none⟩) 1 1 [.int .i64 n, .slice A9 512 c9] rfl rfl HRw.out (fun u hu => by simp at hu; rcases hu with rfl | rfl <;> rfl) (by simp [maxLen]; omega) (by omega) (by simp; omega) ?_; intro v10 w10 hown10 hg10 hat10; obtain ⟨A10, c10, rfl⟩ := owns_form hown10; have hB10 : Below w7.heap.size w7 w10 := ((HB8.out.trans (HB9.out.mono hz8)).alloc (Nat.le_trans hz8 hz9) _).grown hg10 (by simp; omega) (fun q hq => (World.ownsRow.lt HO8a.out q hq).1); have HDx := Lib.hid (HD7.out.below' hB10); have HZx := Lib.hid (HZ7.out.below' hB10); have d0 : w10.cell? ⟨w.heap.size, 0, none⟩ = some (.int .i64 m) := HDx.out.cell 0; have d1 : w10.cell? ⟨w.heap.size, 1, none⟩ = some (.slice A l.length c) := HDx.out.cell 1; have d2 : w10.cell? ⟨w.heap.size, 2, none⟩ = some (.int .i64 ((a : Int) + 1)) := HDx.out.cell 2; have d3 : w10.cell? ⟨w.heap.size, 3, none⟩ = some (.slice AL rs.length cL) := HDx.out.cell 3; have e3 := HDx.out.free 3; have z0 : w10.cell? ⟨w.heap.size + 1, 0, none⟩ = some (.int .i64 0) := HZx.out.cell 0; have z1 : w10.cell? ⟨w.heap.size + 1, 1, none⟩ = some (.slice none 0 0) := HZx.out.cell 1; have z2 : w10.cell? ⟨w.heap.size + 1, 2, none⟩ = some (.int .i64 0) := HZx.out.cell 2; have z3 : w10.cell? ⟨w.heap.size + 1, 3, none⟩ = some (.slice none 0 0) := HZx.out.cell 3; have f0 := HZx.out.free 0; have f1 := HZx.out.free 1; have f2 := HZx.out.free 2; have f3 := HZx.out.free 3)
  have HI : Hid ((Try.prog.info? 52).map (·.size) = some (#[Value.int .i64 m, .slice A l.length c, .int .i64 ((a : Int) + 1), .slice A10 (rs.length + 1) c10] : Array Value).size) := d_info
  have hF : Fr (fun k => k = w.heap.size ∨ k = w.heap.size + 1) w10 (((((w10.setCell ⟨w.heap.size, 3, none⟩ (.slice A10 (rs.length + 1) c10)).setCell ⟨w.heap.size + 1, 0, none⟩ (.int .i64 m)).setCell ⟨w.heap.size + 1, 1, none⟩ (.slice A l.length c)).setCell ⟨w.heap.size + 1, 2, none⟩ (.int .i64 ((a : Int) + 1))).setCell ⟨w.heap.size + 1, 3, none⟩ (.slice A10 (rs.length + 1) c10)) :=
    Fr.trans ((Fr.refl (fun k => k = w.heap.size ∨ k = w.heap.size + 1) w10).set ⟨w.heap.size, 3, none⟩ _ fun _ => .inl rfl) (fr_set4 _ (w.heap.size + 1) _ _ _ _) fun _ _ h => .inr h
  have hZ := (HZx.out.far (p := ⟨w.heap.size, 3, none⟩) (by show w.heap.size + 1 ≠ w.heap.size; omega) (.slice A10 (rs.length + 1) c10)).set4 (.int .i64 m) (.slice A l.length c) (.int .i64 ((a : Int) + 1)) (.slice A10 (rs.length + 1) c10)
  have hB10w : Below w.heap.size w w10 := HB7.out.trans (hB10.mono (by omega))
  have hBW := hB10w.trans (hF.below hB10w.size fun k hk e => by omega)
  refine bodyPost_ret (results_ct rfl _ _ (w.heap.size + 1) 52 _ _ (.int .i64 0) rfl rfl hZ Try.underlying52 rfl HI.out) rfl ⟨A10, c10, rs ++ [⟨n, A9, c9, b⟩], by rw [List.length_append]; rfl, ⟨?_, fun r hr => ?_⟩, by simp, fun k => ?_, hBW⟩
  · have e1 : wrCells (rs ++ [⟨n, A9, c9, b⟩]) = wrCells rs ++ [.int .i64 n, .slice A9 512 c9] := by
      unfold wrCells
      rw [List.flatMap_append]
      simp [HBL.out]
    rw [e1, List.length_append]
    exact owns_weaken (own_fr hown10 hF fun k h1 _ h3 => by omega) (by omega)
  · rcases List.mem_append.1 hr with hr | hr
    · exact (HL.out.below hBW).ys r hr
    · simp at hr
      subst hr
      refine ⟨?_, HBL.out⟩
      show OwnY _ base (.slice A9 b.length c9) b
      rw [HBL.out]
      have h9 : OwnY w10 w8.heap.size (.slice A9 512 c9) b := HO9.out.same fun q hq => by
        have h1 := HO9.out.lt hq
        rw [hg10.block q (by simp; omega) (fun e => by have := hA8.out q e.symm; omega)]
        exact Below.heap_alloc w9 _ q h1.2
      exact OwnY.weaken (own_fr h9 hF fun k h1 _ h3 => by omega) (by omega)
  · rw [pkW_snoc]
    by_cases hk : n = k
    · rw [if_pos hk, if_pos hk.symm]
    · rw [if_neg hk, if_neg (Ne.symm hk)]
end Go.Proofs.Ytcbfaahnhdmagaa
