/- Slots: the reference's Drop. -/
import Derived.Test.YtcbfaahnhdmagaaDoorSlV
namespace Go.Proofs.YtcbfaahnhdmagaaDoor
open Go.RowKit

theorem pgCells_len (rs : List Pg) : (pgCells rs).length = rs.length * 2 := pair_len _ _ _
theorem pgCells_take (rs : List Pg) (k : Nat) : (pgCells rs).take (k * 2) = pgCells (rs.take k) := by
  induction rs generalizing k with
  | nil => simp [pgCells]
  | cons r rs ih =>
    rcases k with _ | k
    · simp [pgCells]
    · rw [show (k + 1) * 2 = k * 2 + 1 + 1 by omega]
      simpa [pgCells] using ih k
theorem pgCells_drop (rs : List Pg) (k : Nat) : (pgCells rs).drop (k * 2) = pgCells (rs.drop k) := by
  induction rs generalizing k with
  | nil => simp [pgCells]
  | cons r rs ih =>
    rcases k with _ | k
    · simp [pgCells]
    · rw [show (k + 1) * 2 = k * 2 + 1 + 1 by omega]
      simpa [pgCells] using ih k
theorem pgCells_app (a b : List Pg) : pgCells (a ++ b) = pgCells a ++ pgCells b := by simp [pgCells]
theorem RefP.cap {w : World} {base n c : Nat} {A : Option Addr} {rs : List Pg} (h : RefP w base (.slice A n c) rs) : rs.length ≤ c := by
  rcases h.row.2 with ⟨hv, h0⟩ | ⟨g, cap, cur, hv, _, _, hnc, _⟩
  · omega
  · injection hv with h1 h2 h3
    omega
theorem run_frontP {w : World} {A : Option Addr} {n c k : Nat} (h : k ≤ c) : (Instr.slice 68 (.slice A n c) none (some (.int .i64 (k : Int))) none).run Tryd.prog w = .ok (.slice A k c) w := by
  have hi8 : Tryd.prog.elem 68 = 98 := by kernel_rfl
  rw [run_slice_h w 68 A n c (by rw [hi8]; exact Tryd.underlying68) .i64 (k : Int) (by omega) (by omega), hi8]
  have hs : (sizeOf 98).run Tryd.prog w = .ok 2 w := by kernel_rfl
  rw [hs]
  have e : A.map (·.add 0) = A := by
    cases A with
    | none => rfl
    | some a => simp [Addr.add]
  simp only [Result.andThen_ok, sliced, Int.toNat_natCast, Nat.zero_mul, e, Nat.sub_zero, ite_self]
theorem run_backP {A : Option Addr} {n c k : Nat} (h : k + 1 ≤ n) (hc : n ≤ c) : ∃ (A' : Option Addr) (c' : Nat), (∀ w, (Instr.slice 68 (.slice A n c) (some (.int .i64 ((k : Int) + 1))) none none).run Tryd.prog w = .ok (.slice A' (n - (k + 1)) c') w) ∧ ∀ w B xs, xs.length = n * 2 → Rd w B A xs → Rd w B A' (xs.drop ((k + 1) * 2)) := by
  refine ⟨if c = k + 1 then A else A.map (·.add ((k + 1) * 2)), c - (k + 1), fun w => ?_, fun w B xs hxs hr => ?_⟩
  · have hi8 : Tryd.prog.elem 68 = 98 := by kernel_rfl
    rw [run_slice_l w 68 A n c (by rw [hi8]; exact Tryd.underlying68) .i64 ((k : Int) + 1) (by omega) (by omega), hi8]
    have hs : (sizeOf 98).run Tryd.prog w = .ok 2 w := by kernel_rfl
    rw [hs]
    have e : ((k : Int) + 1).toNat = k + 1 := by omega
    simp only [Result.andThen_ok, sliced, e]
  · split
    · have : xs.drop ((k + 1) * 2) = [] := List.drop_eq_nil_of_le (by omega)
      rw [this]
      exact Rd.nil _ _ _
    · exact hr.drop _
set_option maxRecDepth 100000 in
set_option maxHeartbeats 4000000 in
theorem rDrop_no9 {w : World} {base : Nat} {A AL : Option Addr} {m a nA c cL : Nat} {rs : List Pg} (hR : RefP w base (.slice AL rs.length cL) rs) (hl : rs.length ≤ 1000) {n : Int} (hno : ∀ r ∈ rs, (r.n : Int) ≠ n) :
    Calls Tryd.prog 52 #[.agg #[.int .i64 m, .slice A nA c, .int .i64 a, .slice AL rs.length cL], .int .i64 n] w fun e w' => e = .returned (.tuple #[.agg #[.int .i64 m, .slice A nA c, .int .i64 a, .slice AL rs.length cL], .bool false]) ∧ Below w.heap.size w w' := by
  obtain ⟨w7, hw7, hbD, hbZ, hB7, hz7⟩ := s9_new w m a A AL nA c rs.length cL
  have HAt := Lib.hid (rAt_no (.int .i64 m) (.slice A nA c) (.int .i64 a) n (hR.below hB7) hl hno)
  have HD7 := Lib.hid hbD
  have HZ7 := Lib.hid hbZ
  have HB7 := Lib.hid hB7
  have HW7 := Lib.hid hw7
  clear hR hno hw7 hbD hbZ hB7
  go_enter Tryd.func52, Tryd.ntmps52
  go_upto_region 1 with fail
  rw [← HW7.out]
  clear HW7
  have k0 : w7.cell? ⟨w.heap.size, 0, none⟩ = some (.int .i64 m) := HD7.out.cell 0
  have k1 : w7.cell? ⟨w.heap.size, 1, none⟩ = some (.slice A nA c) := HD7.out.cell 1
  have k2 : w7.cell? ⟨w.heap.size, 2, none⟩ = some (.int .i64 a) := HD7.out.cell 2
  have k3 : w7.cell? ⟨w.heap.size, 3, none⟩ = some (.slice AL rs.length cL) := HD7.out.cell 3
  go_wp2_with fail
  refine HAt.out.mono ?_
  rintro e w2 ⟨rfl, hB2⟩
  have HB2 := Lib.hid (HB7.out.trans (hB2.mono HB7.out.size))
  have HDx := Lib.hid (HD7.out.below' hB2)
  have HZx := Lib.hid (HZ7.out.below' hB2)
  clear k0 k1 k2 k3 hB2
  have k0 : w2.cell? ⟨w.heap.size, 0, none⟩ = some (.int .i64 m) := HDx.out.cell 0
  have k1 : w2.cell? ⟨w.heap.size, 1, none⟩ = some (.slice A nA c) := HDx.out.cell 1
  have k2 : w2.cell? ⟨w.heap.size, 2, none⟩ = some (.int .i64 a) := HDx.out.cell 2
  have k3 : w2.cell? ⟨w.heap.size, 3, none⟩ = some (.slice AL rs.length cL) := HDx.out.cell 3
  have z0 : w2.cell? ⟨w.heap.size + 1, 0, none⟩ = some (.int .i64 0) := HZx.out.cell 0
  have z1 : w2.cell? ⟨w.heap.size + 1, 1, none⟩ = some (.slice none 0 0) := HZx.out.cell 1
  have z2 : w2.cell? ⟨w.heap.size + 1, 2, none⟩ = some (.int .i64 0) := HZx.out.cell 2
  have z3 : w2.cell? ⟨w.heap.size + 1, 3, none⟩ = some (.slice none 0 0) := HZx.out.cell 3
  have f0 := HZx.out.free 0
  have f1 := HZx.out.free 1
  have f2 := HZx.out.free 2
  have f3 := HZx.out.free 3
  go_wp2
  have HS := s9_back HZx.out (.int .i64 m) (.slice A nA c) (.int .i64 a) (.slice AL rs.length cL)
  refine bodyPost_ret (results_ct rfl _ _ (w.heap.size + 1) 70 _ _ (.bool false) rfl rfl HS.1 Tryd.underlying70 rfl HS.2) rfl ⟨rfl, ?_⟩
  exact HB2.out.trans ((fr_set4 w2 (w.heap.size + 1) _ _ _ _).below HB2.out.size fun q hq e => by omega)
set_option maxRecDepth 100000 in
set_option maxHeartbeats 8000000 in
theorem rDrop_yes9 {w : World} {base : Nat} {A AL : Option Addr} {m a nA c cL : Nat} {rs : List Pg} (hR : RefP w base (.slice AL rs.length cL) rs) (hbase : base ≤ w.heap.size) (hl : rs.length ≤ 1000) {n : Int} (hyes : ∃ r ∈ rs, (r.n : Int) = n) :
    Calls Tryd.prog 52 #[.agg #[.int .i64 m, .slice A nA c, .int .i64 a, .slice AL rs.length cL], .int .i64 n] w fun e w' =>
      (∃ k r A2 c2, rs[k]? = some r ∧ (r.n : Int) = n ∧ e = .returned (.tuple #[.agg #[.int .i64 m, .slice A nA c, .int .i64 a, .slice A2 (rs.take k ++ rs.drop (k + 1)).length c2], .bool true]) ∧ RefP w' base (.slice A2 (rs.take k ++ rs.drop (k + 1)).length c2) (rs.take k ++ rs.drop (k + 1))) ∧ Below w.heap.size w w' := by
  obtain ⟨iW, zW, hiW, hzW, hsW, hbW, hcW⟩ := p_parts
  obtain ⟨w7, hw7, hbD, hbZ, hB7, hz7⟩ := s9_new w m a A AL nA c rs.length cL
  have HAt := Lib.hid (rAt_yes (.int .i64 m) (.slice A nA c) (.int .i64 a) n (hR.below hB7) hl hyes)
  have HD7 := Lib.hid hbD
  have HZ7 := Lib.hid hbZ
  have HB7 := Lib.hid hB7
  have HW7 := Lib.hid hw7
  have HL := Lib.hid hR
  have hcap := hR.cap
  clear hR hyes hw7 hbD hbZ hB7
  go_enter Tryd.func52, Tryd.ntmps52
  go_upto_region 1 with fail
  rw [← HW7.out]
  clear HW7
  have k0 : w7.cell? ⟨w.heap.size, 0, none⟩ = some (.int .i64 m) := HD7.out.cell 0
  have k1 : w7.cell? ⟨w.heap.size, 1, none⟩ = some (.slice A nA c) := HD7.out.cell 1
  have k2 : w7.cell? ⟨w.heap.size, 2, none⟩ = some (.int .i64 a) := HD7.out.cell 2
  have k3 : w7.cell? ⟨w.heap.size, 3, none⟩ = some (.slice AL rs.length cL) := HD7.out.cell 3
  go_wp2_with fail
  refine HAt.out.mono ?_
  rintro e w5 ⟨⟨k, r, rfl, hr, hrn⟩, hB2⟩
  have HB5 := Lib.hid (HB7.out.trans (hB2.mono HB7.out.size))
  have HD5 := Lib.hid (HD7.out.below' hB2)
  have HZ5 := Lib.hid (HZ7.out.below' hB2)
  have HL5 := Lib.hid (HL.out.below HB5.out)
  have HRk := Lib.hid hr
  have HRn := Lib.hid hrn
  have hkl : k < rs.length := (List.getElem?_eq_some_iff.1 hr).1
  have hz5 : w.heap.size + 2 ≤ w5.heap.size := by have := hB2.size; omega
  have hkc : k ≤ cL := by omega
  have cutF := fun W : World => run_frontP (w := W) (A := AL) (n := rs.length) hkc
  obtain ⟨AB, cB, cutB, hBk⟩ := run_backP (A := AL) (n := rs.length) (c := cL) (k := k) hkl hcap
  have HBk := Lib.hid hBk
  have p3 : (w5.alloc (.cells #[] 98)).cell? ⟨w.heap.size, 3, none⟩ = some (.slice AL rs.length cL) := (HD5.out.alloc _).cell 3
  have HO1 : Hid ((w5.alloc (.cells #[] 98)).ownsRow w5.heap.size 98 2 (.slice (some ⟨w5.heap.size, 0, none⟩) 0 0) 0 []) :=
    World.ownsRow_made (base := w5.heap.size) (e := 98) (size := 2) w5 #[] 0 (Nat.le_refl _) (by decide) rfl
  have HR0 : Hid (Rd (w5.alloc (.cells #[] 98)) w5.heap.size AL (pgCells rs)) := (HL5.out.rd).below' ((Below.refl _ _).alloc (Nat.le_refl _) _) (Nat.le_refl _)
  have HR1 : Hid (Rd (w5.alloc (.cells #[] 98)) w5.heap.size AL (pgCells (rs.take k))) := by
    show Rd _ _ _ _
    rw [← pgCells_take]
    exact HR0.out.take _
  have h1 := Lib.hid (pgOne (rs.take k))
  have HWL : Hid ((pgCells (rs.take k)).length = k * 2) := by show _ = _; rw [pgCells_len, List.length_take, Nat.min_eq_left (by omega)]
  clear k0 k1 k2 k3 hB2 hr hrn HAt HD7 HZ7 hBk
  go_upto_region 5 with ((with_reducible refine wpList_dst 19 ?_); refine wpList_append_rn rfl (.tmp 14) (.tmp 18) 68 rfl w5.heap.size 98 iW zW 2 32 Tryd.underlying68 hiW hzW hsW hbW hcW (by omega) (.slice (some ⟨w5.heap.size, 0, none⟩) 0 0) 0 [] rfl HO1.out w5.heap.size AL k cL (pgCells (rs.take k)) rfl HWL.out HR1.out h1.out (by simp [maxLen]; omega) (by omega) (by simp) ?_; intro v8 w8 hown8 hg8 hat8)
  have hB8 : Below w5.heap.size w5 w8 := ((Below.refl _ _).alloc (Nat.le_refl _) (.cells #[] 98)).grown hg8 (by simp) (fun q hq => by simp [Value.ownBlock] at hq; omega)
  have HO8 : Hid (w8.ownsRow w5.heap.size 98 2 v8 k (pgCells (rs.take k))) := by
    show w8.ownsRow _ _ _ _ _ _
    simpa using hown8
  have hz8 := hB8.size
  have HB8 := Lib.hid hB8
  have HD8 := Lib.hid (HD5.out.below' hB8)
  have HZ8 := Lib.hid (HZ5.out.below' hB8)
  have HR8 : Hid (Rd w8 w5.heap.size AB (pgCells (rs.drop (k + 1)))) := by
    show Rd _ _ _ _
    rw [← pgCells_drop]
    exact HBk.out _ _ _ (pgCells_len rs) ((HL5.out.rd).below' hB8 (Nat.le_refl _))
  have h2 := Lib.hid (pgOne (rs.drop (k + 1)))
  have HWL2 : Hid ((pgCells (rs.drop (k + 1))).length = (rs.length - (k + 1)) * 2) := by show _ = _; rw [pgCells_len, List.length_drop]
  have q3 : w8.cell? ⟨w.heap.size, 3, none⟩ = some (.slice AL rs.length cL) := HD8.out.cell 3
  clear hown8 hg8 hat8 HO1 HR1 p3 hB8 HR0 HBk HWL h1
  obtain ⟨A8, c8, rfl⟩ := owns_form HO8.out
  go_wp2_with ((with_reducible refine wpList_dst 26 ?_); refine wpList_append_rn rfl (.tmp 20) (.tmp 25) 68 rfl w5.heap.size 98 iW zW 2 32 Tryd.underlying68 hiW hzW hsW hbW hcW (by omega) (.slice A8 k c8) k (pgCells (rs.take k)) rfl HO8.out w5.heap.size AB (rs.length - (k + 1)) cB (pgCells (rs.drop (k + 1))) rfl HWL2.out HR8.out h2.out (by simp [maxLen]; omega) (by omega) (by omega) ?_; intro v10 w10 hown10 hg10 hat10; obtain ⟨A10, c10, rfl⟩ := owns_form hown10; have hB10 : Below w5.heap.size w5 w10 := HB8.out.grown hg10 (by omega) (fun q hq => (World.ownsRow.lt HO8.out q hq).1); have HDx := Lib.hid (HD5.out.below' hB10); have HZx := Lib.hid (HZ5.out.below' hB10); have d0 : w10.cell? ⟨w.heap.size, 0, none⟩ = some (.int .i64 m) := HDx.out.cell 0; have d1 : w10.cell? ⟨w.heap.size, 1, none⟩ = some (.slice A nA c) := HDx.out.cell 1; have d2 : w10.cell? ⟨w.heap.size, 2, none⟩ = some (.int .i64 a) := HDx.out.cell 2; have d3 : w10.cell? ⟨w.heap.size, 3, none⟩ = some (.slice AL rs.length cL) := HDx.out.cell 3; have e3 := HDx.out.free 3; have z0 : w10.cell? ⟨w.heap.size + 1, 0, none⟩ = some (.int .i64 0) := HZx.out.cell 0; have z1 : w10.cell? ⟨w.heap.size + 1, 1, none⟩ = some (.slice none 0 0) := HZx.out.cell 1; have z2 : w10.cell? ⟨w.heap.size + 1, 2, none⟩ = some (.int .i64 0) := HZx.out.cell 2; have z3 : w10.cell? ⟨w.heap.size + 1, 3, none⟩ = some (.slice none 0 0) := HZx.out.cell 3; have f0 := HZx.out.free 0; have f1 := HZx.out.free 1; have f2 := HZx.out.free 2; have f3 := HZx.out.free 3)
  obtain ⟨N, hN⟩ : ∃ N, N = k + (rs.length - (k + 1)) := ⟨_, rfl⟩
  have hN2 : (rs.take k ++ rs.drop (k + 1)).length = N := by rw [List.length_append, List.length_take, List.length_drop, Nat.min_eq_left (by omega), hN]
  rw [← hN] at hown10 ⊢
  have HI : Hid ((Tryd.prog.info? 70).map (·.size) = some (#[Value.int .i64 m, .slice A nA c, .int .i64 a, .slice A10 N c10] : Array Value).size) := s9_info
  have hF : Fr (fun k => k = w.heap.size ∨ k = w.heap.size + 1) w10 (((((w10.setCell ⟨w.heap.size, 3, none⟩ (.slice A10 N c10)).setCell ⟨w.heap.size + 1, 0, none⟩ (.int .i64 m)).setCell ⟨w.heap.size + 1, 1, none⟩ (.slice A nA c)).setCell ⟨w.heap.size + 1, 2, none⟩ (.int .i64 a)).setCell ⟨w.heap.size + 1, 3, none⟩ (.slice A10 N c10)) :=
    Fr.trans ((Fr.refl (fun k => k = w.heap.size ∨ k = w.heap.size + 1) w10).set ⟨w.heap.size, 3, none⟩ _ fun _ => .inl rfl) (fr_set4 _ (w.heap.size + 1) _ _ _ _) fun _ _ h => .inr h
  have hZ := (HZx.out.far (p := ⟨w.heap.size, 3, none⟩) (by show w.heap.size + 1 ≠ w.heap.size; omega) (.slice A10 N c10)).set4 (.int .i64 m) (.slice A nA c) (.int .i64 a) (.slice A10 N c10)
  have hB10w : Below w.heap.size w w10 := HB5.out.trans (hB10.mono (by omega))
  have hBW := hB10w.trans (hF.below hB10w.size fun k hk e => by omega)
  refine bodyPost_ret (results_ct rfl _ _ (w.heap.size + 1) 70 _ _ (.bool true) rfl rfl hZ Tryd.underlying70 rfl HI.out) rfl ⟨⟨k, r, A10, c10, HRk.out, HRn.out, by rw [hN2], ?_, fun r' hr' => ?_⟩, hBW⟩
  · rw [hN2, pgCells_app]
    exact owns_weaken (own_fr hown10 hF fun k h1 _ h3 => by omega) (by omega)
  · refine (HL.out.below hBW).ys r' ?_
    rcases List.mem_append.1 hr' with hr' | hr'
    · exact List.mem_of_mem_take hr'
    · exact List.mem_of_mem_drop hr'
end Go.Proofs.YtcbfaahnhdmagaaDoor
