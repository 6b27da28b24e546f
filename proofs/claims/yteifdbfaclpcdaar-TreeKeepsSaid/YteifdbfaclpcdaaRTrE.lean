/- A tree of records: Drop. -/
import Derived.Test.YteifdbfaclpcdaaRTrD
namespace Go.Proofs.YteifdbfaclpcdaaR.Rr
open Go.RowKit
section
variable {w w' : World} {base t n last : Nat} {f : Nat → Option Value} {fin : Nat → Bool}
theorem Bk.copy4 {W : World} {x0 x1 x2 x3 : Value} (w0 : World) (hw : W = w0.alloc (.cells #[x0, x1, x2, x3] 83)) : Bk W w0.heap.size 83 #[x0, x1, x2, x3] := hw ▸ Bk.new _ _ _
set_option maxRecDepth 100000 in
set_option maxHeartbeats 2000000 in
theorem twDropNo (h : TwAt w base t f n fin last) (hbase : base ≤ w.heap.size) (key : Int) (hno : getF f key = none) :
    Calls Try.prog 53 #[.pointer (some ⟨t, 0, none⟩), .int .i64 key] w fun e w' => e = .returned (.tuple #[vZero, .bool false]) ∧ TwAt w' base t f n fin last ∧ Below base w w' ∧ Kp w w' := by
  have hcn := cntB_le fin 512
  rw [← h.cnt] at hcn
  have HB0 : Hid (Below w.heap.size w (w.alloc (.cells #[.int .i64 0, .int .i64 0, .int .i64 0, .int .u64 0] 83))) := (Below.refl _ _).alloc (Nat.le_refl _) _
  have HZ0 : Hid (Bk (w.alloc (.cells #[.int .i64 0, .int .i64 0, .int .i64 0, .int .u64 0] 83)) w.heap.size 83 #[.int .i64 0, .int .i64 0, .int .i64 0, .int .u64 0]) := Bk.new _ _ _
  obtain ⟨g, ex, nd, e, gs, gw, h1w, h2w, h3w, h4⟩ := h.parts
  have h1 := h1w.below' HB0.out
  have h2 := h2w.below0 HB0.out
  have h3 := h3w.fr (S := fun _ => False) (Fr.of_below0 HB0.out) id id id
  have HVlt : Hid (∀ k u, ex 4 k = true → f k = some u → nd 4 k < w.heap.size) := fun k u hk hu => (h2w.tr.val k u hk hu).lt
  clear h1w h2w h3w
  have hA : Calls Try.prog 72 #[.pointer (some ⟨t, 0, none⟩)] (w.alloc (.cells #[.int .i64 0, .int .i64 0, .int .i64 0, .int .u64 0] 83)) fun e w' => e = .returned (.pointer (some ⟨g, 0, none⟩)) ∧ w.alloc (.cells #[.int .i64 0, .int .i64 0, .int .i64 0, .int .u64 0] 83) = w' := by
    have hc := h1.cell 0
    clear h2 h3 h4 h
    go_enter Try.func72, Try.ntmps72
    go_wp2_with fail
    go_ret
    exact ⟨rfl, rfl⟩
  have HA := Lib.hid hA
  have HDr : Hid (Calls Try.prog 74 #[.pointer (some ⟨g, 0, none⟩), .int .i64 key] (w.alloc (.cells #[.int .i64 0, .int .i64 0, .int .i64 0, .int .u64 0] 83)) fun e w' => e = .returned (.tuple #[.agg #[.int .i64 0, .int .i64 0, .int .i64 0, .int .u64 0], .bool false]) ∧ ∃ ex' nd', RxAt w' base g ex' nd' f n ∧ Fr (TrS g ex nd) (w.alloc (.cells #[.int .i64 0, .int .i64 0, .int .i64 0, .int .u64 0] 83)) w' ∧ ∀ k u, ex' 4 k = true → f k = some u → nd' 4 k < w.heap.size) := by
    refine (rDrop h2 key (by omega) (fun k hk => ?_)).mono ?_
    · obtain ⟨j, _, hj, hfj⟩ := (h.dom k).1 hk
      have := cntB_pos hj hfj
      rw [← h.cnt] at this
      omega
    rintro x w' ⟨rfl, ex', nd', hR, hF, hX⟩
    rw [hno] at hR hX ⊢
    simp only [Option.isSome_none, Bool.false_eq_true, if_false] at hR hX
    refine ⟨rfl, ex', nd', hR, hF, fun k u hk hu => ?_⟩
    obtain ⟨e1, e2, e3⟩ := hX k u hk hu
    rw [e1]
    exact HVlt.out k u e2 e3
  have H := Lib.hid h
  have H1 := Lib.hid h1
  have H2 := Lib.hid h2
  have H3 := Lib.hid h3
  have H4 := Lib.hid h4
  clear h h1 h2 h3 h4 hA hno
  go_enter Try.func53, Try.ntmps53
  go_wp2_with fail
  refine HA.out.mono ?_
  rintro x w2 ⟨rfl, rfl⟩
  go_wp2_with fail
  refine HDr.out.mono ?_
  rintro x w3 ⟨rfl, ex', nd', hR3, hF3, hV3⟩
  have HV3 := Lib.hid hV3
  clear hV3
  have HR3 := Lib.hid hR3
  have HF3 := Lib.hid hF3
  have H13 := Lib.hid (H1.out.fr hF3 (TrS_ne H2.out H1.out (by decide) (by decide)))
  have hZ3 := HZ0.out.fr hF3 (TrS_ne H2.out HZ0.out (by decide) (by decide))
  have H33 : Hid (EntAt w3 e gs gw fin last) := by
    refine H3.out.fr hF3 (TrS_ne H2.out H3.out.top (by decide) (by decide)) ?_ ?_
    · obtain ⟨t', cs', h4, h5⟩ := EntAt.tys H3.out (.inr (.inl rfl))
      rcases h5 with rfl | rfl | rfl <;> exact TrS_ne H2.out h4 (by decide) (by decide)
    · obtain ⟨t', cs', h4, h5⟩ := EntAt.tys H3.out (.inr (.inr rfl))
      rcases h5 with rfl | rfl | rfl <;> exact TrS_ne H2.out h4 (by decide) (by decide)
  have hsz3 := hF3.size
  have z0 : w3.cell? ⟨w.heap.size, 0, none⟩ = some (.int .i64 0) := hZ3.cell 0
  have z1 : w3.cell? ⟨w.heap.size, 1, none⟩ = some (.int .i64 0) := hZ3.cell 1
  have z2 : w3.cell? ⟨w.heap.size, 2, none⟩ = some (.int .i64 0) := hZ3.cell 2
  have z3 : w3.cell? ⟨w.heap.size, 3, none⟩ = some (.int .u64 0) := hZ3.cell 3
  have y0 := hZ3.free 0
  have y1 := hZ3.free 1
  have y2 := hZ3.free 2
  have y3 := hZ3.free 3
  have hzl := hZ3.lt
  have HZ3 := Lib.hid hZ3
  clear hR3 hF3 hZ3
  go_wp2_with fail
  obtain ⟨W5, hW5⟩ : ∃ W5, W5 = (((w3.setCell ⟨w.heap.size, 0, none⟩ (.int .i64 0)).setCell ⟨w.heap.size, 1, none⟩ (.int .i64 0)).setCell ⟨w.heap.size, 2, none⟩ (.int .i64 0)).setCell ⟨w.heap.size, 3, none⟩ (.int .u64 0) := ⟨_, rfl⟩
  have hF6 : Fr (fun k => k = w.heap.size) w3 W5 := by
    rw [hW5]
    exact rec_fr4 w3 w.heap.size (.int .i64 0) (.int .i64 0) (.int .i64 0) (.int .u64 0)
  have hZ5 : Bk W5 w.heap.size 83 #[.int .i64 0, .int .i64 0, .int .i64 0, .int .u64 0] := by
    rw [hW5]
    exact rec_set4 HZ3.out (.int .i64 0) (.int .i64 0) (.int .i64 0) (.int .u64 0)
  have hB7 : Below W5.heap.size W5 (W5.alloc (.cells #[.int .i64 0, .int .i64 0, .int .i64 0, .int .u64 0] 83)) := (Below.refl _ _).alloc (Nat.le_refl _) _
  rw [← hW5]
  refine bodyPost_ret (results_rec (fn := Try.f53) rfl (hZ5.alloc _) rfl rfl) rfl ⟨rfl, ?_, ?_, ?_⟩
  · have hsame : ∀ {q : Nat} {ty : TypeId} {cs : Array Value}, Bk w3 q ty cs → ty ≠ 83 → q ≠ w.heap.size := fun hb h e => hb.ne HZ3.out h e
    refine TwAt.below0 ⟨⟨g, ex', nd', e, gs, gw, H13.out.fr hF6 (hsame H13.out (by decide)), HR3.out.frR hF6 HZ3.out (fun k u hk hu => HV3.out k u hk hu), H33.out.fr hF6 ?_ ?_ ?_, H4.out⟩, H.out.dom, H.out.cnt⟩ hB7
    · exact hsame H33.out.top (by decide)
    · obtain ⟨t', cs', h4, h5⟩ := EntAt.tys H33.out (.inr (.inl rfl))
      rcases h5 with rfl | rfl | rfl <;> exact hsame h4 (by decide)
    · obtain ⟨t', cs', h4, h5⟩ := EntAt.tys H33.out (.inr (.inr rfl))
      rcases h5 with rfl | rfl | rfl <;> exact hsame h4 (by decide)
  · have hb1 : Below base w (w.alloc (.cells #[.int .i64 0, .int .i64 0, .int .i64 0, .int .u64 0] 83)) := HB0.out.mono hbase
    have hs1 := hb1.size
    have hb2 : Below base _ w3 := HF3.out.below (Nat.le_trans hbase hs1) fun q hq => TrS_lo H2.out hq
    have hb6 := hF6.below (B := base) (Nat.le_trans (Nat.le_trans hbase hs1) hsz3) fun q hq e => by omega
    exact hb1.trans (hb2.trans (hb6.trans (hB7.mono (Nat.le_trans (Nat.le_trans (Nat.le_trans hbase hs1) hsz3) hF6.size))))
  · intro q ty cs hb a1 a2 a3 a4 a5
    have hlt := hb.lt
    have hb1 := hb.below' HB0.out
    have hb3 := hb1.fr HF3.out (TrS_ne H2.out hb1 a1 a2)
    exact (hb3.fr hF6 (by omega)).alloc _
set_option maxRecDepth 100000 in
set_option maxHeartbeats 2000000 in
theorem twDropYes (h : TwAt w base t f n fin last) (hbase : base ≤ w.heap.size) {j : Nat} (hj : j < 512) (hfj : fin j = true) :
    ∃ r : Rec, f (j + 1) = some r.v ∧ Calls Try.prog 53 #[.pointer (some ⟨t, 0, none⟩), .int .i64 ((j : Int) + 1)] w fun e w' => e = .returned (.tuple #[r.v, .bool true]) ∧ TwAt w' base t (updF f (j + 1) none) (n - 1) (updB fin j false) last ∧ Below base w w' ∧ Kp w w' := by
  have hfs : f (j + 1) ≠ none := (h.dom (j + 1)).2 ⟨j, rfl, hj, hfj⟩
  obtain ⟨r, hr⟩ : ∃ r : Rec, f (j + 1) = some r.v := by
    obtain ⟨g, ex, nd, e, gs, gw, h1, h2, h3, h4⟩ := h.parts
    cases hf : f (j + 1) with
    | none => exact absurd hf hfs
    | some u =>
      obtain ⟨r, rfl⟩ := Rec.of (h2.ok _ _ hf)
      exact ⟨r, rfl⟩
  refine ⟨r, hr, ?_⟩
  have hpos := cntB_pos hj hfj
  have hcn := cntB_le fin 512
  rw [← h.cnt] at hpos hcn
  have HB0 : Hid (Below w.heap.size w (w.alloc (.cells #[.int .i64 0, .int .i64 0, .int .i64 0, .int .u64 0] 83))) := (Below.refl _ _).alloc (Nat.le_refl _) _
  have HZ0 : Hid (Bk (w.alloc (.cells #[.int .i64 0, .int .i64 0, .int .i64 0, .int .u64 0] 83)) w.heap.size 83 #[.int .i64 0, .int .i64 0, .int .i64 0, .int .u64 0]) := Bk.new _ _ _
  obtain ⟨g, ex, nd, e, gs, gw, h1w, h2w, h3w, h4⟩ := h.parts
  have h1 := h1w.below' HB0.out
  have h2 := h2w.below0 HB0.out
  have h3 := h3w.fr (S := fun _ => False) (Fr.of_below0 HB0.out) id id id
  have HVlt : Hid (∀ k u, ex 4 k = true → f k = some u → nd 4 k < w.heap.size) := fun k u hk hu => (h2w.tr.val k u hk hu).lt
  have H1w := Lib.hid h1w
  have H2w := Lib.hid h2w
  have H3w := Lib.hid h3w
  clear h1w h2w h3w
  have hA : Calls Try.prog 72 #[.pointer (some ⟨t, 0, none⟩)] (w.alloc (.cells #[.int .i64 0, .int .i64 0, .int .i64 0, .int .u64 0] 83)) fun e w' => e = .returned (.pointer (some ⟨g, 0, none⟩)) ∧ w.alloc (.cells #[.int .i64 0, .int .i64 0, .int .i64 0, .int .u64 0] 83) = w' := by
    have hc := h1.cell 0
    clear h2 h3 h4 h hr
    go_enter Try.func72, Try.ntmps72
    go_wp2_with fail
    go_ret
    exact ⟨rfl, rfl⟩
  have HA := Lib.hid hA
  have HDr : Hid (Calls Try.prog 74 #[.pointer (some ⟨g, 0, none⟩), .int .i64 ((j : Int) + 1)] (w.alloc (.cells #[.int .i64 0, .int .i64 0, .int .i64 0, .int .u64 0] 83)) fun e w' => e = .returned (.tuple #[r.v, .bool true]) ∧ ∃ ex' nd', RxAt w' base g ex' nd' (updF f (j + 1) none) (n - 1) ∧ Fr (TrS g ex nd) (w.alloc (.cells #[.int .i64 0, .int .i64 0, .int .i64 0, .int .u64 0] 83)) w' ∧ ∀ k u, ex' 4 k = true → updF f (j + 1) none k = some u → nd' 4 k < w.heap.size) := by
    refine (rDrop h2 ((j : Int) + 1) (by omega) (fun _ _ => by omega)).mono ?_
    rintro x w' ⟨rfl, ex', nd', hR, hF, hX⟩
    have hg : getF f ((j : Int) + 1) = some r.v := by
      have := getF_nat f (j + 1)
      rw [show ((j + 1 : Nat) : Int) = (j : Int) + 1 by omega] at this
      rw [this, hr]
    rw [hg] at hR hX ⊢
    simp only [Option.isSome_some, if_true] at hR hX
    rw [show ((j : Int) + 1).toNat = j + 1 by omega] at hR hX
    refine ⟨rfl, ex', nd', hR, hF, fun k u hk hu => ?_⟩
    obtain ⟨e1, e2, e3⟩ := hX k u hk hu
    rw [e1]
    exact HVlt.out k u e2 e3
  have H := Lib.hid h
  have H1 := Lib.hid h1
  have H2 := Lib.hid h2
  have H3 := Lib.hid h3
  have H4 := Lib.hid h4
  obtain ⟨a, b, c, d⟩ := r
  unfold Rec.v at HDr ⊢
  simp only at HDr ⊢
  clear h h1 h2 h3 h4 hA hr hfs
  go_enter Try.func53, Try.ntmps53
  go_wp2_with fail
  refine HA.out.mono ?_
  rintro x w2 ⟨rfl, rfl⟩
  go_wp2_with fail
  refine HDr.out.mono ?_
  rintro x w3 ⟨rfl, ex', nd', hR3, hF3, hV3⟩
  have HV3 := Lib.hid hV3
  clear hV3
  have HR3 := Lib.hid hR3
  have HF3 := Lib.hid hF3
  have H13 := Lib.hid (H1.out.fr hF3 (TrS_ne H2.out H1.out (by decide) (by decide)))
  have HZ3 := Lib.hid (HZ0.out.fr hF3 (TrS_ne H2.out HZ0.out (by decide) (by decide)))
  have H33 : Hid (EntAt w3 e gs gw fin last) := by
    refine H3.out.fr hF3 (TrS_ne H2.out H3.out.top (by decide) (by decide)) ?_ ?_
    · obtain ⟨t', cs', h4, h5⟩ := EntAt.tys H3.out (.inr (.inl rfl))
      rcases h5 with rfl | rfl | rfl <;> exact TrS_ne H2.out h4 (by decide) (by decide)
    · obtain ⟨t', cs', h4, h5⟩ := EntAt.tys H3.out (.inr (.inr rfl))
      rcases h5 with rfl | rfl | rfl <;> exact TrS_ne H2.out h4 (by decide) (by decide)
  have hsz3 := hF3.size
  have hc1 : w3.cell? ⟨t, 1, none⟩ = some (.pointer (some ⟨e, 0, none⟩)) := H13.out.cell 1
  have htl := H13.out.lt
  clear hR3 hF3
  obtain ⟨W4, hW4⟩ : ∃ W4, W4 = (w3.alloc (.cells #[.int .i64 a, .int .i64 b, .int .i64 c, .int .u64 d] 83)).alloc (.cells #[.int .i64 ((j : Int) + 1)] 3) := ⟨_, rfl⟩
  have hB4 : Below w3.heap.size w3 W4 := by
    rw [hW4]
    exact ((Below.refl _ _).alloc (Nat.le_refl _) _).alloc (by simp) _
  have HD4 : Hid (Bk W4 w3.heap.size 83 #[.int .i64 a, .int .i64 b, .int .i64 c, .int .u64 d]) := by
    rw [hW4]
    exact (Bk.new w3 _ _ : Bk _ _ _ _).alloc _
  have hI4 : Bk W4 (w3.heap.size + 1) 3 #[.int .i64 ((j : Int) + 1)] := by
    rw [hW4]
    exact Bk.new_at _ _ _ (by simp)
  have H34 : Hid (EntAt W4 e gs gw fin last) := H33.out.fr (S := fun _ => False) (Fr.of_below0 hB4) id id id
  have HE : Hid (Calls Try.prog 35 #[.pointer (some ⟨e, 0, none⟩), .slice (some ⟨w3.heap.size + 1, 0, none⟩) 1 1] W4 fun x w' => x = .returned (.int .i64 1) ∧ EntAt w' e gs gw (updB fin j false) last ∧ Fr (fun b => b = e ∨ b = gs ∨ b = gw) W4 w') := by
    have hRd : RdI W4 (w3.heap.size + 2) (some ⟨w3.heap.size + 1, 0, none⟩) [(j : Int) + 1] := by
      intro k u hu
      refine ⟨_, rfl, by simp, ?_⟩
      rcases k with _ | k
      · have := hI4.cell 0
        simp at hu
        subst hu
        simpa [Addr.add] using this
      · simp at hu
    have hb := inB_succ fin hj
    rw [hfj] at hb
    have e1 : dropN fin [(j : Int) + 1] = 1 := by simp [dropN, hb]
    have e2 : dropE fin [(j : Int) + 1] = updB fin j false := by
      show drop1 fin ((j : Int) + 1) = _
      unfold drop1
      rw [hb, if_pos rfl]
      congr 1
      omega
    have hsz : w3.heap.size + 2 ≤ W4.heap.size := by rw [hW4]; simp
    have hne : ∀ ad : Addr, some (⟨w3.heap.size + 1, 0, none⟩ : Addr) = some ad → 0 < [(j : Int) + 1].length → ¬(ad.block = e ∨ ad.block = gs ∨ ad.block = gw) := fun ad h _ hh => by
      injection h with h
      subst h
      exact EntS_ne H34.out hI4 (by decide) (by decide) (by decide) hh
    have := eDrop_any (c := 1) H34.out hRd hsz hne (fun z hz => by simp at hz; omega) (by simp)
    rw [e1, e2] at this
    exact this
  have HZ4 := Lib.hid (HZ3.out.below' hB4)
  have H14 := Lib.hid (H13.out.below' hB4)
  have HR4 := Lib.hid (HR3.out.below0 hB4)
  have HB4 := Lib.hid hB4
  have HW4 := Lib.hid hW4
  clear hB4 hI4 hW4
  go_wp2_with fail
  rw [← HW4.out]
  refine HE.out.mono ?_
  rintro x w5 ⟨rfl, hE5, hF5⟩
  have hnf : ∀ (b : Nat) (ty : TypeId) (cs : Array Value), Bk W4 b ty cs → ty ≠ 117 → ty ≠ 130 → ty ≠ 40 → Bk w5 b ty cs := fun _ _ _ hb a1 a2 a3 => hb.fr hF5 (EntS_ne H34.out hb a1 a2 a3)
  have hD5 := hnf _ _ _ HD4.out (by decide) (by decide) (by decide)
  have hZ5 := hnf _ _ _ HZ4.out (by decide) (by decide) (by decide)
  have H15 := Lib.hid (hnf _ _ _ H14.out (by decide) (by decide) (by decide))
  have HR5 : Hid (RxAt w5 base g ex' nd' (updF f (j + 1) none) (n - 1)) := HR4.out.fr hF5 fun b _ hb ty cs hbk => by
    refine ⟨fun e => ?_, fun e => ?_, fun e => ?_⟩
    all_goals subst e; exact EntS_ne H34.out hbk (by decide) (by decide) (by decide) hb
  have HE5 := Lib.hid hE5
  have HF5 := Lib.hid hF5
  have k0 : w5.cell? ⟨w3.heap.size, 0, none⟩ = some (.int .i64 a) := hD5.cell 0
  have k1 : w5.cell? ⟨w3.heap.size, 1, none⟩ = some (.int .i64 b) := hD5.cell 1
  have k2 : w5.cell? ⟨w3.heap.size, 2, none⟩ = some (.int .i64 c) := hD5.cell 2
  have k3 : w5.cell? ⟨w3.heap.size, 3, none⟩ = some (.int .u64 d) := hD5.cell 3
  have z0 : w5.cell? ⟨w.heap.size, 0, none⟩ = some (.int .i64 0) := hZ5.cell 0
  have z1 : w5.cell? ⟨w.heap.size, 1, none⟩ = some (.int .i64 0) := hZ5.cell 1
  have z2 : w5.cell? ⟨w.heap.size, 2, none⟩ = some (.int .i64 0) := hZ5.cell 2
  have z3 : w5.cell? ⟨w.heap.size, 3, none⟩ = some (.int .u64 0) := hZ5.cell 3
  have y0 := hZ5.free 0
  have y1 := hZ5.free 1
  have y2 := hZ5.free 2
  have y3 := hZ5.free 3
  have HZ5 := Lib.hid hZ5
  have HNf := Lib.hid hnf
  clear hE5 hF5 hD5 hZ5 hnf
  go_wp2_with fail
  have hF6 := rec_fr4 w5 w.heap.size (.int .i64 a) (.int .i64 b) (.int .i64 c) (.int .u64 d)
  have hsame : ∀ {q : Nat} {ty : TypeId} {cs : Array Value}, Bk w5 q ty cs → ty ≠ 83 → q ≠ w.heap.size := fun hb h e => hb.ne HZ5.out h e
  refine bodyPost_ret (results_rec (fn := Try.f53) rfl (rec_set4 HZ5.out (.int .i64 a) (.int .i64 b) (.int .i64 c) (.int .u64 d)) rfl rfl) rfl ⟨rfl, ⟨⟨g, ex', nd', e, gs, gw, H15.out.fr hF6 (hsame H15.out (by decide)), HR5.out.frR hF6 HZ5.out (fun k u hk hu => HV3.out k u hk hu), HE5.out.fr hF6 ?_ ?_ ?_, H4.out⟩, fun q => ?_, ?_⟩, ?_, ?_⟩
  · exact hsame HE5.out.top (by decide)
  · obtain ⟨t', cs', h4, h5⟩ := EntAt.tys HE5.out (.inr (.inl rfl))
    rcases h5 with rfl | rfl | rfl <;> exact hsame h4 (by decide)
  · obtain ⟨t', cs', h4, h5⟩ := EntAt.tys HE5.out (.inr (.inr rfl))
    rcases h5 with rfl | rfl | rfl <;> exact hsame h4 (by decide)
  · unfold updF updB
    by_cases eq : q = j + 1
    · subst eq
      rw [if_pos rfl]
      exact ⟨fun h => absurd rfl h, fun ⟨i, e1, _, e2⟩ => by
        obtain rfl : j = i := by omega
        simp at e2⟩
    · rw [if_neg eq, H.out.dom q]
      constructor
      · rintro ⟨i, e1, e2, e3⟩
        exact ⟨i, e1, e2, by rw [if_neg (by omega)]; exact e3⟩
      · rintro ⟨i, e1, e2, e3⟩
        rw [if_neg (by omega)] at e3
        exact ⟨i, e1, e2, e3⟩
  · have := cntB_upd fin j false hj
    rw [hfj, ← H.out.cnt] at this
    simp at this
    omega
  · have hb1 : Below base w (w.alloc (.cells #[.int .i64 0, .int .i64 0, .int .i64 0, .int .u64 0] 83)) := HB0.out.mono hbase
    have hs1 := hb1.size
    have hb2 : Below base _ w3 := HF3.out.below (Nat.le_trans hbase hs1) fun q hq => TrS_lo H2.out hq
    have hb4 : Below base w3 W4 := HB4.out.mono (Nat.le_trans (Nat.le_trans hbase hs1) hsz3)
    have hb5 : Below base W4 w5 := HF5.out.below (Nat.le_trans (Nat.le_trans (Nat.le_trans hbase hs1) hsz3) HB4.out.size) fun q hq hh => by
      have := H4.out
      rcases hh with rfl | rfl | rfl <;> omega
    have hb6 := hF6.below (B := base) (Nat.le_trans (Nat.le_trans (Nat.le_trans (Nat.le_trans hbase hs1) hsz3) HB4.out.size) HF5.out.size) fun q hq e => by omega
    exact hb1.trans (hb2.trans (hb4.trans (hb5.trans hb6)))
  · intro q ty cs hb a1 a2 a3 a4 a5
    have hlt := hb.lt
    have hb1 := hb.below' HB0.out
    have hb3 := hb1.fr HF3.out (TrS_ne H2.out hb1 a1 a2)
    have hb5 := HNf.out _ _ _ (hb3.below' HB4.out) a3 a4 a5
    exact hb5.fr hF6 (by omega)
end
end Go.Proofs.YteifdbfaclpcdaaR.Rr
