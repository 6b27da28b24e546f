/- A tree of records: a loop over what it has; Count. -/
import Derived.Test.YteifdbfaclpcdaaRTrG
namespace Go.Proofs.YteifdbfaclpcdaaR.Rr
open Go.RowKit Go.Shelf
attribute [local go_sem] Oper.semAt_some

/-- A record's form. -/
def frm : Value → Int
  | .agg cs => intOf (cs.getD 0 undef)
  | _ => 0
/-- How many are of some forms. -/
def cntF (xs : List Int) (o : KsR) : Nat := o.countP fun q => xs.contains (frm q.2)
theorem cntF_snoc (xs : List Int) (o : KsR) (k : Nat) (r : Rec) : cntF xs (o ++ [(k, r.v)]) = cntF xs o + if xs.contains r.a then 1 else 0 := by
  unfold cntF
  rw [List.countP_append, List.countP_singleton]
  rfl
theorem cntF_le (xs : List Int) (o : KsR) : cntF xs o ≤ o.length := List.countP_le_length
/-- Count's loop. -/
structure CtJ (w0 : World) (bf gb lL D : Nat) (F : Value) (xs : List Int) (rec : Loop) (o : KsR) (W : World) : Prop where
  below : Below w0.heap.size w0 W
  forms : Bk W bf 23 #[F]
  box : Bk W gb 3 #[.int .i64 (cntF xs o : Nat)]
  rl : W.heap[lL]? = some (.loop rec)
  rd : W.heap[D]? = some (.deferred (some []))
section
variable {w0 w w' : World} {base g many lp : Nat} {ex : Nat → Nat → Bool} {nd : Nat → Nat → Nat} {f : Nat → Option Value} {J : KsR → World → Prop}
theorem ct_keep (bf gb lL D : Nat) (F : Value) (xs : List Int) (rec : Loop) : KpJ w0 (CtJ w0 bf gb lL D F xs rec) where
  below := fun _ _ h => h.below
  drew := fun _ W q h => ⟨h.below.trans ((((Fr.refl (fun _ => False) W).drewN q).below0).mono h.below.size), h.forms, h.box, h.rl, h.rd⟩
theorem range_ct {gop : Operand} {ps : Array Tmp} {assign body : Code} {Q : Exit → Act → World → Prop} {a : Act} {m bf gb pt pk : Nat} {F : Value} {xs : List Int} (hps : ps.size = 2)
    (hg : a.eval gop = .func (.func 86) #[] #[.pointer (some ⟨pt, 0, none⟩), .pointer (some ⟨pk, 0, none⟩)])
    (hR : RxAt w0 base g ex nd f many) (hb : Below w0.heap.size w0 w) (hpt : Bk w pt 122 #[.pointer (some ⟨g, 0, none⟩)]) (hpk : Bk w pk 3 #[.int .i64 0])
    (hbf : Bk w bf 23 #[F]) (hgb : Bk w gb 3 #[.int .i64 (0 : Nat)]) (hlo : w0.heap.size ≤ gb)
    (hround : ∀ (l : Nat) (bo : Obj) (W : World) (o : KsR) (zk : Int) (k : Nat) (r : Rec) (R : Ending → World → Prop),
      l < W.heap.size → w.heap.size ≤ l → w.heap.size ≤ W.heap.size → Below w0.heap.size w0 W → Bk W bf 23 #[F] → Bk W gb 3 #[.int .i64 (cntF xs o : Nat)] → o.length ≤ 65536 →
      (∀ w₁, Below W.heap.size W w₁ → (Instr.beginRound l).run Try.prog w₁ = .ok () (w₁.putObj l bo)) →
      (∀ W3, Fr (fun k => k = l ∨ k = gb) W W3 → W3.heap[l]? = some bo → Bk W3 gb 3 #[.int .i64 (cntF xs (o ++ [(k, r.v)]) : Nat)] → ∃ u W4, (Instr.endRound l none).run Try.prog W3 = .ok u W4 ∧ R (.returned u) W4) →
      assign.wpIn (Fence.wide.inRound l) 0 Try.prog (Exit.then (fun a₁ w₁ => ∃ w₂, (Instr.beginRound l).run Try.prog w₁ = .ok () w₂ ∧ body.wpIn (Fence.wide.inRound l) 0 Try.prog (roundPost Try.prog l R) a₁ w₂) (fun _ _ _ => False))
        { tmps := (ps.zip #[Value.int .i64 zk, Value.agg #[.int .i64 r.a, .int .i64 r.b, .int .i64 r.c, .int .u64 r.d]]).foldl (fun t (p, v) => t.setIfInBounds p v) a.tmps, defers := [] } W)
    (hdone : ∀ W4, Bk W4 gb 3 #[.int .i64 (cntF xs (seg f 0 0 65536) : Nat)] → W4.heap[w.heap.size]? = some (.deferred (some [])) → Below w0.heap.size w0 W4 → Q .normal { a with defers := { target := .collected w.heap.size, args := #[] } :: a.defers } W4) :
    (Code.rangeFunc gop ps assign body).wpIn Fence.wide m Try.prog Q a w := by
  refine wpIn_rangeFunc ?_
  intro fn hfn
  rw [show Fence.wide.round = none from rfl]
  obtain ⟨rec, hrec⟩ : ∃ rec : LoopState → Option Code → Loop, rec = fun st pe => { state := st, pending := pe, fn, tmps := a.tmps, params := ps, assign, body, defers := w.heap.size } := ⟨_, rfl⟩
  obtain ⟨W1, hW1⟩ : ∃ W1, (w.alloc (.deferred (some []))).alloc (.loop (rec .ready none)) = W1 := ⟨_, rfl⟩
  have hb1 : Below w.heap.size w W1 := by rw [← hW1]; exact ((Below.refl _ w).alloc (Nat.le_refl _) _).alloc (by simp) _
  have hz1 : W1.heap.size = w.heap.size + 2 := by rw [← hW1]; simp
  have hL1 : W1.heap[w.heap.size + 1]? = some (.loop (rec .ready none)) := by
    rw [← hW1]
    have := World.alloc_heap_new (w.alloc (.deferred (some []))) (.loop (rec .ready none))
    rwa [World.size_alloc] at this
  have hD1 : W1.heap[w.heap.size]? = some (.deferred (some [])) := by
    rw [← hW1]
    exact (Below.heap_alloc _ _ _ (by simp)).trans (World.alloc_heap_new w _)
  have hgbl := hgb.lt
  have hbfl := hbf.lt
  have hgf : gb ≠ bf := hgb.ne hbf (by decide)
  have hbz := hb.size
  refine ⟨w.heap.size + 1, [{ target := .collected w.heap.size, args := #[] }], W1, { target := .fn (.func 86) #[.pointer (some ⟨pt, 0, none⟩), .pointer (some ⟨pk, 0, none⟩)], args := #[.func (.yield (w.heap.size + 1)) #[] #[]] }, W1, 86,
    #[.func (.yield (w.heap.size + 1)) #[] #[]] ++ #[.pointer (some ⟨pt, 0, none⟩), .pointer (some ⟨pk, 0, none⟩)], W1, ?_, ?_, fun _ _ => trivial, ?_, fun h => absurd h (by decide), ?_⟩
  · rw [← hW1, hrec]; exact run_enterLoop_outer _ _ _ _ _
  · simp only [resolve, hg]
    simp [go_sem]
  · simp [invoke, go_sem]
  · have hJ0 : CtJ w0 bf gb (w.heap.size + 1) w.heap.size F xs (rec .ready none) [] W1 := ⟨hb.trans (hb1.mono hbz), hbf.below' hb1, hgb.below' hb1, hL1, hD1⟩
    refine (iter_in hR (ct_keep bf gb (w.heap.size + 1) w.heap.size F xs (rec .ready none)) (lp := w.heap.size + 1) ?_ (hpt.below' hb1) (hpk.below' hb1) hJ0).mono ?_
    · -- a round
      intro o W k zk r _ hJ hol
      have hll : w.heap.size + 1 < W.heap.size := (Array.getElem?_eq_some_iff.1 hJ.rl).1
      have hy := run_yield (P := Try.prog) (args := #[Value.int .i64 zk, Value.agg #[.int .i64 r.a, .int .i64 r.b, .int .i64 r.c, .int .u64 r.d]]) hJ.rl (by rw [hrec]; simp [hps])
      rw [hrec] at hy
      refine ⟨fn, _, assign, body, hy, roundIn_of_wpIn hfn ?_⟩
      refine hround (w.heap.size + 1) (.loop { rec .ready none with state := .busy }) W o zk k r _ hll (by omega) (by omega) hJ.below hJ.forms hJ.box hol (fun w₁ hw₁ => ?_) (fun W3 hF hl3 hb3 => ?_)
      · exact run_beginRound ((hw₁.block _ hll).trans hJ.rl) (by rw [hrec])
      · have h1 := run_endRound (P := Try.prog) none hl3
        have hl4 : w.heap.size + 1 < W3.heap.size := (Array.getElem?_eq_some_iff.1 hl3).1
        have hFz := hF.size
        have hd3 : W3.heap[w.heap.size]? = some (.deferred (some [])) := (hF.block _ (by omega) (fun h => by
          rcases h with h | h <;> omega)).trans hJ.rd
        have hf3 : Bk W3 bf 23 #[F] := hJ.forms.fr hF fun h => by
          rcases h with h | h
          · omega
          · exact hgf h.symm
        refine ⟨_, _, h1, rfl, ?_, hf3.fr (fr_putObj _ _ _) (show ¬ bf = _ by omega), hb3.fr (fr_putObj _ _ _) (show ¬ gb = _ by omega), ?_, (World.putObj_heap_other (by omega)).trans hd3⟩
        · have h2 : Below w0.heap.size W W3 := hF.below (by omega) fun q hq h => by rcases h with h | h <;> omega
          exact (hJ.below.trans h2).trans ((fr_putObj W3 _ _).below (by omega) fun q hq h => by have : q = w.heap.size + 1 := h; omega)
        · rw [World.putObj_heap_same hl4, hrec]
          rfl
    · rintro e W4 ⟨⟨u, rfl⟩, hJ⟩
      have h1 := run_endLoop (P := Try.prog) hJ.rl (by rw [hrec]; simp)
      have hl4 : w.heap.size + 1 < W4.heap.size := (Array.getElem?_eq_some_iff.1 hJ.rl).1
      refine ⟨_, _, h1, ?_⟩
      rw [hrec]
      refine hdone _ (hJ.box.fr (fr_putObj _ _ _) (show ¬ gb = w.heap.size + 1 by omega)) ((World.putObj_heap_other (by omega)).trans hJ.rd) ?_
      exact hJ.below.trans ((fr_putObj W4 _ _).below (by omega) fun q hq h => by have : q = w.heap.size + 1 := h; omega)
theorem twAllG {t e : Nat} (h1 : Bk w t 125 #[.pointer (some ⟨g, 0, none⟩), .pointer (some ⟨e, 0, none⟩)]) : Calls Try.prog 72 #[.pointer (some ⟨t, 0, none⟩)] w fun e w' => e = .returned (.pointer (some ⟨g, 0, none⟩)) ∧ w = w' := by
  have hc := h1.cell 0
  clear h1
  go_enter Try.func72, Try.ntmps72
  go_wp2_with fail
  go_ret
  exact ⟨rfl, rfl⟩
set_option maxRecDepth 100000 in
set_option maxHeartbeats 4000000 in
/-- t.Count(forms...). -/
theorem twCount {t n last B c : Nat} {fin : Nat → Bool} {A : Option Addr} {xs : List Int} (h : TwAt w base t f n fin last) (hr : RdI w B A xs) (hB : B ≤ w.heap.size) (hl : xs.length ≤ 1000) :
    Calls Try.prog 75 #[.pointer (some ⟨t, 0, none⟩), .slice A xs.length c] w fun e w' => e = .returned (.int .i64 (cntF xs (seg f 0 0 65536) : Nat)) ∧ Below w.heap.size w w' := by
  obtain ⟨m, -⟩ : ∃ m : Nat, m = m := ⟨0, rfl⟩
  refine (callsIn_wide (n := m)).1 ?_
  obtain ⟨w2, hw2⟩ : ∃ w2, w2 = (w.alloc (.cells #[.slice A xs.length c] 23)).alloc (.cells #[.int .i64 0] 3) := ⟨_, rfl⟩
  have hb2 : Below w.heap.size w w2 := by rw [hw2]; exact ((Below.refl _ _).alloc (Nat.le_refl _) _).alloc (by simp) _
  have hbf : Bk w2 w.heap.size 23 #[.slice A xs.length c] := by rw [hw2]; exact (Bk.new _ _ _).alloc _
  have hgb : Bk w2 (w.heap.size + 1) 3 #[.int .i64 0] := by rw [hw2]; exact Bk.new_at _ _ _ (by simp)
  have hz2 : w2.heap.size = w.heap.size + 2 := by rw [hw2]; simp
  obtain ⟨g, ex, nd, e0, gs, gw, q1, hR, -, -⟩ := h.parts
  have HA := Lib.hid (twAllG (q1.below' hb2))
  obtain ⟨w3, hw3⟩ : ∃ w3, w3 = (w2.alloc (.cells #[.pointer (some ⟨g, 0, none⟩)] 122)).alloc (.cells #[.int .i64 0] 3) := ⟨_, rfl⟩
  have hb3 : Below w2.heap.size w2 w3 := by rw [hw3]; exact ((Below.refl _ _).alloc (Nat.le_refl _) _).alloc (by simp) _
  have hpt : Bk w3 w2.heap.size 122 #[.pointer (some ⟨g, 0, none⟩)] := by rw [hw3]; exact (Bk.new _ _ _).alloc _
  have hpk : Bk w3 (w2.heap.size + 1) 3 #[.int .i64 0] := by rw [hw3]; exact Bk.new_at _ _ _ (by simp)
  have hz3 : w3.heap.size = w2.heap.size + 2 := by rw [hw3]; simp
  have HR := Lib.hid hr
  have HB := Lib.hid hB
  have HX := Lib.hid hR
  have Hw2 := Lib.hid hw2
  have Hw3 := Lib.hid hw3
  have HB2 := Lib.hid hb2
  have HB3 := Lib.hid hb3
  have HBf := Lib.hid (hbf.below' hb3)
  have HGb := Lib.hid (hgb.below' hb3)
  have HPt := Lib.hid hpt
  have HPk := Lib.hid hpk
  have HZ : Hid (w.heap.size + 2 = w2.heap.size ∧ w2.heap.size + 2 = w3.heap.size) := ⟨hz2.symm, hz3.symm⟩
  have HL := Lib.hid hl
  clear hr hB hR hw2 hw3 hb2 hb3 hbf hgb hpt hpk hz2 hz3 h q1 hl
  refine callsIn_of_wp_marks Try.func75 rfl trivial ?_ rfl
  simp only [Try.ntmps75, List.size_toArray, List.length_cons, List.length_nil, Nat.reduceAdd, Nat.reduceSub, Array.replicate_succ, Array.replicate_zero, List.push_toArray, List.append_toArray, List.nil_append, List.cons_append]
  gi_wp2_with fail
  rw [← Hw2.out]
  refine ⟨trivial, wide_d, ?_⟩
  refine (callsIn_wide.2 HA.out).mono ?_
  rintro e w9 ⟨rfl, rfl⟩
  gi_wp2_with fail
  refine ⟨trivial, wide_d, ?_⟩
  refine (callsIn_wide.2 (sFrom _ _ _)).mono ?_
  rintro e w9 ⟨rfl, rfl⟩
  rw [← Hw3.out]
  gi_wp2_with fail
  refine range_ct (w0 := w) (bf := w.heap.size) (gb := w.heap.size + 1) (pt := w2.heap.size) (pk := w2.heap.size + 1) (F := .slice A xs.length c) (xs := xs) (f := f) rfl rfl HX.out (HB2.out.trans (HB3.out.mono HB2.out.size)) HPt.out HPk.out HBf.out HGb.out (by omega) ?round ?done
  case round =>
    intro l bo W o zk k r R hl1 hl2 hW hbel hfo hbo hol hbeg hend
    have HBeg := Lib.hid hbeg
    have hnl : cntF xs o ≤ 65536 := Nat.le_trans (cntF_le xs o) hol
    rw [cntF_snoc] at hend
    have HEnd := Lib.hid hend
    have HFo := Lib.hid hfo
    have HBo := Lib.hid hbo
    have HWl := Lib.hid hl1
    have HWs := Lib.hid hW
    have HWl2 := Lib.hid hl2
    have HRd := Lib.hid (Rd.below' HR.out hbel HB.out)
    have hwW : w.heap.size ≤ W.heap.size := hbel.size
    clear hbeg hend hfo hbo hl1 hbel hol hl2 hW
    generalize cntF xs o = N at *
    gi_wp2
    obtain ⟨Wa, hWa⟩ : ∃ Wa, Wa = W.alloc (.cells #[.int .i64 r.a, .int .i64 r.b, .int .i64 r.c, .int .u64 r.d] 83) := ⟨_, rfl⟩
    have hbA : Below W.heap.size W Wa := by rw [hWa]; exact (Below.refl _ _).alloc (Nat.le_refl _) _
    have htA : Bk Wa W.heap.size 83 #[.int .i64 r.a, .int .i64 r.b, .int .i64 r.c, .int .u64 r.d] := by rw [hWa]; exact Bk.new _ _ _
    rw [← hWa]
    refine ⟨_, HBeg.out _ hbA, ?_⟩
    obtain ⟨Wb, hWb⟩ : ∃ Wb, Wb = Wa.putObj l bo := ⟨_, rfl⟩
    have hFb : Fr (· = l) Wa Wb := by rw [hWb]; exact fr_putObj _ _ _
    have hz := HZ.out
    have hw1 := HWl.out
    have hw2 := HWl2.out
    have hlb : Wb.heap[l]? = some bo := by rw [hWb]; exact World.putObj_heap_same (Nat.lt_of_lt_of_le HWl.out hbA.size)
    rw [← hWb]
    have htB := htA.fr hFb (show ¬ W.heap.size = l by omega)
    have hoB := (HBo.out.below' hbA).fr hFb (show ¬ w.heap.size + 1 = l by omega)
    have hfB := (HFo.out.below' hbA).fr hFb (show ¬ w.heap.size = l by omega)
    have hrB : RdI Wb B A xs := Rd.fr (Rd.below' HRd.out hbA (Nat.le_trans HB.out hwW)) hFb (Nat.le_trans (Nat.le_trans HB.out hwW) hbA.size) (fun ad e h0 e2 => by
      obtain ⟨ad', e', hb', _⟩ := RdI.at_ HRd.out (k := 0) (by simpa using h0)
      rw [e] at e'
      injection e' with e'
      subst e'
      have h1 : ad.block = l := e2
      have h2 := HB.out
      omega)
    have HCt := Lib.hid (containsI (c := c) hrB HL.out r.a)
    have HFW : Hid (Fr (fun k => k = l ∨ k = w.heap.size + 1) W Wb) := (Fr.of_below0 hbA).trans hFb fun k _ h => .inl h
    have k0 : Wb.cell? ⟨W.heap.size, 0, none⟩ = some (.int .i64 r.a) := htB.cell 0
    have kf : Wb.cell? ⟨w.heap.size, 0, none⟩ = some (.slice A xs.length c) := hfB.cell 0
    have kg : Wb.cell? ⟨w.heap.size + 1, 0, none⟩ = some (.int .i64 (N : Nat)) := hoB.cell 0
    have yg : Wb.frozen? ⟨w.heap.size + 1, 0, none⟩ = false := hoB.free 0
    have HoB := Lib.hid hoB
    have Hlb := Lib.hid hlb
    have HlN : Hid (w.heap.size + 1 ≠ l) := by show _ ≠ _; omega
    have hni : (N : Int) ≤ 65536 := by omega
    obtain ⟨b, hb⟩ : ∃ b, b = xs.contains r.a := ⟨_, rfl⟩
    rw [← hb] at HCt HEnd
    clear hWa hWb hbA htA hFb hoB hfB hrB hlb htB HBeg HBo HFo HRd hb hz hw1 hw2 hnl hwW
    cases b
    · gi_wp2_with fail
      refine ⟨trivial, rfl, ?_⟩
      refine (CallsIn.inRound l (callsIn_wide.2 HCt.out)).mono ?_
      rintro e Wc ⟨rfl, rfl⟩
      gi_wp2
      exact HEnd.out _ HFW.out Hlb.out HoB.out
    · gi_wp2_with fail
      refine ⟨trivial, rfl, ?_⟩
      refine (CallsIn.inRound l (callsIn_wide.2 HCt.out)).mono ?_
      rintro e Wc ⟨rfl, rfl⟩
      gi_wp2
      exact HEnd.out _ (HFW.out.set ⟨w.heap.size + 1, 0, none⟩ _ fun _ => .inr rfl) ((Below.heap_setCell _ _ _ _ (fun e => HlN.out e.symm)).trans Hlb.out) (HoB.out.set 0 _)
  case done =>
    intro W4 hbox hD hB4
    have hc0 : W4.cell? ⟨w.heap.size + 1, 0, none⟩ = some (.int .i64 (cntF xs (seg f 0 0 65536) : Nat)) := hbox.cell 0
    have HD := Lib.hid hD
    have HB4 := Lib.hid hB4
    clear hbox hD hB4
    obtain ⟨N, hN⟩ : ∃ N, N = cntF xs (seg f 0 0 65536) := ⟨_, rfl⟩
    rw [← hN] at hc0
    have HN := Lib.hid hN
    clear hN
    gi_wp2
    refine ⟨by simp, .inl ⟨_, _, rfl, run_takeDeferred HD.out, ?_⟩⟩
    refine ⟨_, results_tmp rfl _ _ _, by rw [← HN.out]; rfl, ?_⟩
    have h1 := HB4.out.size
    have h2 := HZ.out
    exact HB4.out.trans ((fr_putObj W4 _ _).below (by omega) fun k hk h => by have : k = w3.heap.size := h; omega)
end
end Go.Proofs.YteifdbfaclpcdaaR.Rr
