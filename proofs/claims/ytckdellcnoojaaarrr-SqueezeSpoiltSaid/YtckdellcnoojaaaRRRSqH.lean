/- Squeeze: Pack. -/
import Derived.Test.YtckdellcnoojaaaRRRSqG
namespace Go.Proofs.YtckdellcnoojaaaRRR
open Go.RowKit Go.Shelf
attribute [local go_sem] Oper.semAt_some

theorem wpIn_append_rd {F : Fence} {n : Nat} (hF : ∀ f, F.fn f) {P : Program} {w : World} {o : Oper} {a : Act} {K : Act → World → Prop} {Q : Exit → Act → World → Prop} (s x : Operand) (t : TypeId)
    (ho : o.op = .call { callee := .builtin .append, args := #[s, x], argTypes := #[t, t] })
    (base : Nat) (e : TypeId) (i : TypeInfo) (z : Value) (bytes : Nat) (ht : P.underlying t = some (.slice e)) (hi : P.info? e = some i) (hz : i.zero = some z)
    (hsize : i.size = 1) (hby : i.bytes = bytes) (hzs : z.cells.size = 1) (v : Value) (k : Nat) (xs : List Value) (hs : a.eval s = v) (hown : w.ownsRow base e 1 v k xs)
    (B : Nat) (A : Option Addr) (m c : Nat) (news : List Value) (hx : a.eval x = .slice A m c) (hm : m = news.length) (hr : Rd w B A news) (h1 : ∀ u ∈ news, u.oneCell' = true)
    (h63 : k + news.length ≤ maxLen) (hbytes : (k + news.length) * bytes ≤ 140737488355328) (hbase : base ≤ w.heap.size)
    (h : ∀ v' w', w'.ownsRow base e 1 v' (k + news.length) (xs ++ news) → w.grownBy w' v.ownBlock → (v'.ownBlock = v.ownBlock ∨ v'.ownBlock = some w.heap.size) → K (a.put o.dst v') w') : o.wpIn F n P a w K Q := by
  subst hm
  obtain ⟨v', w', hrun, h2, h3, h4⟩ := run_append_rd (P := P) w base t o.type e i z bytes ht hi hz hsize hby hzs v k xs hown B A c news hr h1 h63 hbytes hbase
  refine ⟨fun f _ => hF f, ?_⟩
  rw [Oper.semAt_eq _ _ _ (fun c h => by rw [ho] at h; cases h)]
  unfold execOp
  simp only [ho, resolve, invoke, builtin, Sem.run_bind, Sem.run_pure, Result.andThen_ok, List.map_toArray, List.map_cons, List.map_nil, hs, hx, hrun]
  exact h v' w' h2 h3 h4
theorem wpListIn_append_rd {F : Fence} {n : Nat} (hF : ∀ f, F.fn f) {P : Program} {w : World} {ops : Array Oper} {rest : List Oper} {o : Oper} {a : Act} {Q : Exit → Act → World → Prop} (hgd : o.guard = none) (s x : Operand) (t : TypeId)
    (ho : o.op = .call { callee := .builtin .append, args := #[s, x], argTypes := #[t, t] })
    (base : Nat) (e : TypeId) (i : TypeInfo) (z : Value) (bytes : Nat) (ht : P.underlying t = some (.slice e)) (hi : P.info? e = some i) (hz : i.zero = some z)
    (hsize : i.size = 1) (hby : i.bytes = bytes) (hzs : z.cells.size = 1) (v : Value) (k : Nat) (xs : List Value) (hs : a.eval s = v) (hown : w.ownsRow base e 1 v k xs)
    (B : Nat) (A : Option Addr) (m c : Nat) (news : List Value) (hx : a.eval x = .slice A m c) (hm : m = news.length) (hr : Rd w B A news) (h1 : ∀ u ∈ news, u.oneCell' = true)
    (h63 : k + news.length ≤ maxLen) (hbytes : (k + news.length) * bytes ≤ 140737488355328) (hbase : base ≤ w.heap.size)
    (h : ∀ v' w', w'.ownsRow base e 1 v' (k + news.length) (xs ++ news) → w.grownBy w' v.ownBlock → (v'.ownBlock = v.ownBlock ∨ v'.ownBlock = some w.heap.size) → wpListIn F n P ops Q rest (a.put o.dst v') w') : wpListIn F n P ops Q (o :: rest) a w := by
  have hw : Region.wanted o (yielded ops a.tmps) = true := by simp [Region.wanted, hgd]
  unfold wpListIn
  rw [if_pos hw]
  exact wpIn_append_rd hF s x t ho base e i z bytes ht hi hz hsize hby hzs v k xs hs hown B A m c news hx hm hr h1 h63 hbytes hbase h

/-- Pack's loop: the bytes so far in a box, its record, its block for deferred calls. -/
structure PkJ (gb lL D base : Nat) (rec : Loop) (o : List UInt8) (R : Nat → Prop) (W : World) (v : Value) : Prop where
  box : Bk W gb 22 #[v]
  own : OwnY W base v o
  rl : W.heap[lL]? = some (.loop rec)
  rd : W.heap[D]? = some (.deferred (some []))
  foot : ∀ k, R k ↔ k = gb ∨ k = lL ∨ k = D ∨ v.ownBlock = some k
theorem fr_putObj (W : World) (r : Nat) (o : Obj) : Fr (· = r) W (W.putObj r o) := ⟨rfl, rfl, rfl, by simp, fun k _ hn => World.putObj_heap_other hn⟩
theorem pk_keep (gb lL D base : Nat) (rec : Loop) : KeepJ (fun o R W => ∃ v, PkJ gb lL D base rec o R W v) where
  lt := fun o R W ⟨v, h⟩ k hk => by
    rcases (h.foot k).1 hk with rfl | rfl | rfl | hv
    · exact h.box.lt
    · exact (Array.getElem?_eq_some_iff.1 h.rl).1
    · exact (Array.getElem?_eq_some_iff.1 h.rd).1
    · exact (h.own.lt hv).2
  fr := fun o R W W' T ⟨v, h⟩ hf hT => by
    have hn : ∀ k, R k → ¬ T k := fun k hk ht => hT k ht hk
    refine ⟨v, ⟨h.box.fr hf (hn _ ((h.foot _).2 (.inl rfl))), h.own.same fun k hk => hf.block k (h.own.lt hk).2 (hn k ((h.foot k).2 (.inr (.inr (.inr hk))))), ?_, ?_, h.foot⟩⟩
    · exact (hf.block _ (Array.getElem?_eq_some_iff.1 h.rl).1 (hn _ ((h.foot _).2 (.inr (.inl rfl))))).trans h.rl
    · exact (hf.block _ (Array.getElem?_eq_some_iff.1 h.rd).1 (hn _ ((h.foot _).2 (.inr (.inr (.inl rfl)))))).trans h.rd
theorem own_not {W : World} {base k : Nat} {v : Value} {l : List UInt8} {o : Obj} (h : OwnY W base v l) (ho : W.heap[k]? = some o) (hc : ∀ cs t m, o ≠ .cells cs t m) : v.ownBlock ≠ some k := by
  intro e
  rcases h.2 with ⟨rfl, _⟩ | ⟨g', cap, cur, rfl, _, hh, _⟩
  · simp [Value.ownBlock] at e
  · have : g' = k := by simpa [Value.ownBlock] using e
    subst this
    rw [hh] at ho
    injection ho with ho
    exact hc _ _ _ ho.symm
theorem tokens_fn (w : World) (A : Option Addr) (n c : Nat) : Calls Try.prog 64 #[.slice A n c] w fun e w' => e = .returned (.func (.func 69) #[] #[.pointer (some ⟨w.heap.size, 0, none⟩)]) ∧ w' = w.alloc (.cells #[.slice A n c] 22) := by
  go_enter Try.func64, Try.ntmps64
  go_wp2
  go_ret
  exact ⟨rfl, rfl⟩
theorem pack_no (w : World) (A : Option Addr) (n c : Nat) (hn : n ≠ 4096) : Calls Try.prog 52 #[.slice A n c] w fun e w' => e = .returned (.tuple #[.slice none 0 0, .bool false]) ∧ w = w' := by
  have h1 : ((n : Int) != 4096) = true := bne_iff_ne.2 (by omega)
  go_enter Try.func52, Try.ntmps52
  go_wp2
  go_ret2
  exact ⟨rfl, rfl⟩
/-- A loop over a page's tokens that gathers their bytes in a box: what a round must do, and what then stands. -/
theorem range_pk {gop : Operand} {ps : Array Tmp} {assign body : Code} {Q : Exit → Act → World → Prop} {a : Act} {w : World} {m gb bp g go c B : Nat} {P : List UInt8} (hps : ps.size = 1)
    (hg : a.eval gop = .func (.func 69) #[] #[.pointer (some ⟨bp, 0, none⟩)]) (hgb : Bk w gb 22 #[.slice none 0 0]) (hbp : Bk w bp 22 #[.slice (some ⟨g, go, none⟩) 4096 c])
    (hr : RdY w B (some ⟨g, go, none⟩) P) (hB : B ≤ w.heap.size) (hP : P.length = 4096) (hc : 4096 ≤ c) (hne : gb ≠ bp ∧ gb ≠ g) (hgB : g < w.heap.size)
    (hround : ∀ (l : Nat) (bo : Obj) (W : World) (o : List UInt8) (v : Value) (A2 : Option Addr) (c2 : Nat) (lit : List UInt8) (n d : Int) (R : Ending → World → Prop),
      (∀ cs t m, bo ≠ .cells cs t m) → l < W.heap.size → w.heap.size ≤ l → w.heap.size ≤ W.heap.size → Bk W gb 22 #[v] → OwnY W w.heap.size v o → o.length ≤ 8192 → RdY W W.heap.size A2 lit → (∀ ad, A2 = some ad → 0 < lit.length → ad.block ≠ l) → mayT lit.length n d = true → v.ownBlock ≠ some l → gb < w.heap.size →
      (∀ w₁, Below W.heap.size W w₁ → (Instr.beginRound l).run Try.prog w₁ = .ok () (w₁.putObj l bo)) →
      (∀ W3 v', Fr (fun k => k = l ∨ k = gb ∨ v.ownBlock = some k) W W3 → W3.heap[l]? = some bo → Bk W3 gb 22 #[v'] → OwnY W3 w.heap.size v' (o ++ putT lit n.toNat d.toNat) → (∀ k, v'.ownBlock = some k → v.ownBlock = some k ∨ W.heap.size ≤ k) → ∃ u W4, (Instr.endRound l none).run Try.prog W3 = .ok u W4 ∧ R (.returned u) W4) →
      assign.wpIn (Fence.wide.inRound l) 0 Try.prog (Exit.then (fun a₁ w₁ => ∃ w₂, (Instr.beginRound l).run Try.prog w₁ = .ok () w₂ ∧ body.wpIn (Fence.wide.inRound l) 0 Try.prog (roundPost Try.prog l R) a₁ w₂) (fun _ _ _ => False))
        { tmps := (ps.zip #[Value.agg #[.slice A2 lit.length c2, .int .i64 n, .int .i64 d]]).foldl (fun t (p, v) => t.setIfInBounds p v) a.tmps, defers := [] } W)
    (hdone : ∀ W4 v, Bk W4 gb 22 #[v] → OwnY W4 w.heap.size v (putAll (packT P 0 0)) → W4.heap[w.heap.size]? = some (.deferred (some [])) → v.ownBlock ≠ some w.heap.size → Fr (· = gb) w W4 → Q .normal { a with defers := { target := .collected w.heap.size, args := #[] } :: a.defers } W4) :
    (Code.rangeFunc gop ps assign body).wpIn Fence.wide m Try.prog Q a w := by
  refine wpIn_rangeFunc ?_
  intro fn hfn
  rw [show Fence.wide.round = none from rfl]
  obtain ⟨rec, hrec⟩ : ∃ rec : LoopState → Option Code → Loop, rec = fun st pe => { state := st, pending := pe, fn, tmps := a.tmps, params := ps, assign, body, defers := w.heap.size } := ⟨_, rfl⟩
  obtain ⟨W1, hW1⟩ : ∃ W1, (w.alloc (.deferred (some []))).alloc (.loop (rec .ready none)) = W1 := ⟨_, rfl⟩
  have hb1 : Below w.heap.size w W1 := by rw [← hW1]; exact ((Below.refl _ w).alloc (Nat.le_refl _) _).alloc (by simp) _
  have hz1 : W1.heap.size = w.heap.size + 2 := by rw [← hW1]; simp
  have hL1 : W1.heap[w.heap.size + 1]? = some (.loop (rec .ready none)) := by
    rw [← hW1]
    have := World.alloc_heap_new (w.alloc (.deferred (some []))) (.loop (rec .ready none))
    rwa [World.size_alloc] at this
  have hD1 : W1.heap[w.heap.size]? = some (.deferred (some [])) := by
    rw [← hW1]
    exact (Below.heap_alloc _ _ _ (by simp)).trans (World.alloc_heap_new w _)
  have hgbl := hgb.lt
  have hbpl := hbp.lt
  refine ⟨w.heap.size + 1, [{ target := .collected w.heap.size, args := #[] }], W1, { target := .fn (.func 69) #[.pointer (some ⟨bp, 0, none⟩)], args := #[.func (.yield (w.heap.size + 1)) #[] #[]] }, W1, 69,
    #[.func (.yield (w.heap.size + 1)) #[] #[]] ++ #[.pointer (some ⟨bp, 0, none⟩)], W1, ?_, ?_, fun _ _ => trivial, ?_, fun h => absurd h (by decide), ?_⟩
  · rw [← hW1, hrec]; exact run_enterLoop_outer _ _ _ _ _
  · simp only [resolve, hg]
    simp [go_sem]
  · simp [invoke, go_sem]
  · have hJ0 : PkJ gb (w.heap.size + 1) w.heap.size w.heap.size (rec .ready none) [] (fun k => k = gb ∨ k = w.heap.size + 1 ∨ k = w.heap.size) W1 (.slice none 0 0) :=
      ⟨hgb.below' hb1, OwnY.nil _ _, hL1, hD1, fun k => by simp [Value.ownBlock]⟩
    refine (iter_in (pk_keep gb (w.heap.size + 1) w.heap.size w.heap.size (rec .ready none)) (l := w.heap.size + 1) ?_ (hbp.below' hb1) (hr.below' hb1 hB) (by omega) hP hc (fun k hk h => ?_) ⟨_, hJ0⟩).mono ?_
    · -- a round
      intro o R W A2 c2 lit n d ⟨v, hJ⟩ hol hrd hmt
      have hll : w.heap.size + 1 < W.heap.size := (Array.getElem?_eq_some_iff.1 hJ.rl).1
      have hnl : v.ownBlock ≠ some (w.heap.size + 1) := own_not hJ.own hJ.rl (fun cs t m => by intro h; cases h)
      have hnD : v.ownBlock ≠ some w.heap.size := own_not hJ.own hJ.rd (fun cs t m => by intro h; cases h)
      have hy := run_yield (P := Try.prog) (args := #[Value.agg #[.slice A2 lit.length c2, .int .i64 n, .int .i64 d]]) hJ.rl (by rw [hrec]; simp [hps])
      rw [hrec] at hy
      refine ⟨fn, _, assign, body, hy, roundIn_of_wpIn hfn ?_⟩
      refine hround (w.heap.size + 1) (.loop { rec .ready none with state := .busy }) W o v A2 c2 lit n d _ (fun cs t m h => by cases h) hll (by omega) (by omega) hJ.box hJ.own hol hrd (fun ad e h0 e2 => ?_) hmt hnl hgbl (fun w₁ hw₁ => ?_) (fun W3 v' hF hl3 hb3 hO3 hv' => ?_)
      · obtain ⟨ad', e', _, hcc⟩ := hrd.at_ h0
        rw [e] at e'
        injection e' with e'
        subst e'
        have : W.cell? (ad.add 0) = none := by
          unfold World.cell?
          rw [block_add, e2, hJ.rl]
        rw [this] at hcc
        cases hcc
      · exact run_beginRound ((hw₁.block _ hll).trans hJ.rl) (by rw [hrec])
      · have h1 := run_endRound (P := Try.prog) none hl3
        have hl4 : w.heap.size + 1 < W3.heap.size := (Array.getElem?_eq_some_iff.1 hl3).1
        have hgl : gb ≠ w.heap.size + 1 := by omega
        have hnl3 : v'.ownBlock ≠ some (w.heap.size + 1) := own_not hO3 hl3 (fun cs t m => by intro h; cases h)
        have hd3 : W3.heap[w.heap.size]? = some (.deferred (some [])) := (hF.block _ (by omega) (fun h => by
          rcases h with h | h | h
          · omega
          · omega
          · exact hnD h)).trans hJ.rd
        refine ⟨_, _, h1, rfl, fun k => k = gb ∨ k = w.heap.size + 1 ∨ k = w.heap.size ∨ v'.ownBlock = some k, ⟨v', ?_, ?_, ?_, ?_, fun k => Iff.rfl⟩, ?_, fun k hk => ?_⟩
        · exact hb3.fr (fr_putObj _ _ _) hgl
        · exact hO3.same fun k hk => World.putObj_heap_other (fun e => hnl3 (e ▸ hk))
        · rw [World.putObj_heap_same hl4, hrec]
          rfl
        · exact (World.putObj_heap_other (by omega)).trans hd3
        · refine Fr.trans (S := R) (S' := (· = w.heap.size + 1)) (hF.mono fun k _ h => ?_) (fr_putObj _ _ _) fun k _ h => ?_
          · rcases h with h | h | h
            · exact (hJ.foot k).2 (.inr (.inl h))
            · exact (hJ.foot k).2 (.inl h)
            · exact (hJ.foot k).2 (.inr (.inr (.inr h)))
          · exact (hJ.foot k).2 (.inr (.inl h))
        · rcases hk with h | h | h | h
          · exact .inl ((hJ.foot k).2 (.inl h))
          · exact .inl ((hJ.foot k).2 (.inr (.inl h)))
          · exact .inl ((hJ.foot k).2 (.inr (.inr (.inl h))))
          · rcases hv' k h with h2 | h2
            · exact .inl ((hJ.foot k).2 (.inr (.inr (.inr h2))))
            · exact .inr h2
    · rcases hk with rfl | rfl
      · rcases h with h | h | h
        · exact hne.1 h.symm
        · omega
        · omega
      · rcases h with h | h | h
        · exact hne.2 h.symm
        · omega
        · omega
    · rintro e W4 ⟨⟨u, rfl⟩, R4, ⟨v, hJ⟩, hF, -⟩
      have h1 := run_endLoop (P := Try.prog) hJ.rl (by rw [hrec]; simp)
      have hnl : v.ownBlock ≠ some (w.heap.size + 1) := own_not hJ.own hJ.rl (fun cs t m => by intro h; cases h)
      have hnD : v.ownBlock ≠ some w.heap.size := own_not hJ.own hJ.rd (fun cs t m => by intro h; cases h)
      refine ⟨_, _, h1, ?_⟩
      rw [hrec]
      refine hdone _ v (hJ.box.fr (fr_putObj _ _ _) (show ¬ gb = w.heap.size + 1 by omega)) (hJ.own.same fun k hk => World.putObj_heap_other (fun e => hnl (e ▸ hk))) ((World.putObj_heap_other (by omega)).trans hJ.rd) hnD ?_
      refine Fr.trans (S := (· = gb)) (S' := fun k => w.heap.size ≤ k ∨ k = gb) (Fr.of_below0 hb1) ((hF.mono fun k _ h => ?_).trans (fr_putObj W4 _ _) fun k _ h => ?_) fun k hk h => ?_
      · rcases h with h | h | h
        · exact .inr h
        · exact .inl (by omega)
        · exact .inl (by omega)
      · exact .inl (by have : k = w.heap.size + 1 := h; omega)
      · rcases h with h | h
        · omega
        · exact h
set_option maxRecDepth 100000 in
set_option maxHeartbeats 8000000 in
theorem pack_yes {w : World} {B g go c : Nat} {P : List UInt8} (hr : RdY w B (some ⟨g, go, none⟩) P) (hB : B ≤ w.heap.size) (hP : P.length = 4096) (hc : 4096 ≤ c) :
    Calls Try.prog 52 #[.slice (some ⟨g, go, none⟩) 4096 c] w fun e w' => ∃ A' c', e = .returned (.tuple #[.slice A' (packB P).length c', .bool true]) ∧ OwnY w' w.heap.size (.slice A' (packB P).length c') (packB P) ∧ Below w.heap.size w w' := by
  obtain ⟨m, -⟩ : ∃ m : Nat, m = m := ⟨0, rfl⟩
  refine (callsIn_wide (n := m)).1 ?_
  have HR := Lib.hid hr
  have HB := Lib.hid hB
  have HPl := Lib.hid hP
  have HC := Lib.hid hc
  have hgB : g < B := by obtain ⟨ad, e, h1, _⟩ := hr.at_ (k := 0) (by omega); injection e with e; subst e; exact h1
  have hmx : Try.prog.follows .mixedOrders = true := by kernel_rfl
  clear hr hB hP hc
  refine callsIn_of_wp_marks Try.func52 rfl trivial ?_ rfl
  simp only [Try.ntmps52, List.size_toArray, List.length_cons, List.length_nil, Nat.reduceAdd, Nat.reduceSub, Array.replicate_succ, Array.replicate_zero, List.push_toArray, List.append_toArray, List.nil_append, List.cons_append]
  gi_wp2_with fail
  refine ⟨trivial, wide_d, ?_⟩
  refine (callsIn_wide.2 (tokens_fn _ _ _ _)).mono ?_
  rintro e w1 ⟨rfl, rfl⟩
  gi_wp2_with fail
  obtain ⟨w3, hw3⟩ : ∃ w3, w3 = (w.alloc (.cells #[.slice none 0 0] 22)).alloc (.cells #[.slice (some ⟨g, go, none⟩) 4096 c] 22) := ⟨_, rfl⟩
  have hb3 : Below w.heap.size w w3 := by rw [hw3]; exact ((Below.refl _ _).alloc (Nat.le_refl _) _).alloc (by simp) _
  have hbo : Bk w3 w.heap.size 22 #[.slice none 0 0] := by rw [hw3]; exact (Bk.new _ _ _).alloc _
  have hbp : Bk w3 (w.heap.size + 1) 22 #[.slice (some ⟨g, go, none⟩) 4096 c] := by rw [hw3]; exact Bk.new_at _ _ _ (by simp)
  have hz3 : w3.heap.size = w.heap.size + 2 := by rw [hw3]; simp
  have HB3 := Lib.hid hb3
  have hBz := HB.out
  rw [← hw3]
  clear hw3
  refine range_pk (gb := w.heap.size) (bp := w.heap.size + 1) (P := P) rfl rfl hbo hbp (HR.out.below' hb3 HB.out) (by omega) HPl.out HC.out ⟨by omega, by omega⟩ (by omega) ?round ?done
  case round =>
    intro l bo W o v A2 c2 lit n d R hbo0 hl1 hl2 hW hbox hown hol hrd hA2l hmt hvl hgbz hbeg hend
    have HBo := Lib.hid hbo0
    clear hbo0
    have HBeg := Lib.hid hbeg
    have HEnd := Lib.hid hend
    have HBox := Lib.hid hbox
    have HOwn := Lib.hid hown
    have HRd := Lib.hid hrd
    have HMt := Lib.hid hmt
    have HVl := Lib.hid hvl
    have HAl := Lib.hid hA2l
    clear hbeg hend hbox hown hrd hmt hvl hA2l
    gi_wp2
    obtain ⟨Wa, hWa⟩ : ∃ Wa, Wa = W.alloc (.cells #[.slice A2 lit.length c2, .int .i64 n, .int .i64 d] 24) := ⟨_, rfl⟩
    have hbA : Below W.heap.size W Wa := by rw [hWa]; exact (Below.refl _ _).alloc (Nat.le_refl _) _
    have htA : Bk Wa W.heap.size 24 #[.slice A2 lit.length c2, .int .i64 n, .int .i64 d] := by rw [hWa]; exact Bk.new _ _ _
    rw [← hWa]
    refine ⟨_, HBeg.out _ hbA, ?_⟩
    obtain ⟨Wb, hWb⟩ : ∃ Wb, Wb = Wa.putObj l bo := ⟨_, rfl⟩
    have hFb : Fr (· = l) Wa Wb := by rw [hWb]; exact fr_putObj _ _ _
    have hlb : Wb.heap[l]? = some bo := by rw [hWb]; exact World.putObj_heap_same (Nat.lt_of_lt_of_le hl1 hbA.size)
    rw [← hWb]
    have htB : Bk Wb W.heap.size 24 _ := htA.fr hFb (show ¬ W.heap.size = l by omega)
    have hoB : Bk Wb w.heap.size 22 #[v] := (HBox.out.below' hbA).fr hFb (show ¬ w.heap.size = l by omega)
    have hwB : OwnY Wb w3.heap.size v o := (HOwn.out.below hbA).same fun k hk => hFb.block k ((HOwn.out.below hbA).lt hk).2 (fun e => HVl.out (e ▸ hk))
    have hrB : RdY Wb W.heap.size A2 lit := Rd.fr (HRd.out.below hbA) hFb hbA.size (fun ad e h0 e2 => HAl.out ad e (by simpa using h0) e2)
    have hzb : W.heap.size < Wb.heap.size := htB.lt
    have HP := Lib.hid (tPut1 (c2 := c2) hrB (Nat.le_of_lt hzb) HMt.out)
    have HFWb : Hid (Fr (fun k => k = l ∨ k = w.heap.size ∨ v.ownBlock = some k) W Wb) := (Fr.of_below0 hbA).trans hFb fun k _ h => .inl h
    obtain ⟨pt, hpt⟩ : ∃ pt, putT lit n.toNat d.toNat = pt := ⟨_, rfl⟩
    have hptl : pt.length ≤ 129 := by
      rw [← hpt]
      have := put_len (t := ⟨A2, c2, lit, n, d⟩) HMt.out
      exact this
    rw [hpt] at HP HEnd
    obtain ⟨Ao, co, rfl⟩ := hwB.form
    have k0 : Wb.cell? ⟨W.heap.size, 0, none⟩ = some (.slice A2 lit.length c2) := htB.cell 0
    have k1 : Wb.cell? ⟨W.heap.size, 1, none⟩ = some (.int .i64 n) := htB.cell 1
    have k2 : Wb.cell? ⟨W.heap.size, 2, none⟩ = some (.int .i64 d) := htB.cell 2
    have HoB := Lib.hid hoB
    have HwB := Lib.hid hwB
    have Hlb := Lib.hid hlb
    clear hWa hWb hbA htA hFb hoB hwB hrB hlb htB hpt HBeg HBox HOwn HRd HMt HVl HAl hbo hbp
    gi_wp2_with fail
    refine ⟨trivial, rfl, ?_⟩
    refine (CallsIn.inRound l (callsIn_wide.2 HP.out)).mono ?_
    rintro e Wc ⟨A3, c3, rfl, hO3, hB3⟩
    obtain ⟨i0, hi0, hz0, hz1, hz2⟩ := info_parts u8_info
    have HoC := Lib.hid (HoB.out.below' hB3)
    have HwC : Hid (Wc.ownsRow w3.heap.size 5 1 (.slice Ao o.length co) o.length (o.map bv)) := HwB.out.below hB3
    have HR3 := Lib.hid (OwnY.rd hO3)
    have HL3 : Hid (pt.length = (pt.map bv).length) := by show _ = _; rw [List.length_map]
    have H63 : Hid (o.length + (pt.map bv).length ≤ maxLen) := by show _ ≤ _; rw [List.length_map]; unfold maxLen; omega
    have HBy : Hid ((o.length + (pt.map bv).length) * 1 ≤ 140737488355328) := by show _ ≤ _; rw [List.length_map]; omega
    have hzc : Wb.heap.size ≤ Wc.heap.size := hB3.size
    have HBs : Hid (w3.heap.size ≤ Wc.heap.size) := by show _ ≤ _; omega
    have h1 := Lib.hid (oneY pt)
    have hx0 : Wc.cell? ⟨w.heap.size, 0, none⟩ = some (.slice Ao o.length co) := HoC.out.cell 0
    have HlC : Hid (Wc.heap[l]? = some bo) := (hB3.block l (by omega)).trans Hlb.out
    have HFc : Hid (Fr (fun k => k = l ∨ k = w.heap.size ∨ (Value.slice Ao o.length co).ownBlock = some k) W Wc) := HFWb.out.trans (Fr.of_below0 hB3) fun _ _ h => h
    have Hnb : Hid (∀ k, (Value.slice Ao o.length co).ownBlock = some k → k ≠ w.heap.size ∧ k ≠ l) := fun k hk => ⟨fun e => owns_ne HwC.out HoC.out (by decide) (e ▸ hk), fun e => by
      subst e
      have h2 := World.ownsRow.lt HwB.out k hk
      rcases HwB.out.2 with ⟨h3, _⟩ | ⟨g', cap, cur, h3, _, hh, _⟩
      · rw [h3] at hk; simp [Value.ownBlock] at hk
      · rw [h3] at hk
        have : g' = k := by simpa [Value.ownBlock] using hk
        subst this
        have hbo := Hlb.out
        rw [hh] at hbo
        injection hbo with hbo
        exact HBo.out _ _ _ hbo.symm⟩
    clear hO3 hB3 HP k0 k1 k2 HoB
    gi_wp2_with (gi_at_builtin; refine wpListIn_append_rd (fun _ => trivial) rfl (.tmp 20) (.tmp 21) 22 rfl w3.heap.size 5 i0 (.int .u8 0) 1 Try.underlying22 hi0 hz0 hz1 hz2 rfl (.slice Ao o.length co) o.length _ rfl HwC.out _ A3 pt.length c3 _ rfl HL3.out HR3.out h1.out H63.out HBy.out HBs.out ?_; intro v5 w5 hown hg hat; have hx5 : Bk w5 w.heap.size 22 #[.slice Ao o.length co] := HoC.out.grown hg (fun e => (Hnb.out _ e.symm).1 rfl); have hc5 : w5.cell? ⟨w.heap.size, 0, none⟩ = some (.slice Ao o.length co) := hx5.cell 0; have hf5 : w5.frozen? ⟨w.heap.size, 0, none⟩ = false := hx5.free 0; have hO5 : OwnY w5 w3.heap.size v5 (o ++ pt) := own_app (by simp) hown; obtain ⟨A5, c5, rfl⟩ := hO5.form)
    have hF5 : Fr (fun k => k = l ∨ k = w.heap.size ∨ (Value.slice Ao o.length co).ownBlock = some k) W w5 := HFc.out.grown hg fun k hk _ => .inr (.inr hk)
    have hl5 : w5.heap[l]? = some bo := (hg.block l (by omega) (fun e => (Hnb.out _ e.symm).2 rfl)).trans HlC.out
    rw [show (o ++ pt).length = o.length + pt.length from List.length_append] at hO5 hat
    have hno5 : ∀ k, (Value.slice A5 (o.length + pt.length) c5).ownBlock = some k → k ≠ w.heap.size := fun k hk e => owns_ne hO5 hx5 (by decide) (e ▸ hk)
    exact HEnd.out _ _ (hF5.set ⟨w.heap.size, 0, none⟩ _ fun _ => .inr (.inl rfl)) ((Below.heap_setCell _ _ _ _ (fun e => by have e : l = w.heap.size := e; omega)).trans hl5) (hx5.set 0 _) (hO5.same fun k hk => Below.heap_setCell _ _ _ _ (hno5 k hk)) (fun k hk => by
      rcases hat with h | h
      · exact .inl (h ▸ hk)
      · rw [h] at hk
        injection hk with hk
        exact .inr (by omega))
  case done =>
    intro W4 v hbox hown hD hvD hF
    rw [hz3] at hD hvD
    have hR4 : RdY W4 B (some ⟨g, go, none⟩) P := Rd.fr (HR.out.below' hb3 HB.out) hF (by omega) (fun ad e _ h => by injection e with e; subst e; have : g = w.heap.size := h; omega)
    obtain ⟨Ao, co, rfl⟩ := hown.form
    have hc0 : W4.cell? ⟨w.heap.size, 0, none⟩ = some (.slice Ao (putAll (packT P 0 0)).length co) := hbox.cell 0
    have hB4 : Below w.heap.size w W4 := HB3.out.trans (hF.below (by omega) fun k hk h => by have : k = w.heap.size := h; omega)
    have HPl4 := Lib.hid (plain_any hR4 (Nat.le_trans HB.out hB4.size) HPl.out HC.out)
    have HB4 := Lib.hid hB4
    have HD := Lib.hid hD
    have hpk := pack_len (plays_pack (P := P) (by rw [HPl.out]; exact Nat.le_refl _) (Nat.le_refl 0) (Nat.zero_le _))
    rw [HPl.out] at hpk
    have hD4 : w.heap.size + 2 < W4.heap.size := (Array.getElem?_eq_some_iff.1 hD).1
    rcases Nat.lt_or_ge 4128 (putAll (packT P 0 0)).length with hlt | hge
    · have hli : (4128 : Int) < ((putAll (packT P 0 0)).length : Int) := by omega
      have HE : Hid (packB P = putAll (litT P)) := by show _ = _; unfold packB; rw [if_pos hlt]
      clear hbox hown hR4 hB4
      gi_wp2_with fail
      refine ⟨trivial, wide_d, ?_⟩
      refine (callsIn_wide.2 HPl4.out).mono ?_
      rintro e W5 ⟨A5, c5, rfl, hO5, hB5⟩
      gi_wp2
      have hK5 : W5.heap[w.heap.size + 2]? = some (.deferred (some [])) := (hB5.block _ hD4).trans HD.out
      refine ⟨by simp, .inl ⟨_, _, rfl, run_takeDeferred hK5, ?_⟩⟩
      refine ⟨_, results_tmp2 rfl _ _ _, A5, c5, by rw [HE.out]; rfl, ?_, ?_⟩
      · rw [HE.out]
        exact OwnY.same (OwnY.weaken hO5 HB4.out.size) fun k hk => World.putObj_heap_other (fun e => by have := (hO5.lt hk).1; omega)
      · exact (HB4.out.trans (hB5.mono HB4.out.size)).trans ((fr_putObj W5 _ _).below (HB4.out.trans (hB5.mono HB4.out.size)).size fun k hk h => by have : k = w.heap.size + 2 := h; omega)
    · have hli : ¬ (4128 : Int) < ((putAll (packT P 0 0)).length : Int) := by omega
      have HE : Hid (packB P = putAll (packT P 0 0)) := by show _ = _; unfold packB; rw [if_neg (by omega)]
      have HO := Lib.hid hown
      clear hbox hown hR4 hB4
      gi_wp2
      refine ⟨by simp, .inl ⟨_, _, rfl, run_takeDeferred HD.out, ?_⟩⟩
      refine ⟨_, results_tmp2 rfl _ _ _, Ao, co, by rw [HE.out]; rfl, ?_, ?_⟩
      · rw [HE.out]
        exact OwnY.same (OwnY.weaken HO.out (by omega)) fun k hk => World.putObj_heap_other (fun e => hvD (e ▸ hk))
      · exact HB4.out.trans ((fr_putObj W4 _ _).below HB4.out.size fun k hk h => by have : k = w.heap.size + 2 := h; omega)
end Go.Proofs.YtckdellcnoojaaaRRR
