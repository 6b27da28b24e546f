/- Squeeze: the tokens of a page, told to whatever takes them: flush. -/
import Derived.Test.YtckdellcnoojaaaRRRSqE
import Derived.Test.YtckdellcnoojaaaRRRGyTail
import Derived.RangeFuncNested
import Derived.RangeFuncBound
import Derived.RangeFuncCalls
import Derived.RangeFuncLeaves
import Derived.Shelf.Abstract
import Derived.Shelf.RegionOpen
import Derived.OwnWalkIn
import Derived.TacticsInMore
import Derived.LoopNIn
import Derived.LoopIn
namespace Go.Proofs.YtckdellcnoojaaaRRR
open Go.RowKit Go.Shelf
attribute [local go_sem] Oper.semAt_some

/-- What a loop's rounds keep: the bytes so far, the loop's own blocks. -/
structure KeepJ (J : List UInt8 → (Nat → Prop) → World → Prop) : Prop where
  lt : ∀ o R W, J o R W → ∀ k, R k → k < W.heap.size
  fr : ∀ o R W W' T, J o R W → Fr T W W' → (∀ k, T k → ¬ R k) → J o R W'
/-- A round takes a token. -/
def YldAt (l : Nat) (J : List UInt8 → (Nat → Prop) → World → Prop) : Prop :=
  ∀ o R W A2 c2 lit (n d : Int), J o R W → o.length ≤ 8192 → RdY W W.heap.size A2 lit → mayT lit.length n d = true →
    YieldAt Fence.wide 0 Try.prog l #[.agg #[.slice A2 lit.length c2, .int .i64 n, .int .i64 d]] W fun e W' =>
      e = .returned (.bool true) ∧ ∃ R', J (o ++ putT lit n.toNat d.toNat) R' W' ∧ Fr R W W' ∧ ∀ k, R' k → R k ∨ W.heap.size ≤ k
theorem round_wide {n m l f : Nat} {tmps : Array Value} {assign body : Code} {w : World} {Q : Ending → World → Prop} (h : RoundIn Fence.wide n Try.prog l f tmps assign body w Q) : RoundIn Fence.wide m Try.prog l f tmps assign body w Q :=
  ⟨h.1, fun c cs _ => h.2 c cs (room_wide _)⟩

theorem pack_len {L : List Tk} {cur fin : List UInt8} (h : Plays L cur fin) : (putAll L).length + 2 * cur.length ≤ 2 * fin.length := by
  induction L generalizing cur with
  | nil => rw [show cur = fin from h]; simp [putAll]
  | cons t r ih =>
    obtain ⟨h1, h2, h3⟩ := h
    have := ih h3
    have hp := mayT_pos h1
    have hc := mayT_copy (n := t.n) (d := t.d)
    rw [growL_len, List.length_append] at this
    rw [putAll_cons, List.length_append]
    have ht : t.put.length ≤ 2 * (t.b.length + t.n.toNat) := by
      unfold Tk.put putT
      split
      · rw [List.length_cons]; omega
      · have h0 : t.b.length = 0 := by omega
        have hm : mayT t.b.length t.n t.d = true := h1
        rw [h0] at hm
        have := hc hm
        simp
        omega
    omega

set_option maxRecDepth 100000 in
set_option maxHeartbeats 4000000 in
theorem flush_in {J : List UInt8 → (Nat → Prop) → World → Prop} (HK : KeepJ J) {l : Nat} (hY : YldAt l J) {W : World} {o0 : List UInt8} {R0 : Nat → Prop} {bf by_ bp g go c B f te m : Nat} {P : List UInt8}
    (hf : Bk W bf 3 #[.int .i64 f]) (hy : Bk W by_ 25 #[.func (.yield l) #[] #[]]) (hp : Bk W bp 22 #[.slice (some ⟨g, go, none⟩) 4096 c])
    (hr : RdY W B (some ⟨g, go, none⟩) P) (hB : B ≤ W.heap.size) (hP : P.length = 4096) (hc : 4096 ≤ c) (hX : ∀ k, k = bf ∨ k = by_ ∨ k = bp ∨ k = g → ¬ R0 k) (hgb : g ≠ bf) (hft : f ≤ te) (hto : te ≤ 4096)
    (h0 : J o0 R0 W) (hlen : (o0 ++ putAll (litT ((P.take te).drop f))).length ≤ 8192) :
    CallsIn Fence.wide m Try.prog 70 #[.int .i64 te, .pointer (some ⟨bf, 0, none⟩), .pointer (some ⟨by_, 0, none⟩), .pointer (some ⟨bp, 0, none⟩)] W fun e W' =>
      e = .returned (.bool true) ∧ ∃ R', J (o0 ++ putAll (litT ((P.take te).drop f))) R' W' ∧ Bk W' bf 3 #[.int .i64 te] ∧ Fr (fun k => R0 k ∨ k = bf) W W' ∧ ∀ k, R' k → R0 k ∨ W.heap.size ≤ k := by
  obtain ⟨T, hT⟩ : ∃ T, T = o0 ++ putAll (litT ((P.take te).drop f)) := ⟨_, rfl⟩
  rw [← hT] at hlen ⊢
  have HT := Lib.hid hT
  have hfy := hf.ne hy (by decide)
  have hfp := hf.ne hp (by decide)
  have HF := Lib.hid hf
  have HYb := Lib.hid hy
  have HPb := Lib.hid hp
  have HR := Lib.hid hr
  have HB := Lib.hid hB
  have HPl := Lib.hid hP
  have HX := Lib.hid hX
  have H0 := Lib.hid h0
  have HYd := Lib.hid hY
  have hmx : Try.prog.follows .mixedOrders = true := by kernel_rfl
  clear hT hf hy hp hr hB hP hX h0 hY
  refine callsIn_of_wp Try.func70 rfl trivial ?_ rfl
  simp only [Try.ntmps70, List.size_toArray, List.length_cons, List.length_nil, Nat.reduceAdd, Nat.reduceSub, Array.replicate_succ, Array.replicate_zero, List.push_toArray, List.append_toArray, List.nil_append, List.cons_append]
  gi_wp2
  gi_loopw [] (fun wr => ∃ (f' : Nat) (o' : List UInt8) (R' : Nat → Prop), f' ≤ te ∧ J o' R' wr ∧ Hid (o' ++ putAll (litT ((P.take te).drop f')) = T) ∧ Bk wr bf 3 #[.int .i64 f'] ∧ Fr (fun k => R0 k ∨ k = bf) W wr ∧ (∀ k, R' k → R0 k ∨ W.heap.size ≤ k)) (fun wr => te - (intOf ((wr.cell? ⟨bf, 0, none⟩).getD undef)).toNat)
  case atStart => exact ⟨f, o0, R0, hft, H0.out, HT.out.symm, HF.out, Fr.refl _ _, fun k hk => .inl hk⟩
  case round =>
    obtain ⟨f', o', R', hf', hJ, HTo, hbf, hFr, hR'⟩ := hrel
    have hXw : ∀ k, k = by_ ∨ k = bp ∨ k = g → k < W.heap.size → ¬ (R0 k ∨ k = bf) := fun k hk hlt e => by
      rcases e with e | e
      · exact HX.out k (by rcases hk with h | h | h <;> simp [h]) e
      · rcases hk with h | h | h
        · exact hfy (e.symm.trans h)
        · exact hfp (e.symm.trans h)
        · exact hgb (h.symm.trans e)
    have hby : Bk wr by_ _ _ := HYb.out.fr hFr (hXw _ (.inl rfl) HYb.out.lt)
    have hbp : Bk wr bp _ _ := HPb.out.fr hFr (hXw _ (.inr (.inl rfl)) HPb.out.lt)
    have hgB : g < B := by obtain ⟨ad, e, h1, _⟩ := HR.out.at_ (k := 0) (by rw [HPl.out]; omega); injection e with e; subst e; exact h1
    have hRd : RdY wr B (some ⟨g, go, none⟩) P := Rd.fr HR.out hFr HB.out (fun ad e _ => by injection e with e; subst e; exact hXw g (.inr (.inr rfl)) (Nat.lt_of_lt_of_le hgB HB.out))
    have hc1 : wr.cell? ⟨bf, 0, none⟩ = some (.int .i64 f') := hbf.cell 0
    have hc2 : wr.cell? ⟨by_, 0, none⟩ = some (.func (.yield l) #[] #[]) := hby.cell 0
    have hc3 : wr.cell? ⟨bp, 0, none⟩ = some (.slice (some ⟨g, go, none⟩) 4096 c) := hbp.cell 0
    rcases Nat.lt_or_ge f' te with hlt | hge
    · obtain ⟨n, hn, hn0, hn2, hn3⟩ : ∃ n : Nat, n = min (te - f') 128 ∧ 0 < n ∧ n ≤ 128 ∧ f' + n ≤ te := ⟨_, rfl, by omega, by omega, by omega⟩
      have hli : (f' : Int) < (te : Int) := by omega
      obtain ⟨nI, hnI⟩ : ∃ nI : Int, nI = (n : Int) := ⟨_, rfl⟩
      have hsl := fun (Wx : World) => run_cutY (w := Wx) (b := g) (o := go) (n := 4096) (c := c) (lo := (f' : Int)) (hi := (f' : Int) + nI) (i := f') (k := n) rfl (by omega) (by omega) hn0
      have hll : ((P.drop f').take n).length = n := by rw [List.length_take, List.length_drop, HPl.out]; omega
      have hJ2 : J o' R' wr.drew := HK.fr _ _ _ _ _ hJ ((Fr.refl (fun _ => False) wr).drew) (fun _ h => h.elim)
      have hmt : mayT ((P.drop f').take n).length 0 0 = true := by rw [hll]; unfold mayT; rw [if_pos hn0]; simp; omega
      have ho' : o'.length ≤ 8192 := by
        have := congrArg List.length HTo.out
        rw [List.length_append] at this
        omega
      obtain ⟨fn, tmps, assign, body, hy, hR⟩ := HYd.out o' R' wr.drew (some ⟨g, go + f', none⟩) (c - f') ((P.drop f').take n) 0 0 hJ2 ho' ((hRd.cut f' n).more (Nat.le_trans HB.out hFr.size)) hmt
      rw [hll] at hy
      have HTn : Hid (litT ((P.take te).drop f') = tkL ((P.drop f').take n) :: litT ((P.take te).drop (f' + n))) := by
        show _ = _
        have h1 : ((P.take te).drop f').length = te - f' := by rw [List.length_drop, List.length_take, HPl.out]; omega
        rw [litT_cons (by omega), List.drop_drop]
        congr 1
        · congr 1
          rw [List.drop_take, List.take_take, hn, Nat.min_comm]
        · rcases Nat.lt_or_ge (te - f') 128 with h2 | h2
          · rw [List.drop_of_length_le (by rw [List.length_take, HPl.out]; omega), List.drop_of_length_le (by rw [List.length_take, HPl.out]; omega)]
          · rw [show n = 128 by omega]
      have hfr : wr.frozen? ⟨bf, 0, none⟩ = false := hbf.free 0
      have hni : nI ≤ 128 := by omega
      have hnp : (0 : Int) < nI := by omega
      have hfi : (f' : Int) ≤ 4096 := by omega
      have hti : (te : Int) ≤ 4096 := by omega
      have hmin : ((te : Int) - (f' : Int) = nI) ∨ (¬ (te : Int) - (f' : Int) ≤ 128 ∧ nI = 128) := by omega
      have e1 : IntKind.i64.wrap ((f' : Int) + nI) = (f' : Int) + nI := IntWalk.i64_in _ (by omega)
      have HNI := Lib.hid hnI
      have HRo := Lib.hid hR
      have HRR := Lib.hid hR'
      have HFr := Lib.hid hFr
      have HBf := Lib.hid hbf
      have hbR : Hid (¬ R' bf ∧ bf < W.heap.size) := ⟨fun h => by
        rcases hR' bf h with h1 | h1
        · exact HX.out bf (.inl rfl) h1
        · have := HF.out.lt; omega, HF.out.lt⟩
      have HTo2 : Hid ((o' ++ putT ((P.drop f').take n) 0 0) ++ putAll (litT ((P.take te).drop (f' + n))) = T) := by
        show _ = _
        rw [← HTo.out, HTn.out, putAll_cons, List.append_assoc]
        rfl
      clear hR hR' hFr hbf hby hbp hRd hJ hJ2 hXw hll hmt hn HTn hgB HTo hnI
      rcases hmin with hmn | ⟨hmn, rfl⟩
      all_goals
        gi_wp2
        refine wpIn_region_tail 8 hmx (by kernel_rfl) ?_
        simp only [List.take_succ_cons, List.take_zero, List.drop_succ_cons, List.drop_zero]
        repeat still_step
        refine wpStill_nil ?_
        change wpListIn _ _ _ _ _ _ _ wr.drew
        gi_wp2
        refine ⟨fun h => absurd h (by decide), (round_wide HRo.out).mono ?_⟩
        rintro e W3 ⟨rfl, R3, hJ3, hF3, hR3⟩
        have hbf3 : Bk W3 bf 3 #[.int .i64 f'] := (show Bk wr.drew bf _ _ from HBf.out).fr hF3 hbR.out.1
        have hbz : bf < wr.heap.size := HBf.out.lt
        have hc4 : W3.cell? ⟨bf, 0, none⟩ = some (.int .i64 f') := hbf3.cell 0
        have hf4 : W3.frozen? ⟨bf, 0, none⟩ = false := hbf3.free 0
        have HJ3 := Lib.hid hJ3
        have HF3 : Hid (Fr (fun k => R0 k ∨ k = bf) W W3) := (HFr.out.drew).trans hF3 fun k hk hr => by
          rcases HRR.out k hr with h | h
          · exact .inl h
          · omega
        have HR3 : Hid (∀ k, R3 k → R0 k ∨ W.heap.size ≤ k) := fun k hk => by
          rcases hR3 k hk with h | h
          · exact HRR.out k h
          · exact .inr (Nat.le_trans HFr.out.size h)
        have hb3R : Hid (¬ R3 bf) := fun h => by
          rcases hR3 bf h with h1 | h1
          · exact hbR.out.1 h1
          · exact absurd hbz (Nat.not_lt.2 h1)
        have HB3 := Lib.hid hbf3
        clear hJ3 hF3 hR3 hbf3 hc1 hc2 hc3 hfr hy hsl HRo
        have HBn : Hid (Bk (W3.setCell ⟨bf, 0, none⟩ (.int .i64 ((f' + n : Nat) : Int))) bf 3 #[.int .i64 ((f' + n : Nat) : Int)]) := HB3.out.set 0 _
        gi_wp2
        have hnn := HNI.out
        first
          | rw [show (f' : Int) + nI = ((f' + n : Nat) : Int) by omega]
          | rw [show (f' : Int) + 128 = ((f' + n : Nat) : Int) by omega]
        go_roundw
        case rel => exact ⟨f' + n, _, R3, by omega, HK.fr _ _ _ _ _ HJ3.out ((Fr.refl (· = bf) W3).set ⟨bf, 0, none⟩ _ fun _ => rfl) (fun k hk h => hb3R.out (hk ▸ h)), HTo2.out, HBn.out, HF3.out.set _ _ fun _ => .inr rfl, HR3.out⟩
        case measure =>
          have h1 : (W3.setCell ⟨bf, 0, none⟩ (.int .i64 ((f' + n : Nat) : Int))).cell? ⟨bf, 0, none⟩ = some (.int .i64 ((f' + n : Nat) : Int)) := HBn.out.cell 0
          have h2 : wr.cell? ⟨bf, 0, none⟩ = some (.int .i64 f') := HBf.out.cell 0
          rw [h1, h2]
          simp [intOf]
          omega
    · obtain rfl : f' = te := by omega
      have HRR := Lib.hid hR'
      have HJ := Lib.hid hJ
      have HE : Hid (o' = T) := by
        show _ = _
        have := HTo.out
        rw [List.drop_of_length_le (by rw [List.length_take]; omega), litT_nil] at this
        simpa [putAll] using this
      gi_wp2
      go_ret
      exact ⟨rfl, R', by rw [← HE.out]; exact HJ.out, hbf, hFr, HRR.out⟩
end Go.Proofs.YtckdellcnoojaaaRRR
