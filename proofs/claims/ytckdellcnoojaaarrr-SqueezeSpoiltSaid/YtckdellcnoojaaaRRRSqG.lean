/- Squeeze: the tokens of a page, told to whatever takes them. -/
import Derived.Test.YtckdellcnoojaaaRRRSqF
import Derived.Test.YtckdellcnoojaaaRRRMatE
namespace Go.Proofs.YtckdellcnoojaaaRRR
open Go.RowKit Go.Shelf
attribute [local go_sem] Oper.semAt_some

theorem FindAt.fr2 {w w' : World} {S : Nat → Prop} {base g gl : Nat} {v : Value} {b : List UInt8} (h : FindAt w base g gl v b) (hf : Fr S w w') (hS : ∀ k, k < w.heap.size → base ≤ k → k = g ∨ k = gl ∨ v.ownBlock = some k → ¬ S k) : FindAt w' base g gl v b :=
  ⟨h.top.fr hf (hS g h.top.lt h.bg (.inl rfl)), h.own.same fun k hk => hf.block k (h.own.lt hk).2 (hS k (h.own.lt hk).2 (h.own.lt hk).1 (.inr (.inr hk))), h.row.fr hf (hS gl h.row.lt h.bgl (.inr (.inl rfl))), h.bg, h.bgl, h.len⟩
theorem findI_at {P : List UInt8} {a : Nat} (ha : a < P.length) : findI P (a : Int) = findM P a := by
  unfold findI
  rw [if_pos (by omega)]
  rfl
theorem wide_d {m : Nat} : Fence.wide.depth.isSome = true → 1 ≤ m := fun h => absurd h (by decide)
theorem found_may {P : List UInt8} {a : Nat} (ha : a < 4096) (h : 3 < (findM P a).1) : mayT 0 ((findM P a).1 : Int) ((findM P a).2.1 : Int) = true := by
  rcases foundM P a with ⟨h4, _⟩ | ⟨_, p, hp, hd, hw, hw3⟩
  · rw [h4] at h; simp at h
  · have hw2 := withN_le P a p
    unfold mayT
    rw [if_neg (by omega)]
    simp only [Bool.and_eq_true, decide_eq_true_eq]
    omega
set_option maxRecDepth 100000 in
set_option maxHeartbeats 8000000 in
theorem iter_in {J : List UInt8 → (Nat → Prop) → World → Prop} (HK : KeepJ J) {l : Nat} (hY : YldAt l J) {W : World} {R0 : Nat → Prop} {bp g go c B m : Nat} {P : List UInt8}
    (hp : Bk W bp 22 #[.slice (some ⟨g, go, none⟩) 4096 c]) (hr : RdY W B (some ⟨g, go, none⟩) P) (hB : B ≤ W.heap.size) (hP : P.length = 4096) (hc : 4096 ≤ c) (hX : ∀ k, k = bp ∨ k = g → ¬ R0 k) (h0 : J [] R0 W) :
    CallsIn Fence.wide m Try.prog 69 #[.func (.yield l) #[] #[], .pointer (some ⟨bp, 0, none⟩)] W fun e W' =>
      (∃ v, e = .returned v) ∧ ∃ R', J (putAll (packT P 0 0)) R' W' ∧ Fr R0 W W' ∧ ∀ k, R' k → R0 k ∨ W.heap.size ≤ k := by
  obtain ⟨T, hT⟩ : ∃ T, T = putAll (packT P 0 0) := ⟨_, rfl⟩
  have hTl : T.length ≤ 8192 := by
    have := pack_len (plays_pack (P := P) (by omega) (Nat.le_refl 0) (Nat.zero_le _))
    rw [hT]
    omega
  rw [← hT]
  have HT := Lib.hid hT
  have HPb := Lib.hid hp
  have HR := Lib.hid hr
  have HB := Lib.hid hB
  have HPl := Lib.hid hP
  have HX := Lib.hid hX
  have H0 := Lib.hid h0
  have HYd := Lib.hid hY
  have HC := Lib.hid hc
  have hmx : Try.prog.follows .mixedOrders = true := by kernel_rfl
  have hgB : g < B := by obtain ⟨ad, e, h1, _⟩ := HR.out.at_ (k := 0) (by omega); injection e with e; subst e; exact h1
  have hgW : g < W.heap.size := Nat.lt_of_lt_of_le hgB hB
  have hbW : bp < W.heap.size := hp.lt
  obtain ⟨w1, hw1⟩ : ∃ w1, w1 = W.alloc (.cells #[.func (.yield l) #[] #[]] 25) := ⟨_, rfl⟩
  have hb1 : Below W.heap.size W w1 := by rw [hw1]; exact (Below.refl _ _).alloc (Nat.le_refl _) _
  have HYb : Hid (Bk w1 W.heap.size 25 #[.func (.yield l) #[] #[]]) := by show Bk _ _ _ _; rw [hw1]; exact Bk.new _ _ _
  have HP1 := Lib.hid (hp.below' hb1)
  have hcW : W.cell? ⟨bp, 0, none⟩ = some (.slice (some ⟨g, go, none⟩) 4096 c) := hp.cell 0
  have HN := fNew_any (c := c) (hr.below' hb1 hB) (Nat.le_trans hB hb1.size) (by omega) (by omega)
  rw [hP, show P.take 4096 = P from List.take_of_length_le (by omega)] at HN
  have HNh := Lib.hid HN
  clear HN
  have HW1 := Lib.hid hw1
  have HB1 := Lib.hid hb1
  clear hT hp hr hB hP hX h0 hY hc hb1 hw1
  refine callsIn_of_wp Try.func69 rfl trivial ?_ rfl
  simp only [Try.ntmps69, List.size_toArray, List.length_cons, List.length_nil, Nat.reduceAdd, Nat.reduceSub, Array.replicate_succ, Array.replicate_zero, List.push_toArray, List.append_toArray, List.nil_append, List.cons_append]
  gi_wp2_with fail
  rw [← HW1.out]
  refine ⟨trivial, wide_d, ?_⟩
  refine (callsIn_wide.2 HNh.out).mono ?_
  rintro e w2 ⟨gF, gL, v, rfl, hF2, hB2⟩
  obtain ⟨w3, hw3⟩ : ∃ w3, w3 = w2.alloc (.cells #[.int .i64 0] 3) := ⟨_, rfl⟩
  have HW3 := Lib.hid hw3
  have hb3 : Below w2.heap.size w2 w3 := by rw [hw3]; exact (Below.refl _ _).alloc (Nat.le_refl _) _
  have HB3 : Hid (Below W.heap.size W w3) := (HB1.out.trans (hB2.mono HB1.out.size)).trans (hb3.mono (HB1.out.trans (hB2.mono HB1.out.size)).size)
  have HBf : Hid (Bk w3 w2.heap.size 3 #[.int .i64 (0 : Nat)]) := by show Bk _ _ _ _; rw [hw3]; exact Bk.new _ _ _
  have HYb3 := Lib.hid ((HYb.out.below' hB2).below' hb3)
  have HP3 := Lib.hid ((HP1.out.below' hB2).below' hb3)
  have HF3 := Lib.hid (hF2.fr2 (Fr.of_below (S := fun k => w2.heap.size ≤ k) hb3 fun _ _ h => h) (fun k hk _ _ h => absurd hk (Nat.not_lt.2 h)))
  have HZ : Hid (W.heap.size < w1.heap.size ∧ w1.heap.size ≤ w2.heap.size ∧ w2.heap.size < w3.heap.size) := ⟨HYb.out.lt, hB2.size, HBf.out.lt⟩
  have HG : Hid (gF < w2.heap.size ∧ gL < w2.heap.size ∧ ∀ k, v.ownBlock = some k → k < w2.heap.size) := ⟨hF2.top.lt, hF2.row.lt, fun k hk => (hF2.own.lt hk).2⟩
  have HJ3 : Hid (J [] R0 w3) := HK.fr _ _ _ _ (fun k => W.heap.size ≤ k) H0.out (Fr.of_below HB3.out fun _ _ h => h) (fun k hk h => by have := HK.lt _ _ _ H0.out k h; omega)
  clear hF2 hB2 hb3 HYb HP1 HNh hw3
  gi_wp2_with fail
  rw [← HW3.out]
  have HLtR : Hid (∀ k, R0 k → k < W.heap.size) := HK.lt _ _ _ H0.out
  clear HW3 HW1 hcW
  generalize w2.heap.size = bf at *
  gi_loopw [6] (fun av wr => ∃ (a fr : Nat) (o : List UInt8) (R : Nat → Prop), a ≤ 4096 ∧ fr ≤ a ∧ av = .int .i64 a ∧ J o R wr ∧ Hid (o ++ putAll (packT P fr a) = T) ∧ Bk wr bf 3 #[.int .i64 fr] ∧ Fr (fun k => R0 k ∨ k = bf) w3 wr ∧ Hid (∀ k, R k → R0 k ∨ w3.heap.size ≤ k)) (fun av _ => 4096 - (intOf av).toNat)
  case atStart => exact ⟨0, 0, [], R0, Nat.zero_le _, Nat.le_refl _, rfl, HJ3.out, HT.out.symm, HBf.out, Fr.refl _ _, fun k hk => .inl hk⟩
  case round =>
    obtain ⟨a, fr, o, R, ha, hfr, rfl, hJ, HTo, hbf, hFr, HRR⟩ := hrel
    have hXw : ∀ k, k = W.heap.size ∨ k = bp ∨ k = g → ¬ (R0 k ∨ k = bf) := fun k hk e => by
      obtain ⟨z1, z2, z3⟩ := HZ.out
      rcases e with e | e
      · rcases hk with h | h | h
        · have := HLtR.out k e; omega
        · exact HX.out k (.inl h) e
        · exact HX.out k (.inr h) e
      · omega
    have hbp : Bk wr bp _ _ := HP3.out.fr hFr (hXw _ (.inr (.inl rfl)))
    have hyb : Bk wr W.heap.size _ _ := HYb3.out.fr hFr (hXw _ (.inl rfl))
    have hF : FindAt wr w1.heap.size gF gL v P := HF3.out.fr2 hFr fun k _ hk hk2 e => by
      obtain ⟨z1, z2, z3⟩ := HZ.out
      rcases e with e | e
      · have := HLtR.out k e; omega
      · obtain ⟨g1, g2, g3⟩ := HG.out
        rcases hk2 with h | h | h
        · omega
        · omega
        · have := g3 k h; omega
    have hRd : RdY wr B (some ⟨g, go, none⟩) P := Rd.fr (HR.out.below' HB3.out HB.out) hFr (Nat.le_trans HB.out HB3.out.size) (fun ad e _ => by injection e with e; subst e; exact hXw g (.inr (.inr rfl)))
    have hc1 : wr.cell? ⟨bp, 0, none⟩ = some (.slice (some ⟨g, go, none⟩) 4096 c) := hbp.cell 0
    have ho' : o.length ≤ 8192 := by
      have := congrArg List.length HTo.out
      rw [List.length_append] at this
      omega
    have HJ := Lib.hid hJ
    have HBf' := Lib.hid hbf
    have HFr := Lib.hid hFr
    have HYb' := Lib.hid hyb
    have HBp' := Lib.hid hbp
    have HF' := Lib.hid hF
    have HRd := Lib.hid hRd
    clear hJ hbf hFr hyb hbp hF hRd hXw
    rcases Nat.lt_or_ge a 4096 with hlt | hge
    · have hai : (a : Int) < 4096 := by omega
      have HFi := fFind_any HF'.out (a : Int)
      rw [findI_at (by rw [HPl.out]; exact hlt)] at HFi
      have HFd := Lib.hid HFi
      have hfl := find_le P (a := a) (by rw [HPl.out]; omega)
      rw [HPl.out] at hfl
      obtain ⟨n, hn⟩ : ∃ n, (findM P a).1 = n := ⟨_, rfl⟩
      obtain ⟨d, hd⟩ : ∃ d, (findM P a).2.1 = d := ⟨_, rfl⟩
      have hskip := fun h => packT_skip (P := P) (fr := fr) (a := a) (by rw [HPl.out]; exact hlt) h
      have hcopy := fun h => packT_copy (P := P) (fr := fr) (a := a) (by rw [HPl.out]; exact hlt) h
      have hmay := fun h => found_may (P := P) hlt h
      rw [hn, hd] at HFd hmay hcopy
      rw [hn] at hfl hskip
      have HSk := Lib.hid hskip
      have HCo := Lib.hid hcopy
      have HMa := Lib.hid hmay
      obtain ⟨hfl1, hfl2⟩ := hfl
      clear HFi hn hd hskip hcopy hmay
      gi_wp2_with fail
      refine ⟨trivial, wide_d, ?_⟩
      refine (callsIn_wide.2 HFd.out).mono ?_
      rintro e w4 ⟨rfl, q, rfl⟩
      rcases Nat.lt_or_ge 3 n with hn3 | hn3
      · have hni : ¬ (n : Int) ≤ 3 := by omega
        have HTc : Hid ((o ++ putAll (litT ((P.take a).drop fr))) ++ (putT [] n d ++ putAll (packT P (a + n) (a + n))) = T) := by
          show _ = _
          rw [← HTo.out, HCo.out hn3, putAll_app, putAll_cons, List.append_assoc]
          rfl
        have hR0 : ∀ k, k < w3.heap.size → (k = bf ∨ k = W.heap.size ∨ k = bp ∨ k = g) → ¬ R k := fun k hk hk2 h => by
          obtain ⟨z1, z2, z3⟩ := HZ.out
          rcases HRR.out k h with h1 | h1
          · rcases hk2 with h2 | h2 | h2 | h2
            · have := HLtR.out k h1; omega
            · have := HLtR.out k h1; omega
            · exact HX.out k (.inl h2) h1
            · exact HX.out k (.inr h2) h1
          · omega
        have hzz : W.heap.size < w3.heap.size ∧ bf < w3.heap.size ∧ W.heap.size < bf := by obtain ⟨z1, z2, z3⟩ := HZ.out; omega
        have hlo : (o ++ putAll (litT ((P.take a).drop fr))).length ≤ 8192 := by
          have := congrArg List.length HTc.out
          rw [List.length_append] at this
          omega
        have HFl := Lib.hid (fun mm => flush_in HK HYd.out (W := wr.drewN q) (m := mm) HBf'.out HYb'.out HBp'.out HRd.out (Nat.le_trans (Nat.le_trans HB.out HB3.out.size) HFr.out.size) HPl.out HC.out (fun k hk => hR0 k (by rcases hk with h | h | h | h <;> omega) hk) (by omega) hfr ha (HK.fr _ _ _ _ _ HJ.out ((Fr.refl (fun _ => False) wr).drewN q) (fun _ h => h.elim)) hlo)
        have HR0 := Lib.hid hR0
        have HZZ := Lib.hid hzz
        have HLo := Lib.hid hlo
        clear hR0 hzz hlo
        gi_wp2_with fail
        refine ⟨trivial, wide_d, ?_⟩
        refine (HFl.out _).mono ?_
        rintro e w5 ⟨rfl, R1, hJ5, hbf5, hF5, hR5⟩
        have hnR1 : ∀ k, k < w3.heap.size → (k = bf ∨ k = W.heap.size ∨ k = bp ∨ k = g) → ¬ R1 k := fun k hk hk2 h => by
          rcases hR5 k h with h1 | h1
          · exact HR0.out k hk hk2 h1
          · have h2 : wr.heap.size ≤ k := h1
            have := HFr.out.size
            omega
        have hyb5 : Bk w5 W.heap.size 25 _ := (show Bk (wr.drewN q) _ _ _ from HYb'.out).fr hF5 (fun h => by
          rcases h with h | h
          · exact HR0.out _ HZZ.out.1 (.inr (.inl rfl)) h
          · have := HZZ.out.2.2; omega)
        have hc5 : w5.cell? ⟨W.heap.size, 0, none⟩ = some (.func (.yield l) #[] #[]) := hyb5.cell 0
        obtain ⟨fn, tmps, assign, body, hy, hR⟩ := HYd.out _ R1 w5 none 0 [] n d hJ5 HLo.out (RdY.nil _ _ _) (HMa.out hn3)
        have hy : (Instr.yield l #[.agg #[.slice none 0 0, .int .i64 n, .int .i64 d]]).run Try.prog w5 = .ok (.round l fn tmps assign body) w5 := hy
        have HR1 := Lib.hid hR
        have HBf5 := Lib.hid hbf5
        have HnR1 := Lib.hid hnR1
        have HF5 : Hid (Fr (fun k => R0 k ∨ k = bf) w3 w5) := (HFr.out.drewN q).trans hF5 fun k hk h => by
          rcases h with h | h
          · rcases HRR.out k h with h1 | h1
            · exact .inl h1
            · omega
          · exact .inr h
        have HR5 : Hid (∀ k, R1 k → R0 k ∨ w3.heap.size ≤ k) := fun k hk => by
          rcases hR5 k hk with h | h
          · exact HRR.out k h
          · exact .inr (Nat.le_trans HFr.out.size h)
        clear hR hbf5 hF5 hR5 hnR1 hyb5 hJ5 HFl hc1
        gi_wp2_with fail
        refine ⟨fun h => absurd h (by decide), (round_wide HR1.out).mono ?_⟩
        rintro e w6 ⟨rfl, R2, hJ6, hF6, hR6⟩
        have hbf6 : Bk w6 bf 3 #[.int .i64 a] := HBf5.out.fr hF6 (HnR1.out _ HZZ.out.2.1 (.inl rfl))
        have hc6 : w6.cell? ⟨bf, 0, none⟩ = some (.int .i64 a) := hbf6.cell 0
        have hf6 : w6.frozen? ⟨bf, 0, none⟩ = false := hbf6.free 0
        have HF6 : Hid (Fr (fun k => R0 k ∨ k = bf) w3 w6) := HF5.out.trans hF6 fun k hk h => by
          rcases HR5.out k h with h1 | h1
          · exact .inl h1
          · omega
        have HR6 : Hid (∀ k, R2 k → R0 k ∨ w3.heap.size ≤ k) := fun k hk => by
          rcases hR6 k hk with h | h
          · exact HR5.out k h
          · exact .inr (Nat.le_trans HF5.out.size h)
        have HnR2 : Hid (¬ R2 bf) := fun h => by
          rcases hR6 bf h with h1 | h1
          · exact HnR1.out bf HZZ.out.2.1 (.inl rfl) h1
          · have h2 := HF5.out.size
            have := HZZ.out.2.1
            omega
        have HJ6 := Lib.hid hJ6
        have HB6 := Lib.hid hbf6
        have han : (a : Int) + (n : Int) ≤ 4096 := by omega
        clear hJ6 hF6 hR6 hbf6 hy hc5 HR1
        gi_wp2
        have HBn : Bk (w6.setCell ⟨bf, 0, none⟩ (.int .i64 ((a : Int) + (n : Int)))) bf 3 #[.int .i64 ((a : Int) + (n : Int))] := HB6.out.set 0 _
        go_roundw
        case rel => exact ⟨a + n, a + n, _, R2, by omega, Nat.le_refl _, by go_num, HK.fr _ _ _ _ _ HJ6.out ((Fr.refl (· = bf) w6).set ⟨bf, 0, none⟩ _ fun _ => rfl) (fun k hk h => HnR2.out (hk ▸ h)), by show _ = _; rw [← HTc.out, ← List.append_assoc]; rfl, HBn, HF6.out.set _ _ fun _ => .inr rfl, HR6.out⟩
        case measure => simp [intOf]; omega
      · have hni : (n : Int) ≤ 3 := by omega
        gi_wp2
        go_roundw
        case rel => exact ⟨a + 1, fr, o, R, by omega, by omega, by go_num, HK.fr _ _ _ _ _ HJ.out ((Fr.refl (fun _ => False) wr).drewN q) (fun _ h => h.elim), by show _ = _; rw [← HSk.out hn3]; exact HTo.out, HBf'.out, HFr.out.drewN q, HRR⟩
        case measure => simp [intOf]; omega
    · obtain rfl : a = 4096 := by omega
      have HTe : Hid (o ++ putAll (litT ((P.take 4096).drop fr)) = T) := by
        show _ = _
        rw [← HTo.out, packT_end (by rw [HPl.out]; exact Nat.le_refl _), List.take_of_length_le (by rw [HPl.out]; exact Nat.le_refl _)]
      have hR0 : ∀ k, k < w3.heap.size → (k = bf ∨ k = W.heap.size ∨ k = bp ∨ k = g) → ¬ R k := fun k hk hk2 h => by
        obtain ⟨z1, z2, z3⟩ := HZ.out
        rcases HRR.out k h with h1 | h1
        · rcases hk2 with h2 | h2 | h2 | h2
          · have := HLtR.out k h1; omega
          · have := HLtR.out k h1; omega
          · exact HX.out k (.inl h2) h1
          · exact HX.out k (.inr h2) h1
        · omega
      have hzz : W.heap.size < w3.heap.size ∧ bf < w3.heap.size ∧ W.heap.size < bf := by obtain ⟨z1, z2, z3⟩ := HZ.out; omega
      have HFl := Lib.hid (fun mm => flush_in HK HYd.out (W := wr) (m := mm) HBf'.out HYb'.out HBp'.out HRd.out (Nat.le_trans (Nat.le_trans HB.out HB3.out.size) HFr.out.size) HPl.out HC.out (fun k hk => hR0 k (by rcases hk with h | h | h | h <;> omega) hk) (by omega) hfr (Nat.le_refl _) HJ.out (by rw [HTe.out]; exact hTl))
      have HLt := HLtR.out
      have HZZ := Lib.hid hzz
      clear hR0 hzz
      gi_wp2_with fail
      refine ⟨trivial, wide_d, ?_⟩
      refine (HFl.out _).mono ?_
      rintro e w5 ⟨rfl, R1, hJ5, -, hF5, hR5⟩
      rw [HTe.out] at hJ5
      gi_wp2
      go_end0
      have hF35 : Fr (fun k => R0 k ∨ k = bf) w3 w5 := HFr.out.trans hF5 fun k hk h => by
        rcases h with h | h
        · rcases HRR.out k h with h1 | h1
          · exact .inl h1
          · omega
        · exact .inr h
      have hzW : W.heap.size ≤ w3.heap.size := HB3.out.size
      refine ⟨⟨_, rfl⟩, R1, hJ5, ((Fr.of_below0 HB3.out).trans hF35 fun k hk h => ?_), fun k hk => ?_⟩
      · rcases h with h | h
        · exact h
        · have := HZZ.out.2.2; omega
      · rcases hR5 k hk with h | h
        · rcases HRR.out k h with h1 | h1
          · exact .inl h1
          · exact .inr (by omega)
        · have := HFr.out.size
          exact .inr (by omega)
end Go.Proofs.YtckdellcnoojaaaRRR
