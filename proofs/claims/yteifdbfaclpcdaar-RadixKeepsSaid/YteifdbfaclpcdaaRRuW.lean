/- The walk of gunnylaw04.RadixPlays. -/
import Derived.Test.YteifdbfaclpcdaaRRuV
import Derived.Test.YteifdbfaclpcdaaRRuDd
namespace Go.Proofs.YteifdbfaclpcdaaR.Ru
open Go.RowKit
section
variable {w0 w w' : World} {g n : Nat} {f f' : Nat → Option Value} {v : Value} {L : Ks}
set_option maxRecDepth 100000 in
theorem rGetNil (w : World) (key : Int) : Calls Try.prog 43 #[.pointer none, .int .i64 key] w fun e w' => e = .returned (.tuple #[.int .u64 0, .bool false]) ∧ Below w.heap.size w w' := by
  go_enter Try.func43, Try.ntmps43
  go_wp2_with fail
  refine (rPathNone w key).mono ?_
  rintro e w1 ⟨rfl, hB⟩
  have HB := Lib.hid hB
  clear hB
  go_wp2_with fail
  go_returns
  exact ⟨rfl, HB.out.trans (((Below.refl _ _).alloc (Nat.le_refl _) _).mono HB.out.size)⟩
theorem rLenNil (w : World) : Calls Try.prog 44 #[.pointer none] w fun e w' => e = .returned (.int .i64 0) ∧ w = w' := by
  go_enter Try.func44, Try.ntmps44
  go_wp2_with fail
  go_ret
  exact ⟨rfl, rfl⟩
theorem rNodesNil (w : World) : Calls Try.prog 45 #[.pointer none] w fun e w' => e = .returned (.int .i64 0) ∧ w = w' := by
  go_enter Try.func45, Try.ntmps45
  go_wp2_with fail
  go_ret
  exact ⟨rfl, rfl⟩
theorem Both.val (h : Both w0 w g f n v L f') (key : Int) : ∃ y : Int, (getF f key).getD vZero = .int .u64 y := by
  obtain ⟨ex, nd, hT⟩ := h.tr
  unfold getF
  split
  · cases hf : f key.toNat with
    | none => exact ⟨0, rfl⟩
    | some u =>
      obtain ⟨y, rfl⟩ := hT.ok _ _ hf
      exact ⟨y, rfl⟩
  · exact ⟨0, rfl⟩

set_option maxRecDepth 100000 in
set_option maxHeartbeats 4000000 in
theorem rplays_great (w : World) (A : Option Addr) (c n : Nat) (x : Value) (hl : 100 < n) (_hn : n ≤ 9223372036854775807) :
    Calls Try.prog 10 #[.slice A n c, x] w fun e w' => e = .returned (.bool true) ∧ Below w.heap.size w w' := by
  have hli : (100 : Int) < n := by omega
  go_enter Try.func10, Try.ntmps10
  go_wp2_with fail
  refine (fromNil _ _ _).mono ?_
  rintro e w1 ⟨rfl, hB1⟩
  have HB1 := Lib.hid hB1
  clear hB1
  go_wp2_with fail
  refine (rGetNil _ _).mono ?_
  rintro e w2 ⟨rfl, hB2⟩
  have HB2 := Lib.hid (HB1.out.trans (hB2.mono HB1.out.size))
  clear hB2
  go_wp2_with (first
    | (go_at_call 27; refine (rSetNo _ none 1 (.inl rfl)).mono ?_; rintro e w3 ⟨rfl, hB3⟩; have HB3 := Lib.hid (HB2.out.trans (hB3.mono HB2.out.size)); clear hB3)
    | (go_at_call 44; refine (rLenNil _).mono ?_; rintro e w4 ⟨rfl, rfl⟩)
    | (go_at_call 45; refine (rNodesNil _).mono ?_; rintro e w4 ⟨rfl, rfl⟩)
    | (go_at_call 25; refine (rxLives _).mono ?_; rintro x w7 ⟨rfl, hB7⟩))
  go_ret
  exact ⟨rfl, HB3.out.trans (hB7.mono HB3.out.size)⟩
set_option maxRecDepth 100000 in
set_option maxHeartbeats 4000000 in
theorem rplays_any (w : World) (A : Option Addr) (c : Nat) (l : List Dd) (hA : DdsAt w w.heap.size A l) (hl : l.length ≤ 100) (start : Int) :
    Calls Try.prog 10 #[.slice A l.length c, .int .i64 start] w fun e w' => e = .returned (.bool true) ∧ Below w.heap.size w w' := by
  have HA := Lib.hid hA
  clear hA
  go_enter Try.func10, Try.ntmps10
  go_wp2_with fail
  refine (fromNil _ _ _).mono ?_
  rintro e w1 ⟨rfl, hB1⟩
  have HB1 := Lib.hid hB1
  clear hB1
  go_wp2_with fail
  refine (rGetNil _ _).mono ?_
  rintro e w2 ⟨rfl, hB2⟩
  have HB2 := Lib.hid (HB1.out.trans (hB2.mono HB1.out.size))
  clear hB2
  go_wp2_with (first
    | (go_at_call 27; refine (rSetNo _ none 1 (.inl rfl)).mono ?_; rintro e w3 ⟨rfl, hB3⟩; have HB3 := Lib.hid (HB2.out.trans (hB3.mono HB2.out.size)); clear hB3)
    | (go_at_call 44; refine (rLenNil _).mono ?_; rintro e w4 ⟨rfl, rfl⟩)
    | (go_at_call 45; refine (rNodesNil _).mono ?_; rintro e w4 ⟨rfl, rfl⟩)
    | (go_at_call 26; refine (bNew _).mono ?_; rintro e w5 ⟨g, rfl, h5⟩; have H5 := Lib.hid h5; clear h5))
  have HAw := Lib.hid (HA.out.below HB3.out)
  go_loopw [11, 12] (fun x11 i wr => ∃ (k : Nat) (f : Nat → Option Value) (L : Ks) (A' : Option Addr) (c' : Nat), k ≤ l.length ∧ L.length ≤ k ∧ i = .int .i64 k ∧ x11 = .slice A' L.length c' ∧ Both w3 wr g f L.length (.slice A' L.length c') L f) (fun _ i _ => l.length - (intOf i).toNat)
  case atStart => exact ⟨0, _, [], none, 0, Nat.zero_le _, Nat.le_refl _, rfl, rfl, H5.out⟩
  case round =>
    clear H5
    obtain ⟨k, f, L, A', c', hk, hLk, rfl, rfl, hR⟩ := hrel
    have hsz := hR.below.size
    have hsz3 := HB3.out.size
    rcases Nat.lt_or_ge k l.length with hlt | hge
    · have hd : l[k]? = some l[k] := by simp [hlt]
      obtain ⟨b, o, rfl, hbB, k0, k1, k2⟩ := (HAw.out.below (hR.below.mono hsz3)) _ _ hd
      generalize l[k] = d at *
      obtain ⟨dd, dk, dv⟩ := d
      simp only at k0 k1 k2
      have hB' : Below wr.heap.size wr (wr.alloc (.cells #[.int .i64 dd, .int .i64 dk, .int .u64 dv] 74)) := (Below.refl _ _).alloc (Nat.le_refl _) _
      have HR := Lib.hid (hR.below0 hB')
      have HD : Hid (Bk (wr.alloc (.cells #[.int .i64 dd, .int .i64 dk, .int .u64 dv] 74)) wr.heap.size 74 #[.int .i64 dd, .int .i64 dk, .int .u64 dv]) := Bk.new _ _ _
      clear hR hd hB'
      by_cases h0 : dd = 0
      · subst h0
        have HK := Lib.hid (bKSet HR.out (by omega) dk (x := .int .u64 dv) ⟨_, rfl⟩)
        have hnk := newK_le f dk
        go_wp2_with fail
        refine HK.out.mono ?_
        rintro e w6 ⟨A9, c9, L9, rfl, hlen, h6, hK6⟩
        have HS := Lib.hid (bTSet h6 dk (x := .int .u64 dv) ⟨_, rfl⟩ (by omega))
        have hD6 := hK6 _ _ _ HD.out (by decide) (by decide)
        have q1 : w6.cell? ⟨wr.heap.size, 1, none⟩ = some (.int .i64 dk) := hD6.cell 1
        have q2 : w6.cell? ⟨wr.heap.size, 2, none⟩ = some (.int .u64 dv) := hD6.cell 2
        have hL9 : L9.length ≤ k + 1 := by omega
        obtain ⟨f9, hf9⟩ : ∃ f9, f9 = setF f dk (.int .u64 dv) := ⟨_, rfl⟩
        rw [← hlen, ← hf9] at HS
        have HS2 := Lib.hid HS
        generalize inK dk = ik at *
        clear h6 hK6 hD6 HK hlen hf9
        go_wp2_with fail
        refine HS.out.mono ?_
        rintro e w9 ⟨rfl, h9, -⟩
        have H9 := Lib.hid h9
        clear h9 q1 q2 HS HS2
        have HLn := Lib.hid (bTLen H9.out)
        have HNd := Lib.hid (bTNodes H9.out)
        have HKn := Lib.hid (bKNodes H9.out (by omega))
        have hcn := cntN_le (exL (L9.map (·.1)))
        generalize cntN (exL (L9.map (·.1))) = cn at *
        go_wp2_with (first
          | (go_at_call 44; refine HLn.out.mono ?_; rintro x w10 ⟨rfl, rfl⟩)
          | (go_at_call 45; refine HNd.out.mono ?_; rintro x w10 ⟨rfl, rfl⟩)
          | (go_at_call 48; refine HKn.out.mono ?_; rintro x w10 ⟨rfl, hB10⟩; have H10 := Lib.hid (H9.out.below0 hB10); clear hB10))
        go_roundw
        case rel => exact ⟨k + 1, f9, L9, A9, c9, by omega, hL9, by go_num, rfl, H10.out⟩
        case measure => simp [intOf]; omega
      · have d0 : (dd == 0) = false := beq_eq_false_iff_ne.2 h0
        by_cases h1 : dd = 1
        · subst h1
          have HK := Lib.hid (bKSet HR.out (by omega) dk (x := .int .u64 dv) ⟨_, rfl⟩)
          have hnk := newK_le f dk
          go_wp2_with fail
          refine HK.out.mono ?_
          rintro e w6 ⟨A9, c9, L9, rfl, hlen, h6, hK6⟩
          have HS := Lib.hid (bTSet h6 dk (x := .int .u64 dv) ⟨_, rfl⟩ (by omega))
          have hD6 := hK6 _ _ _ HD.out (by decide) (by decide)
          have q1 : w6.cell? ⟨wr.heap.size, 1, none⟩ = some (.int .i64 dk) := hD6.cell 1
          have q2 : w6.cell? ⟨wr.heap.size, 2, none⟩ = some (.int .u64 dv) := hD6.cell 2
          have hL9 : L9.length ≤ k + 1 := by omega
          obtain ⟨f9, hf9⟩ : ∃ f9, f9 = setF f dk (.int .u64 dv) := ⟨_, rfl⟩
          rw [← hlen, ← hf9] at HS
          have HS2 := Lib.hid HS
          generalize inK dk = ik at *
          clear h6 hK6 hD6 HK hlen hf9
          go_wp2_with fail
          refine HS.out.mono ?_
          rintro e w9 ⟨rfl, h9, -⟩
          have H9 := Lib.hid h9
          clear h9 q1 q2 HS HS2
          have HLn := Lib.hid (bTLen H9.out)
          have HNd := Lib.hid (bTNodes H9.out)
          have HKn := Lib.hid (bKNodes H9.out (by omega))
          have hcn := cntN_le (exL (L9.map (·.1)))
          generalize cntN (exL (L9.map (·.1))) = cn at *
          go_wp2_with (first
            | (go_at_call 44; refine HLn.out.mono ?_; rintro x w10 ⟨rfl, rfl⟩)
            | (go_at_call 45; refine HNd.out.mono ?_; rintro x w10 ⟨rfl, rfl⟩)
            | (go_at_call 48; refine HKn.out.mono ?_; rintro x w10 ⟨rfl, hB10⟩; have H10 := Lib.hid (H9.out.below0 hB10); clear hB10))
          go_roundw
          case rel => exact ⟨k + 1, f9, L9, A9, c9, by omega, hL9, by go_num, rfl, H10.out⟩
          case measure => simp [intOf]; omega
        · have d1 : (dd == 1) = false := beq_eq_false_iff_ne.2 h1
          by_cases h2 : dd = 2
          · subst h2
            have HK := Lib.hid (bKDrop HR.out (by omega) dk)
            obtain ⟨y, hy⟩ := HR.out.val dk
            have hpos := Lists.pos HR.out.ls
            have HPos := Lib.hid hpos
            clear hpos
            rw [hy] at HK
            obtain ⟨bs, hbs⟩ : ∃ bs, bs = (getF f dk).isSome := ⟨_, rfl⟩
            rw [← hbs] at HK
            go_wp2_with fail
            refine HK.out.mono ?_
            rintro e w6 ⟨A9, c9, L9, rfl, hlen, -, h6, hK6⟩
            have HS := Lib.hid (bTDrop h6 dk (by omega) HPos.out)
            rw [hy, ← hbs, ← hlen] at HS
            have hD6 := hK6 _ _ _ HD.out (by decide) (by decide)
            have q1 : w6.cell? ⟨wr.heap.size, 1, none⟩ = some (.int .i64 dk) := hD6.cell 1
            have hL9 : L9.length ≤ k + 1 := by
              rw [hlen]
              split <;> omega
            obtain ⟨f9, hf9⟩ : ∃ f9, f9 = dropF f dk := ⟨_, rfl⟩
            rw [← hf9] at HS
            clear h6 hK6 hD6 HK hlen hf9 hy hbs
            go_wp2_with fail
            refine HS.out.mono ?_
            rintro e w9 ⟨rfl, h9, -⟩
            have H9 := Lib.hid h9
            clear h9 q1 HS
            have HLn := Lib.hid (bTLen H9.out)
            have HNd := Lib.hid (bTNodes H9.out)
            have HKn := Lib.hid (bKNodes H9.out (by omega))
            have hcn := cntN_le (exL (L9.map (·.1)))
            generalize cntN (exL (L9.map (·.1))) = cn at *
            go_wp2_with (first
              | (go_at_call 44; refine HLn.out.mono ?_; rintro x w10 ⟨rfl, rfl⟩)
              | (go_at_call 45; refine HNd.out.mono ?_; rintro x w10 ⟨rfl, rfl⟩)
              | (go_at_call 48; refine HKn.out.mono ?_; rintro x w10 ⟨rfl, hB10⟩; have H10 := Lib.hid (H9.out.below0 hB10); clear hB10))
            go_roundw
            case rel => exact ⟨k + 1, f9, L9, A9, c9, by omega, hL9, by go_num, rfl, H10.out⟩
            case measure => simp [intOf]; omega
          · have d2 : (dd == 2) = false := beq_eq_false_iff_ne.2 h2
            clear h0 h1 h2
            have HK := Lib.hid (bKDrop HR.out (by omega) dk)
            obtain ⟨y, hy⟩ := HR.out.val dk
            rw [hy] at HK
            obtain ⟨bs, hbs⟩ : ∃ bs, bs = (getF f dk).isSome := ⟨_, rfl⟩
            rw [← hbs] at HK
            go_wp2_with fail
            refine HK.out.mono ?_
            rintro e w6 ⟨A8, c8, L8, rfl, -, h6, -, hK6⟩
            have HS := Lib.hid (bTGet h6 dk)
            rw [hy, ← hbs] at HS
            have hD6 := hK6 _ _ _ HD.out (by decide) (by decide)
            have q1 : w6.cell? ⟨wr.heap.size, 1, none⟩ = some (.int .i64 dk) := hD6.cell 1
            have hL9 : L.length ≤ k + 1 := by omega
            clear h6 hK6 hD6 HK hy hbs
            go_wp2_with fail
            refine HS.out.mono ?_
            rintro e w9 ⟨rfl, h9, -⟩
            have H9 := Lib.hid h9
            clear h9 q1 HS
            have HLn := Lib.hid (bTLen H9.out)
            have HNd := Lib.hid (bTNodes H9.out)
            have HKn := Lib.hid (bKNodes H9.out (by omega))
            have hcn := cntN_le (exL (L.map (·.1)))
            generalize cntN (exL (L.map (·.1))) = cn at *
            go_wp2_with (first
              | (go_at_call 44; refine HLn.out.mono ?_; rintro x w10 ⟨rfl, rfl⟩)
              | (go_at_call 45; refine HNd.out.mono ?_; rintro x w10 ⟨rfl, rfl⟩)
              | (go_at_call 48; refine HKn.out.mono ?_; rintro x w10 ⟨rfl, hB10⟩; have H10 := Lib.hid (H9.out.below0 hB10); clear hB10))
            go_roundw
            case rel => exact ⟨k + 1, f, L, A', c', by omega, hL9, by go_num, rfl, H10.out⟩
            case measure => simp [intOf]; omega
    · have HAt := Lib.hid (kAt (c := c') hR.ks.krd (by omega) start)
      have HR := Lib.hid hR
      have hcap := hR.ks.cap.2
      have hLl : L.length ≤ 100 := by omega
      clear hR
      go_wp2_with fail
      refine HAt.out.mono ?_
      rintro e wa ⟨n, b, rfl, hi, m, rfl⟩
      have hnl := hi.le
      obtain ⟨AB, cB, cutB, -, hKr, hcB⟩ := run_backK (A := A') (n := L.length) (c := c') (k := n) hnl hcap rfl
      have HFr := Lib.hid (HR.out.ls.from hi)
      have HAl := Lib.hid (HR.out.ls.all (start := -5) (by omega))
      have HRa := Lib.hid (HR.out.below0 ((Fr.refl (fun _ => False) wr).drewN m).below0)
      have HT1 := Lib.hid (bFrom HRa.out start (-1))
      have HKr := Lib.hid hKr
      rw [HFr.out, show ∀ (M : Ks), tkM (-1) M = M from fun M => by unfold tkM; rw [if_neg (by omega)]] at HT1
      have hdl : Hid ((L.drop n).length = L.length - n) := List.length_drop
      have HOk : Hid (KOk (L.drop n)) := fun e he => HR.out.ks.ok e (List.mem_of_mem_drop he)
      have HOk2 := Lib.hid HR.out.ks.ok
      generalize wr.drewN m = wa at *
      have HKa : Hid (KRd wa wa.heap.size AB (L.drop n)) := HKr.out _ _ _ rfl HRa.out.ks.krd
      generalize L.drop n = DL at *
      clear hi hKr HAt HFr HKr
      go_wp2_with fail
      refine HT1.out.mono ?_
      rintro e wb ⟨A1, c1, rfl, hK1, hB1⟩
      have HRb := Lib.hid (HRa.out.below0 hB1)
      have HT2 := Lib.hid (bFrom HRb.out (-5) (-1))
      rw [HAl.out, show ∀ (M : Ks), tkM (-1) M = M from fun M => by unfold tkM; rw [if_neg (by omega)]] at HT2
      have HK1 := Lib.hid hK1
      have HKb : Hid (KRd wb wb.heap.size AB DL) := (HKa.out.below hB1).more hB1.size
      clear hK1 hB1
      go_wp2_with fail
      refine HT2.out.mono ?_
      rintro e wc ⟨A2, c2, rfl, hK2, hB2⟩
      have HRc := Lib.hid (HRb.out.below0 hB2)
      have HKc : Hid (KRd wc wc.heap.size AB DL) := (HKb.out.below hB2).more hB2.size
      have HQ1 : Hid (Calls Try.prog 31 #[.slice A1 DL.length c1, .slice AB (L.length - n) cB] wc fun e w' => e = .returned (.bool true) ∧ Below wc.heap.size wc w') := by
        have := kKeys (c := c1) (c2 := cB) ((HK1.out.below hB2).krd) HKc.out HOk.out (by have := hdl.out; omega)
        rwa [show (Value.slice AB DL.length cB) = .slice AB (L.length - n) cB by rw [hdl.out]] at this
      have HK2 := Lib.hid hK2
      have HQ2 : Hid (∀ W, Below wc.heap.size wc W → Calls Try.prog 31 #[.slice A2 L.length c2, .slice A' L.length c'] W fun e w' => e = .returned (.bool true) ∧ Below W.heap.size W w') := fun W hW =>
        kKeys (B := W.heap.size) ((HK2.out.below hW).krd) ((HRc.out.ks.below hW).krd) HOk2.out (by omega)
      have HLv : Hid (∀ W W2, Below wc.heap.size wc W → Below W.heap.size W W2 → Calls Try.prog 25 #[] W2 fun e w' => e = .returned (.bool true) ∧ Below w.heap.size w w') := fun W W2 hW hW2 => (rxLives W2).mono fun e w' ⟨h1, h2⟩ => by
        have hx := ((HRc.out.below0 hW).below0 hW2).below
        exact ⟨h1, HB3.out.trans ((hx.trans (h2.mono hx.size)).mono hsz3)⟩
      clear hK2 hB2
      go_wp2_with fail
      refine HQ1.out.mono ?_
      rintro x wd ⟨rfl, hBd⟩
      have HBd := Lib.hid hBd
      clear hBd
      go_wp2_with fail
      refine (HQ2.out _ HBd.out).mono ?_
      rintro x we ⟨rfl, hBe⟩
      have HBe := Lib.hid hBe
      clear hBe
      go_wp2_with fail
      refine (HLv.out _ _ HBd.out HBe.out).mono ?_
      rintro x wf ⟨rfl, hBf⟩
      go_wp2_with fail
      go_ret
      exact ⟨rfl, hBf⟩
end
end Go.Proofs.YteifdbfaclpcdaaR.Ru
