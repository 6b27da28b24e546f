/- Radix: Set. -/
import Derived.Test.YteifdbfaclpcdaaRRrG
namespace Go.Proofs.YteifdbfaclpcdaaR.Rr
open Go.RowKit

section
variable {w w' : World} {base g many : Nat} {ex : Nat → Nat → Bool} {nd : Nat → Nat → Nat} {f : Nat → Option Value} {v : Value}
theorem SetMid.start (h : RxAt w base g ex nd f many) (v : Value) : SetMid w (w.alloc (.cells v.cells 83)) base g ex nd ex nd f many w.heap.size v :=
  ⟨h.tr.alloc _, Bk.new _ _ _, fun l q hl hq => h.full.up hl hq, fun l p hl hp => by
    obtain ⟨k, h1, h2⟩ := (h.full l p hl).1 hp
    rw [← h2]
    exact rxD_lt hl (h.lt k h1), fun l p hl hp => .inl ⟨hp, rfl⟩, (Fr.refl _ w).alloc _⟩
theorem RxAt.root (h : RxAt w base g ex nd f many) : (∀ l p, l ≤ 4 → ex l p = false) ∨ ex 0 0 = true := by
  cases h0 : ex 0 0
  · refine .inl fun l p hl => ?_
    cases hx : ex l p
    · rfl
    · obtain ⟨k, h1, _⟩ := (h.full l p hl).1 hx
      have := (h.full 0 0 (by omega)).2 ⟨k, h1, by rw [rxD_0]; have := h.lt k h1; omega⟩
      rw [h0] at this
      cases this
  · exact .inr rfl
theorem cntN_le (ex : Nat → Nat → Bool) : cntN ex ≤ 4369 := by
  have h : ∀ l, rxCntL ex l ≤ 16 ^ l := fun l => by
    have := List.countP_le_length (p := ex l) (l := List.range (16 ^ l))
    simpa [rxCntL] using this
  have h0 := h 0
  have h1 := h 1
  have h2 := h 2
  have h3 := h 3
  unfold cntN
  omega

/-- The head's node, there or new. -/
theorem rGrownRoot {w0 : World} {bx : Nat} (hS : SetMid w0 w base g ex nd ex nd f many bx v) (hr : (∀ l p, l ≤ 4 → ex l p = false) ∨ ex 0 0 = true) {key : Nat} (hk : key < 65536) :
    Calls Try.prog 81 #[.pointer (some ⟨g, 0, none⟩), ptrIf (ex 0 0) (nd 0 0)] w fun e w' => ∃ b nd' r, e = .returned (.pointer (some ⟨b, 0, none⟩)) ∧ w'.cell? ⟨g, 0, none⟩ = some r ∧ w'.frozen? ⟨g, 0, none⟩ = false ∧
      nd' 0 (key / rxD 0) = b ∧ SetMid w0 (w'.setCell ⟨g, 0, none⟩ (.pointer (some ⟨b, 0, none⟩))) base g ex nd (addP ex key 0) nd' f many bx v := by
  have e0 : key / rxD 0 = 0 := by rw [rxD_0]; omega
  rw [addP_zero, e0]
  rcases hr with hr | hr
  · rw [hr 0 0 (by omega)]
    have hT := hS.tr.top
    rw [hr 0 0 (by omega)] at hT
    refine (rGrownNew hT (by have := cntN_le ex; omega)).mono ?_
    rintro e w' ⟨b, rfl, hb, hN, hT2, hF⟩
    exact ⟨b, setN nd 0 0 b, _, rfl, hT2.cell 0, hT2.free 0, setN_same _ _ _ _, hS.growRoot hr hb hN hT2 hF⟩
  · rw [setE_id hr]
    have hc := hS.tr.rootC
    rw [hr] at hc ⊢
    refine (rGrownHas _ _ _).mono ?_
    rintro e w' ⟨rfl, rfl⟩
    exact ⟨_, nd, _, rfl, hc, hS.tr.topFree 0, rfl, hS.keepRoot hr⟩
/-- A new node below. -/
theorem rGrownDown {w0 : World} {bx l q : Nat} {ex0 : Nat → Nat → Bool} {nd0 : Nat → Nat → Nat} (hS : SetMid w0 w base g ex0 nd0 ex nd f many bx v) (hl : l ≤ 2) (hp : ex l (q / 16) = true) (hq : ex (l + 1) q = false) (hqb : q < 16 ^ (l + 1)) :
    Calls Try.prog 81 #[.pointer (some ⟨g, 0, none⟩), .pointer none] ((w.setCell ⟨nd l (q / 16), 32, none⟩ (.int .i64 (kids ex l (q / 16) + 1 : Nat))).drewN 1) fun e w' => ∃ b nd', e = .returned (.pointer (some ⟨b, 0, none⟩)) ∧ w'.cell? ⟨nd l (q / 16), q % 16, none⟩ = some (.pointer none) ∧ w'.frozen? ⟨nd l (q / 16), q % 16, none⟩ = false ∧
      nd' (l + 1) q = b ∧ SetMid w0 (w'.setCell ⟨nd l (q / 16), q % 16, none⟩ (.pointer (some ⟨b, 0, none⟩))) base g ex0 nd0 (setE ex (l + 1) q true) nd' f many bx v := by
  have hng := hS.tr.nd_ne (by omega) hp
  have hT : Bk ((w.setCell ⟨nd l (q / 16), 32, none⟩ (.int .i64 (kids ex l (q / 16) + 1 : Nat))).drewN 1) g 133 #[ptrIf (ex 0 0) (nd 0 0), .int .i64 many, .int .i64 (cntN ex)] := (hS.tr.top.far (fun e => hng e.symm) _).drewN 1
  refine (rGrownNew hT (by have := cntN_le ex; omega)).mono ?_
  rintro e w' ⟨b, rfl, hb, hN, hT2, hF⟩
  have hF' : Fr (fun k => k = g) (w.setCell ⟨nd l (q / 16), 32, none⟩ (.int .i64 (kids ex l (q / 16) + 1 : Nat))) w' := ((Fr.refl (fun k => k = g) _).drewN 1).trans hF fun _ _ e => e
  have hn2 := ((hS.tr.node l _ (by omega) hp).setMany (kids ex l (q / 16) + 1 : Nat)).fr hF' hng
  have hc := hn2.dn (by omega : q % 16 < 16)
  unfold dnOf at hc
  rw [if_neg (by omega), show 16 * (q / 16) + q % 16 = q by omega, hq] at hc
  exact ⟨b, setN nd (l + 1) q b, rfl, hc, hn2.free _, setN_same _ _ _ _, hS.grow hl hp hq hqb (by simpa [World.drewN, World.setCell] using hb) hN hT2 hF'⟩
set_option maxRecDepth 100000 in
set_option maxHeartbeats 2000000 in
theorem rSet (h : RxAt w base g ex nd f many) {key : Nat} (hk : key < 65536) {v : Value} (hv : VOk v) (hm : many ≤ 1000000) :
    Calls Try.prog 71 #[.pointer (some ⟨g, 0, none⟩), .int .i64 (key : Int), v] w fun e w' => e = .returned (.bool true) ∧ SetPost w base g ex nd f many key v w' := by
  have HM := fun W => rxMay' W key
  rw [decide_eq_true (show 0 ≤ (key : Int) ∧ (key : Int) < 65536 by omega)] at HM
  replace HM := Lib.hid HM
  obtain ⟨x0, x1, x2, x3, rfl⟩ := hv
  have HS0 : Hid (SetMid w (w.alloc (.cells #[.int .i64 x0, .int .i64 x1, .int .i64 x2, .int .u64 x3] 83)) base g ex nd ex nd f many w.heap.size (.agg #[.int .i64 x0, .int .i64 x1, .int .i64 x2, .int .u64 x3])) := SetMid.start h (.agg #[.int .i64 x0, .int .i64 x1, .int .i64 x2, .int .u64 x3])
  have HG := Lib.hid (rGrownRoot HS0.out h.root hk)
  have hc := HS0.out.tr.rootC
  have HR := Lib.hid h
  generalize ptrIf (ex 0 0) (nd 0 0) = r0 at *
  clear h
  go_enter Try.func71, Try.ntmps71
  go_wp2_with (go_at_call 58; refine (HM.out _).mono ?_; rintro x w2 ⟨rfl, rfl⟩)
  refine HG.out.mono ?_
  rintro e w1 ⟨b1, nd1, r1, rfl, hc1, hf1, hn1, hS1⟩
  have HS1 := Lib.hid hS1
  have HN1 := Lib.hid hn1
  clear hn1 hS1 hc
  go_wp2_with fail
  go_loopw [7, 31] (fun x7 i wr => ∃ (j : Nat) (nd' : Nat → Nat → Nat), j ≤ 3 ∧ i = .int .i64 (j : Int) ∧ x7 = .pointer (some ⟨nd' j (key / rxD j), 0, none⟩) ∧ SetMid w wr base g ex nd (addP ex key j) nd' f many w.heap.size (.agg #[.int .i64 x0, .int .i64 x1, .int .i64 x2, .int .u64 x3])) (fun _ i _ => 3 - (intOf i).toNat)
  case atStart => exact ⟨0, nd1, by omega, rfl, by rw [HN1.out], HS1.out⟩
  case round =>
    clear HS1 HN1 hc1 hf1
    obtain ⟨j, nd2, hj, rfl, rfl, hS⟩ := hrel
    have HS := Lib.hid hS
    have hp : addP ex key j j (key / rxD j) = true := addP_has (Nat.le_refl _)
    have HA := Lib.hid (fun W => rxAt' W (key := key) hj)
    rcases Nat.lt_or_ge j 3 with hlt | hge
    · have hd := hS.tr.dnC (by omega : j ≤ 2) hp (by omega : key / rxD (j + 1) % 16 < 16)
      rw [rxD_digit hj] at hd
      have hw1 : IntKind.i64.wrap ((j : Int) + 1) = (j : Int) + 1 := IntWalk.i64_in _ (by omega)
      have hdf := hS.tr.nodeFree (by omega) hp (key / rxD (j + 1) % 16)
      have hmf := hS.tr.nodeFree (by omega) hp 32
      have hmc := hS.tr.mnC (by omega) hp
      have h16 : key / rxD (j + 1) % 16 < 16 := by omega
      have hne : nd2 j (key / rxD j) ≠ g := hS.tr.nd_ne (by omega) hp
      have hkl := kids_le (addP ex key j) j (key / rxD j)
      have hpq : key / rxD (j + 1) / 16 = key / rxD j := rxD_div hj key
      have hstep := addP_step ex key j
      cases hx : addP ex key j (j + 1) (key / rxD (j + 1))
      · rw [hx] at hd
        unfold ptrIf at hd
        rw [if_neg (by decide)] at hd
        have HG2 := Lib.hid (rGrownDown (q := key / rxD (j + 1)) hS (by omega) (by rw [hpq]; exact hp) hx (rxD_lt (by omega) hk))
        rw [hpq, ← hstep] at HG2
        generalize hb : nd2 j (key / rxD j) = b at *
        generalize hkk : kids (addP ex key j) j (key / rxD j) = kk at *
        have HQ := Lib.hid (rfl : key / rxD (j + 1) = key / rxD (j + 1))
        generalize hq : key / rxD (j + 1) = q at HG2 HA hd hdf h16 HQ
        have HQ2 := Lib.hid hq
        generalize hdg : q % 16 = dg at *
        have b1 : (j : Int) < 4 := by omega
        have b2 : (0 : Int) ≤ j := by omega
        have b5 : (dg : Int) < 16 := by omega
        have b6 : (0 : Int) ≤ dg := by omega
        have h3i : (j : Int) < 3 := by omega
        have hd1 : ((wr.setCell ⟨b, 32, none⟩ (.int .i64 (kk + 1 : Nat))).drew).cell? ⟨b, dg, none⟩ = some (.pointer none) := by
          show (wr.setCell ⟨b, 32, none⟩ (.int .i64 (kk + 1 : Nat))).cell? ⟨b, dg, none⟩ = _
          rw [World.cell?_setCell_other _ _ _ _ (fun e => by have := congrArg Addr.off e; simp at this; omega)]
          exact hd
        clear hb hkk hq hdg hS hp hstep hpq hx HQ
        go_upto_region 11 with (go_at_call 60; refine (HA.out _).mono ?_; rintro x w2 ⟨rfl, rfl⟩)
        go_region_with (go_at_call 81; refine HG2.out.mono ?_; rintro e w9 ⟨c, nd3, rfl, hc9, hf9, hn9, hS9⟩; have HS9 := Lib.hid hS9; clear hS9)
        go_wp2_with fail
        go_roundw
        case rel => exact ⟨j + 1, nd3, by omega, by go_num, by rw [HQ2.out, hn9], HS9.out⟩
        case measure => simp [intOf]; omega
      · rw [hx] at hd
        unfold ptrIf at hd
        rw [if_pos rfl] at hd
        have HK := hS.keep (by omega) hx
        rw [hpq, ← setE_id hx, ← hstep] at HK
        replace HK := Lib.hid HK
        have HG2 := Lib.hid (fun W => rGrownHas W g (nd2 (j + 1) (key / rxD (j + 1))))
        have HE := Lib.hid (rfl : nd2 (j + 1) (key / rxD (j + 1)) = nd2 (j + 1) (key / rxD (j + 1)))
        generalize hb : nd2 j (key / rxD j) = b at *
        generalize hc : nd2 (j + 1) (key / rxD (j + 1)) = c at hd HG2 HK
        have HC := Lib.hid hc
        generalize hdg : key / rxD (j + 1) % 16 = dg at *
        have b1 : (j : Int) < 4 := by omega
        have b2 : (0 : Int) ≤ j := by omega
        have b5 : (dg : Int) < 16 := by omega
        have b6 : (0 : Int) ≤ dg := by omega
        have h3i : (j : Int) < 3 := by omega
        clear hb hc hdg hS hp hstep HE hpq hx hkl
        go_upto_region 11 with (go_at_call 60; refine (HA.out _).mono ?_; rintro x w2 ⟨rfl, rfl⟩)
        go_still_tail 13, (by kernel_rfl)
        still_call (HG2.out _)
        repeat still_step
        refine wpStill_nil ?_
        change wpList _ _ _ _ _ wr.drew
        go_wp2_with fail
        go_roundw
        case rel => exact ⟨j + 1, nd2, by omega, by go_num, by rw [HC.out], HK.out.drewN 1⟩
        case measure => simp [intOf]; omega
    · obtain rfl : j = 3 := by omega
      have e3 : key / rxD 3 = key / 16 := by rw [rxD_3]
      have e4 : key / rxD 4 = key := by rw [rxD_4, Nat.div_one]
      rw [e3] at hp ⊢
      rw [e4] at HA
      have hd := hS.tr.hsC hp (by omega : key % 16 < 16)
      rw [show 16 * (key / 16) + key % 16 = key by omega] at hd
      have hx4 : addP ex key 3 4 key = (f key).isSome := by
        rw [addP_new (by omega), HR.out.full.key]
      have hn := hS.tr.node 3 _ (by omega) hp
      have hdf := hn.free (16 + key % 16)
      have hmf := hn.free 32
      have hmc := hn.many
      have h16 : key % 16 < 16 := by omega
      have hne : nd2 3 (key / 16) ≠ g := hS.tr.nd_ne (by omega) hp
      have hkl := kids_le (addP ex key 3) 3 (key / 16)
      have hgm := hS.tr.manyC
      have hgf := hS.tr.topFree 1
      have HN := Lib.hid hn
      cases hf : f key with
      | none =>
        rw [hf] at hx4
        have HF : Hid (∀ W, W = (((wr.setCell ⟨nd2 3 (key / 16), 32, none⟩ (.int .i64 ((kids (addP ex key 3) 3 (key / 16) : Nat) + 1))).setCell ⟨g, 1, none⟩ (.int .i64 ((many : Nat) + 1))).setCell ⟨nd2 3 (key / 16), 16 + key % 16, none⟩ (.pointer (some ⟨w.heap.size, 0, none⟩))) → SetPost w base g ex nd f many key (.agg #[.int .i64 x0, .int .i64 x1, .int .i64 x2, .int .u64 x3]) W) := by
          rintro _ rfl
          refine HS.out.fin hk rfl HR.out.full HR.out.lt HR.out.ok ⟨_, _, _, _, rfl⟩ (m2 := many + 1) (by rw [hf]; simp) ?_ ?_ ?_
          · have h1 := ((HN.out.setMany ((kids (addP ex key 3) 3 (key / 16) : Nat) + 1)).far (p := ⟨g, 1, none⟩) hne (.int .i64 ((many : Nat) + 1))).setHs (d := key % 16) (by omega) (.pointer (some ⟨w.heap.size, 0, none⟩))
            have h2 := kids_up (ex := addP ex key 3) (l := 3) (q := key) (by rw [hx4]; rfl)
            rw [h2]
            simpa using h1
          · have h1 := ((HS.out.tr.top.far (p := ⟨nd2 3 (key / 16), 32, none⟩) (fun e => hne e.symm) (.int .i64 ((kids (addP ex key 3) 3 (key / 16) : Nat) + 1))).set 1 (.int .i64 ((many : Nat) + 1))).far (p := ⟨nd2 3 (key / 16), 16 + key % 16, none⟩) (fun e => hne e.symm) (.pointer (some ⟨w.heap.size, 0, none⟩))
            simpa using h1
          · exact (((Fr.refl _ wr).set _ _ fun _ => .inr rfl).set _ _ fun _ => .inl rfl).set _ _ fun _ => .inr rfl
        rw [hx4] at hd
        unfold ptrIf at hd
        simp only [Option.isSome_none, Bool.false_eq_true, if_false] at hd
        generalize nd2 3 (key / 16) = b at *
        generalize kids (addP ex key 3) 3 (key / 16) = kk at *
        generalize hdg : key % 16 = dg at *
        generalize nd2 4 key = bo at *
        have b5 : (dg : Int) < 16 := by omega
        have b6 : (0 : Int) ≤ dg := by omega
        clear hS hn hdg HN hp hx4
        go_wp2_with (go_at_call 60; refine (HA.out _).mono ?_; rintro x w2 ⟨rfl, rfl⟩)
        go_ret
        exact ⟨rfl, HF.out _ rfl⟩
      | some u =>
        rw [hf] at hx4
        have HF : Hid (∀ W, W = (wr.setCell ⟨nd2 3 (key / 16), 16 + key % 16, none⟩ (.pointer (some ⟨w.heap.size, 0, none⟩))) → SetPost w base g ex nd f many key (.agg #[.int .i64 x0, .int .i64 x1, .int .i64 x2, .int .u64 x3]) W) := by
          rintro _ rfl
          refine HS.out.fin hk rfl HR.out.full HR.out.lt HR.out.ok ⟨_, _, _, _, rfl⟩ (m2 := many) (by rw [hf]; simp) ?_ ?_ ?_
          · have h1 := HN.out.setHs (d := key % 16) (by omega) (.pointer (some ⟨w.heap.size, 0, none⟩))
            rw [setE_id (by rw [hx4]; rfl)]
            exact h1
          · exact HS.out.tr.top.far (p := ⟨nd2 3 (key / 16), 16 + key % 16, none⟩) (fun e => hne e.symm) (.pointer (some ⟨w.heap.size, 0, none⟩))
          · exact (Fr.refl _ wr).set _ _ fun _ => .inr rfl
        rw [hx4] at hd
        unfold ptrIf at hd
        simp only [Option.isSome_some, if_true] at hd
        generalize nd2 3 (key / 16) = b at *
        generalize kids (addP ex key 3) 3 (key / 16) = kk at *
        generalize hdg : key % 16 = dg at *
        generalize nd2 4 key = bo at *
        have b5 : (dg : Int) < 16 := by omega
        have b6 : (0 : Int) ≤ dg := by omega
        clear hS hn hdg HN hp hx4
        go_wp2_with (go_at_call 60; refine (HA.out _).mono ?_; rintro x w2 ⟨rfl, rfl⟩)
        go_ret
        exact ⟨rfl, HF.out _ rfl⟩
end
end Go.Proofs.YteifdbfaclpcdaaR.Rr
