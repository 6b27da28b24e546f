/- Radix: Drop. -/
import Derived.Test.YteifdbfaclpcdaaRRuI
namespace Go.Proofs.YteifdbfaclpcdaaR.Ru
open Go.RowKit

section
variable {w w' : World} {base g many : Nat} {ex : Nat → Nat → Bool} {nd : Nat → Nat → Nat} {f : Nat → Option Value} {v : Value}
theorem DropMid.below0 {w0 : World} {key l : Nat} (h : DropMid w0 w base g ex nd f many key l) (hb : Below w.heap.size w w') : DropMid w0 w' base g ex nd f many key l :=
  ⟨h.tr.below0 hb, h.ho, h.fr.trans (Fr.of_below0 (S := fun _ => False) hb) fun _ _ e => e.elim⟩
theorem DropMid.size {w0 : World} {key l : Nat} (h : DropMid w0 w base g ex nd f many key l) : w0.heap.size ≤ w.heap.size := h.fr.size
def psA (ps : Nat → Option Addr) : Array Value := #[.pointer (ps 0), .pointer (ps 1), .pointer (ps 2), .pointer (ps 3)]
theorem psA_get (ps : Nat → Option Addr) {i : Nat} (h : i ≤ 3) : (psA ps)[i]? = some (.pointer (ps i)) := by
  rcases (by omega : i = 0 ∨ i = 1 ∨ i = 2 ∨ i = 3) with rfl | rfl | rfl | rfl <;> rfl
/-- What Drop leaves. -/
def DropPost (w : World) (base g : Nat) (ex : Nat → Nat → Bool) (nd : Nat → Nat → Nat) (f : Nat → Option Value) (many : Nat) (key : Int) (w' : World) : Prop :=
  ∃ ex' nd', RxAt w' base g ex' nd' (if (getF f key).isSome then updF f key.toNat none else f) (if (getF f key).isSome then many - 1 else many) ∧ Fr (TrS g ex nd) w w'

set_option maxRecDepth 100000 in
set_option maxHeartbeats 2000000 in
theorem rDrop (h : RxAt w base g ex nd f many) (key : Int) (hm1 : many ≤ 1000000) (hm2 : ∀ k, f k ≠ none → many ≠ 0) :
    Calls Try.prog 47 #[.pointer (some ⟨g, 0, none⟩), .int .i64 key] w fun e w' => e = .returned (.tuple #[(getF f key).getD vZero, .bool (getF f key).isSome]) ∧ DropPost w base g ex nd f many key w' := by
  have HP := Lib.hid (rPath h.tr key)
  have HR := Lib.hid h
  clear h
  go_enter Try.func47, Try.ntmps47
  go_wp2_with fail
  refine HP.out.mono ?_
  rintro e w1 ⟨ps, b, rfl, hI, hB1⟩
  have HB1 := Lib.hid hB1
  rcases hI.hit HR.out with ⟨rfl, hn⟩ | ⟨rfl, k, v, rfl, hk, hv, hok, hx, hps⟩
  · have HN := Lib.hid hn
    clear hI hB1 hn
    go_wp2_with fail
    go_returns
    refine ⟨?_, ex, nd, ?_, ?_⟩
    · rw [HN.out]
      rfl
    · rw [HN.out]
      exact (HR.out.below0 HB1.out).below0 ((Below.refl _ _).alloc (Nat.le_refl _) _)
    · exact (Fr.of_below0 HB1.out).alloc _
  · obtain ⟨m, rfl⟩ : ∃ m, many = m + 1 := ⟨many - 1, by have := hm2 k (by rw [hv]; simp); omega⟩
    have HT := Lib.hid (HR.out.below0 hB1)
    have hp3 := hx 3 (by omega)
    have hp4 := hx 4 (by omega)
    have e4 : k / rxD 4 = k := by rw [rxD_4, Nat.div_one]
    have e3 : k / rxD 3 = k / 16 := by rw [rxD_3]
    rw [e4] at hp4
    rw [e3] at hp3
    have hd := HT.out.tr.hsC hp3 (by omega : k % 16 < 16)
    rw [show 16 * (k / 16) + k % 16 = k by omega, hp4] at hd
    unfold ptrIf at hd
    rw [if_pos rfl] at hd
    have hvb := HT.out.tr.val k v hp4 hv
    have hps3 := hps 3 (by omega)
    rw [e3] at hps3
    have HA := Lib.hid (fun W => rxAt' W (key := k) (by omega : 3 ≤ 3))
    rw [e4] at HA
    have h16 : k % 16 < 16 := by omega
    have HN : Hid (getF f (k : Int) = some v) := by
      show _ = _
      rw [getF_nat, hv]
    have hn3 := HT.out.tr.node 3 _ (by omega) hp3
    have hl3 := hn3.lt
    have hdf := hn3.free (16 + k % 16)
    have hlv := hvb.lt
    have hlg := HT.out.tr.top.lt
    have hgm := HT.out.tr.manyC
    have hgf := HT.out.tr.topFree 1
    have hne : nd 3 (k / 16) ≠ g := HT.out.tr.nd_ne (by omega) hp3
    have HX := Lib.hid hx
    have HPS := Lib.hid hps
    have HD : Hid (∀ o, DropMid w (((w1.setCell ⟨nd 3 (k / 16), 16 + k % 16, none⟩ (.pointer none)).setCell ⟨g, 1, none⟩ (.int .i64 m)).alloc o) base g ex nd f m k 3) := fun o =>
      (DropMid.start HT.out hv (Fr.of_below0 HB1.out)).below0 ((Below.refl _ _).alloc (Nat.le_refl _) _)
    generalize nd 3 (k / 16) = b3 at *
    generalize nd 4 k = bv at *
    generalize k % 16 = dg at *
    have b5 : (dg : Int) < 16 := by omega
    have b6 : (0 : Int) ≤ dg := by omega
    obtain ⟨n, rfl⟩ := hok
    have hc0 : w1.cell? ⟨bv, 0, none⟩ = some (.int .u64 n) := hvb.cell 0
    clear hI hB1 hx hps hvb hv hp3 hp4 hn3 e3 e4
    go_wp2_with (go_at_call 60; refine (HA.out _).mono ?_; rintro x w2 ⟨rfl, rfl⟩)
    have HS := HD.out (.cells #[.pointer (ps 0), .pointer (ps 1), .pointer (ps 2), .pointer (some ⟨b3, 0, none⟩)] 119)
    have hBk : Bk (((w1.setCell ⟨b3, 16 + dg, none⟩ (.pointer none)).setCell ⟨g, 1, none⟩ (.int .i64 m)).alloc (.cells #[.pointer (ps 0), .pointer (ps 1), .pointer (ps 2), .pointer (some ⟨b3, 0, none⟩)] 119)) w1.heap.size 119 (psA ps) := by
      unfold psA
      rw [hps3]
      exact Bk.new_at _ _ _ (by simp [World.setCell])
    replace HS := Lib.hid HS
    replace hBk := Lib.hid hBk
    generalize w1.heap.size = ar at *
    clear HD HT hlg hgm hgf hl3 hne hlv HA h16 hdf hd b5 b6 hc0 HB1
    go_loopw [4, 8] (fun x4 i wr => x4 = .int .u64 n ∧ Bk wr ar 119 (psA ps) ∧ ((∃ l : Nat, l ≤ 3 ∧ i = .int .i64 (l : Int) ∧ DropMid w wr base g ex nd f m k l) ∨ (i = .int .i64 (-1) ∧ ∃ r, wr.cell? ⟨g, 0, none⟩ = some r ∧ wr.frozen? ⟨g, 0, none⟩ = false ∧ RxAt (wr.setCell ⟨g, 0, none⟩ (.pointer none)) base g (fun _ _ => false) nd (updF f k none) m ∧ Fr (TrS g ex nd) w (wr.setCell ⟨g, 0, none⟩ (.pointer none))))) (fun _ i _ => ((intOf i) + 1).toNat)
    case atStart => exact ⟨rfl, hBk.out, .inl ⟨3, by omega, rfl, HS.out⟩⟩
    case round =>
      clear HS hBk
      obtain ⟨rfl, hA, ⟨l, hl, rfl, hS⟩ | ⟨rfl, r, hr, hrf, hF⟩⟩ := hrel
      · have hp0 := HX.out l (by omega)
        have hps0 := HPS.out l hl
        have hca : wr.cell? ⟨ar, l, none⟩ = some (.pointer (some ⟨nd l (k / rxD l), 0, none⟩)) := by
          rw [hA.cell, psA_get ps hl, hps0]
        have hpr : rmP ex k l l (k / rxD l) = true := by rw [rmP_old (Nat.le_refl _)]; exact hp0
        have hmc := hS.tr.mnC hl hpr
        simp only [and_self, if_true] at hmc
        have hmf := hS.tr.nodeFree hl hpr 32
        have hnc := hS.tr.nodesC
        have hnf := hS.tr.topFree 2
        have hne : nd l (k / rxD l) ≠ g := hS.tr.nd_ne hl hpr
        have hkl := kids_le (rmP ex k l) l (k / rxD l)
        have hcl := cntN_le (rmP ex k l)
        have hli : (l : Int) < 4 := by omega
        have hl0 : (0 : Int) ≤ l := by omega
        have HS := Lib.hid hS
        have HA' := Lib.hid hA
        cases hkk : kids (rmP ex k l) l (k / rxD l) with
        | succ kk =>
          have HF : Hid (∀ W, W = wr.setCell ⟨nd l (k / rxD l), 32, none⟩ (.int .i64 ((kk : Int) + 1)) → DropPost w base g ex nd f (m + 1) (k : Int) W) := by
            rintro _ rfl
            refine ⟨rmP ex k l, nd, ?_, ?_⟩
            · rw [HN.out, Int.toNat_natCast]
              have := HS.out.stop HR.out.full HR.out.lt HR.out.ok hl hp0 (by omega)
              rw [hkk] at this
              exact this
            · have := (HS.out.count hl hp0).2
              rw [hkk] at this
              exact this
          rw [hkk] at hmc hkl
          have hki : (0 : Int) < (kk : Int) + 1 := by omega
          generalize nd l (k / rxD l) = b at *
          clear hS hA hpr hkk hp0 hps0
          go_wp2_with fail
          go_ret2
          refine ⟨?_, HF.out _ rfl⟩
          rw [HN.out]
          rfl
        | zero =>
          obtain ⟨nn, hnn⟩ : ∃ nn, cntN (rmP ex k l) = nn + 1 := by
            have := cntN_down (ex := rmP ex k l) (l := l) hl (rxD_lt (by omega) hk) hpr
            exact ⟨_, this⟩
          rw [hnn] at hnc hcl
          rw [hkk] at hmc
          rcases l with _ | l
          · have HF : Hid (∀ W, W = ((wr.setCell ⟨nd 0 (k / rxD 0), 32, none⟩ (.int .i64 0)).setCell ⟨g, 2, none⟩ (.int .i64 nn)) → Bk W ar 119 (psA ps) ∧ ∃ r, W.cell? ⟨g, 0, none⟩ = some r ∧ W.frozen? ⟨g, 0, none⟩ = false ∧ RxAt (W.setCell ⟨g, 0, none⟩ (.pointer none)) base g (fun _ _ => false) nd (updF f k none) m ∧ Fr (TrS g ex nd) w (W.setCell ⟨g, 0, none⟩ (.pointer none))) := by
              rintro _ rfl
              have hT := ((HS.out.tr.top.far (p := ⟨nd 0 (k / rxD 0), 32, none⟩) (fun e => hne e.symm) (.int .i64 0)).set 2 (.int .i64 nn))
              obtain ⟨cs, hb0⟩ := (HS.out.tr.node 0 _ hl hpr).ty
              have hAF := (HA'.out.far (p := ⟨nd 0 (k / rxD 0), 32, none⟩) (HA'.out.ne hb0 (by decide)) (.int .i64 0)).far (p := ⟨g, 2, none⟩) (HA'.out.ne HS.out.tr.top (by decide)) (.int .i64 nn)
              exact ⟨hAF, _, hT.cell 0, hT.free 0, HS.out.last HR.out.full HR.out.lt hk hp0 hkk hnn rfl⟩
            generalize nd 0 (k / rxD 0) = b at *
            clear hS hA hpr hkk hp0 hps0 hnn
            go_wp2_with fail
            go_roundw
            case rel =>
              obtain ⟨h1, h2⟩ := HF.out _ rfl
              exact ⟨rfl, h1, .inr ⟨rfl, h2⟩⟩
            case measure => simp [intOf]
          · have hp1 := HX.out l (by omega)
            have hpr1 : rmP ex k (l + 1) l (k / rxD l) = true := by rw [rmP_old (by omega)]; exact hp1
            have hca1 : wr.cell? ⟨ar, l, none⟩ = some (.pointer (some ⟨nd l (k / rxD l), 0, none⟩)) := by
              rw [hA.cell, psA_get ps (by omega), HPS.out l (by omega)]
            have h16 : k / rxD (l + 1) % 16 < 16 := by omega
            have hdc := hS.tr.dnC (by omega : l ≤ 2) hpr1 h16
            have hdf := hS.tr.nodeFree (by omega) hpr1 (k / rxD (l + 1) % 16)
            have HA2 := Lib.hid (fun W => rxAt W (key := k) (by omega : l ≤ 3))
            have hbc : nd l (k / rxD l) ≠ nd (l + 1) (k / rxD (l + 1)) := fun e => by
              have := (hS.tr.apart _ _ _ _ (by omega) hl hpr1 hpr e).1
              omega
            have HF : Hid (∀ W1, W1 = ((wr.setCell ⟨nd (l + 1) (k / rxD (l + 1)), 32, none⟩ (.int .i64 0)).setCell ⟨g, 2, none⟩ (.int .i64 nn)) → W1.cell? ⟨ar, l, none⟩ = some (.pointer (some ⟨nd l (k / rxD l), 0, none⟩)) ∧ W1.cell? ⟨nd l (k / rxD l), k / rxD (l + 1) % 16, none⟩ = some (ptrIf (rmP ex k (l + 1) (l + 1) (16 * (k / rxD l) + k / rxD (l + 1) % 16)) (nd (l + 1) (16 * (k / rxD l) + k / rxD (l + 1) % 16))) ∧
                W1.frozen? ⟨nd l (k / rxD l), k / rxD (l + 1) % 16, none⟩ = false ∧ Bk ((W1.drew).setCell ⟨nd l (k / rxD l), k / rxD (l + 1) % 16, none⟩ (.pointer none)) ar 119 (psA ps) ∧ DropMid w ((W1.drew).setCell ⟨nd l (k / rxD l), k / rxD (l + 1) % 16, none⟩ (.pointer none)) base g ex nd f m k l) := by
              rintro _ rfl
              obtain ⟨cs, hb0⟩ := (HS.out.tr.node _ _ hl hpr).ty
              obtain ⟨cs1, hb1⟩ := (HS.out.tr.node _ _ (by omega) hpr1).ty
              have hA1 := ((HA'.out.far (p := ⟨nd (l + 1) (k / rxD (l + 1)), 32, none⟩) (HA'.out.ne hb0 (by decide)) (.int .i64 0)).far (p := ⟨g, 2, none⟩) (HA'.out.ne HS.out.tr.top (by decide)) (.int .i64 nn))
              have hAF := (hA1.drew).far (p := ⟨nd l (k / rxD l), k / rxD (l + 1) % 16, none⟩) (HA'.out.ne hb1 (by decide)) (.pointer none)
              have hF1 : Fr (fun x => x = nd (l + 1) (k / rxD (l + 1)) ∨ x = g) wr ((wr.setCell ⟨nd (l + 1) (k / rxD (l + 1)), 32, none⟩ (.int .i64 0)).setCell ⟨g, 2, none⟩ (.int .i64 nn)) := ((Fr.refl _ wr).set _ _ fun _ => .inl rfl).set _ _ fun _ => .inr rfl
              have hn1 := (HS.out.tr.node _ _ (by omega) hpr1).fr hF1 (fun hh => hh.elim hbc (HS.out.tr.nd_ne (by omega) hpr1))
              refine ⟨?_, ?_, hn1.free _, hAF, HS.out.down HR.out.full (by omega) hp0 hkk hnn hk rfl⟩
              · rw [hA1.cell, psA_get ps (by omega), HPS.out l (by omega)]
              · rw [hn1.dn h16]
                unfold dnOf
                rw [if_neg (by omega)]
            generalize ptrIf (rmP ex k (l + 1) (l + 1) (16 * (k / rxD l) + k / rxD (l + 1) % 16)) (nd (l + 1) (16 * (k / rxD l) + k / rxD (l + 1) % 16)) = old at *
            generalize nd (l + 1) (k / rxD (l + 1)) = b at *
            generalize nd l (k / rxD l) = c at *
            generalize k / rxD (l + 1) % 16 = dg2 at *
            have b5 : (dg2 : Int) < 16 := by omega
            have b6 : (0 : Int) ≤ dg2 := by omega
            have l1 : (l : Int) < 4 := by omega
            have l2 : (0 : Int) ≤ l := by omega
            have hw1 : IntKind.i64.wrap (l : Int) = (l : Int) := IntWalk.i64_in _ (by omega)
            have hcb : b ≠ c := fun e => hbc e.symm
            clear hS hA hpr hkk hp0 hps0 hnn hpr1 hp1
            go_upto_region 16 with fail
            generalize hW1 : (wr.setCell ⟨b, 32, none⟩ (.int .i64 0)).setCell ⟨g, 2, none⟩ (.int .i64 nn) = W1
            obtain ⟨y1, y2, y3, y4, y5⟩ := HF.out _ hW1.symm
            have H4 := Lib.hid y4
            have H5 := Lib.hid y5
            clear y4 y5 hW1 HF hdc hca1 hdf hca hmc hmf hnc hnf HS HA'
            go_still_tail 11, (by kernel_rfl)
            still_call (HA2.out _)
            repeat still_step
            refine wpStill_nil ?_
            change wpList _ _ _ _ _ W1.drew
            go_wp2_with fail
            go_roundw
            case rel => exact ⟨rfl, H4.out, .inl ⟨l, by omega, by go_num, H5.out⟩⟩
            case measure => simp [intOf]; omega
      · have HF := Lib.hid hF
        clear hF hA
        go_wp2
        go_ret2
        refine ⟨?_, fun _ _ => false, nd, ?_, HF.out.2⟩
        · rw [HN.out]
          rfl
        · rw [HN.out, Int.toNat_natCast]
          exact HF.out.1
end
end Go.Proofs.YteifdbfaclpcdaaR.Ru
