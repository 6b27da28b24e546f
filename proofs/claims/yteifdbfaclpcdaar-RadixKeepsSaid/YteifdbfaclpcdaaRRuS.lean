/- Radix: what a node that leads on tells. -/
import Derived.Test.YteifdbfaclpcdaaRRuQ
namespace Go.Proofs.YteifdbfaclpcdaaR.Ru
open Go.RowKit
section
variable {w0 w w' : World} {base g many pl pm : Nat} {ex : Nat → Nat → Bool} {nd : Nat → Nat → Nat} {f : Nat → Option Value} {most : Int} {v v' : Value} {acc acc' : Ks}
theorem Full.none_in (h : RxAt w base g ex nd f many) {l q : Nat} (hl : l ≤ 4) (hq : ex l q = false) : ∀ k, q * rxD l ≤ k → k < q * rxD l + rxD l → f k = none := by
  intro k h1 h2
  cases hf : f k with
  | none => rfl
  | some x =>
    have h3 : k / rxD l = q := by
      have h0 := rxD_pos l
      refine Nat.div_eq_of_lt_le ?_ ?_
      · rw [Nat.mul_comm] at h1; rw [Nat.mul_comm]; exact h1
      · rw [Nat.succ_mul]; exact h2
    have := (h.full l q hl).2 ⟨k, by rw [hf]; simp, h3⟩
    rw [hq] at this
    cases this
set_option maxRecDepth 100000 in
set_option maxHeartbeats 4000000 in
theorem tell2 {fr : Int} (ih : TellOk w0 base g ex nd f many pl pm most fr 3) : TellOk w0 base g ex nd f many pl pm most fr 2 := by
  rintro w p bs v acc rfl hp hacc h
  have HH := Lib.hid h
  have hpb := h.rx.bnd (by omega) hp
  have HA := Lib.hid hacc
  have HIH := Lib.hid ih
  have hpl : p < 256 := hpb
  have e1 : ((p * rxD 2 : Nat) : Int) = (p : Int) * 256 := by rw [rxD_2]; omega
  rw [e1]
  clear h hacc hpb e1 ih
  go_enter Try.func78, Try.ntmps78
  go_wp2_with fail
  go_loopw [20] (fun i wr => ∃ (d : Nat) (v1 : Value) (a1 : Ks), d ≤ 16 ∧ i = .int .i64 (d : Int) ∧ feed (goK most) acc (seg f fr (p * rxD 2) (d * 16)) = (a1, true) ∧ TlAt w0 wr base g ex nd f many pl pm most v1 a1) (fun i _ => 16 - (intOf i).toNat)
  case atStart => exact ⟨0, v, acc, by omega, rfl, rfl, HH.out⟩
  case round =>
    clear HH
    obtain ⟨d, v1, a1, hd, rfl, hf, hT⟩ := hrel
    rcases Nat.lt_or_ge d 16 with hlt | hge
    · have HT := Lib.hid hT
      have HF := Lib.hid hf
      have eq1 : (16 * p + d) * rxD 3 = p * rxD 2 + d * 16 := by rw [rxD_2, rxD_3]; omega
      have ha1 : a1.length ≤ (16 * p + d) * rxD 3 := by
        have h1 := feed_len_le (goK most) (seg f fr (p * rxD 2) (d * 16)) acc
        have h2 := seg_len f fr (p * rxD 2) (d * 16)
        have h3 := HA.out
        rw [hf] at h1
        simp only at h1
        omega
      have hS : seg f fr (p * rxD 2) ((d + 1) * 16) = seg f fr (p * rxD 2) (d * 16) ++ seg f fr ((16 * p + d) * rxD 3) (rxD 3) := by
        rw [eq1, show (d + 1) * 16 = d * 16 + 16 by omega, seg_add, show rxD 3 = 16 from rfl]
      have hhc := hT.rx.tr.dnC (by omega) hp hlt
      have hn := (hT.rx.tr.node 2 p (by omega) hp).hs hlt
      unfold hsOf at hn
      rw [if_neg (by omega)] at hn
      have hdi : (d : Int) < 16 := by omega
      by_cases hsk : (p : Int) * 256 + (d : Int) * 16 + 16 ≤ fr
      · rw [seg_skip (a := (16 * p + d) * rxD 3) (n := rxD 3) (by rw [eq1, rxD_2, rxD_3]; omega), List.append_nil] at hS
        have HF2 : Hid (feed (goK most) acc (seg f fr (p * rxD 2) ((d + 1) * 16)) = (a1, true)) := by rw [hS]; exact hf
        clear hS hf hT hhc hn ha1 eq1
        go_wp2_with fail
        go_roundw
        case rel => exact ⟨d + 1, v1, a1, by omega, by go_num, HF2.out, HT.out⟩
        case measure => simp [intOf]; omega
      · have hsk3 : fr < (p : Int) * 256 + (d : Int) * 16 + 16 := by omega
        cases hx : ex (2 + 1) (16 * p + d)
        · rw [seg_none (Full.none_in hT.rx (by omega) hx), List.append_nil] at hS
          rw [hx] at hhc
          simp only [ptrIf, Bool.false_eq_true, if_false] at hhc
          have HF2 : Hid (feed (goK most) acc (seg f fr (p * rxD 2) ((d + 1) * 16)) = (a1, true)) := by rw [hS]; exact hf
          clear hS hf hT ha1 eq1
          go_wp2_with (go_at_call 78; refine (tellNil _ _ _ _ _).mono ?_; rintro x w9 ⟨rfl, rfl⟩)
          go_roundw
          case rel =>
            (repeat apply Exists.intro (α := Value))
            exact ⟨⟨d + 1, v1, a1, by omega, by go_num, HF2.out, HT.out⟩, rfl⟩
          case measure => simp [intOf]; omega
        · rw [hx] at hhc
          simp only [ptrIf, if_true] at hhc
          have HY := Lib.hid (HIH.out wr (16 * p + d) ((p : Int) * 256 + (d : Int) * 16) v1 a1 (by rw [eq1, rxD_2]; omega) hx ha1 hT)
          obtain ⟨a2, b, hab⟩ : ∃ a2 b, feed (goK most) a1 (seg f fr ((16 * p + d) * rxD 3) (rxD 3)) = (a2, b) := ⟨_, _, rfl⟩
          unfold TellPost at HY
          rw [hab] at HY
          simp only at HY
          generalize nd (2 + 1) (16 * p + d) = vb at *
          cases b
          · have HF2 : Hid (feed (goK most) acc (seg f fr (p * rxD 2) (rxD 2)) = (a2, false)) := by
              show _ = _
              have e3 : seg f fr (p * rxD 2) (rxD 2) = seg f fr (p * rxD 2) ((d + 1) * 16) ++ seg f fr (p * rxD 2 + (d + 1) * 16) (256 - (d + 1) * 16) := by
                rw [← seg_add, show (d + 1) * 16 + (256 - (d + 1) * 16) = rxD 2 by rw [rxD_2]; omega]
              rw [e3, hS]
              refine feed_off ?_ _
              rw [feed_on hf, hab]
            clear hS hf hT ha1 eq1 hab
            go_wp2_with (go_at_call 78; refine HY.out.mono ?_; rintro x w9 ⟨v9, rfl, hT9⟩)
            go_ret
            refine ⟨v9, ?_, ?_⟩
            · rw [HF2.out]
              rfl
            · rw [HF2.out]
              exact hT9
          · have HF2 : Hid (feed (goK most) acc (seg f fr (p * rxD 2) ((d + 1) * 16)) = (a2, true)) := by
              show _ = _
              rw [hS, feed_on hf, hab]
            clear hS hf hT ha1 eq1 hab
            go_wp2_with (go_at_call 78; refine HY.out.mono ?_; rintro x w9 ⟨v9, rfl, hT9⟩; have HT9 := Lib.hid hT9; clear hT9)
            go_roundw
            case rel =>
              (repeat apply Exists.intro (α := Value))
              exact ⟨⟨d + 1, v9, _, by omega, by go_num, HF2.out, HT9.out⟩, rfl⟩
            case measure => simp [intOf]; omega
    · obtain rfl : d = 16 := by omega
      have HT := Lib.hid hT
      have HF := Lib.hid hf
      clear hT hf
      go_wp2_with fail
      go_ret
      refine ⟨v1, ?_, ?_⟩
      · rw [show seg f fr (p * rxD 2) (rxD 2) = seg f fr (p * rxD 2) (16 * 16) from rfl, HF.out]
        rfl
      · rw [show seg f fr (p * rxD 2) (rxD 2) = seg f fr (p * rxD 2) (16 * 16) from rfl, HF.out]
        exact HT.out
set_option maxRecDepth 100000 in
set_option maxHeartbeats 4000000 in
theorem tell1 {fr : Int} (ih : TellOk w0 base g ex nd f many pl pm most fr 2) : TellOk w0 base g ex nd f many pl pm most fr 1 := by
  rintro w p bs v acc rfl hp hacc h
  have HH := Lib.hid h
  have hpb := h.rx.bnd (by omega) hp
  have HA := Lib.hid hacc
  have HIH := Lib.hid ih
  have hpl : p < 16 := hpb
  have e1 : ((p * rxD 1 : Nat) : Int) = (p : Int) * 4096 := by rw [rxD_1]; omega
  rw [e1]
  clear h hacc hpb e1 ih
  go_enter Try.func78, Try.ntmps78
  go_wp2_with fail
  go_loopw [20] (fun i wr => ∃ (d : Nat) (v1 : Value) (a1 : Ks), d ≤ 16 ∧ i = .int .i64 (d : Int) ∧ feed (goK most) acc (seg f fr (p * rxD 1) (d * 256)) = (a1, true) ∧ TlAt w0 wr base g ex nd f many pl pm most v1 a1) (fun i _ => 16 - (intOf i).toNat)
  case atStart => exact ⟨0, v, acc, by omega, rfl, rfl, HH.out⟩
  case round =>
    clear HH
    obtain ⟨d, v1, a1, hd, rfl, hf, hT⟩ := hrel
    rcases Nat.lt_or_ge d 16 with hlt | hge
    · have HT := Lib.hid hT
      have HF := Lib.hid hf
      have eq1 : (16 * p + d) * rxD 2 = p * rxD 1 + d * 256 := by rw [rxD_1, rxD_2]; omega
      have ha1 : a1.length ≤ (16 * p + d) * rxD 2 := by
        have h1 := feed_len_le (goK most) (seg f fr (p * rxD 1) (d * 256)) acc
        have h2 := seg_len f fr (p * rxD 1) (d * 256)
        have h3 := HA.out
        rw [hf] at h1
        simp only at h1
        omega
      have hS : seg f fr (p * rxD 1) ((d + 1) * 256) = seg f fr (p * rxD 1) (d * 256) ++ seg f fr ((16 * p + d) * rxD 2) (rxD 2) := by
        rw [eq1, show (d + 1) * 256 = d * 256 + 256 by omega, seg_add, show rxD 2 = 256 from rfl]
      have hhc := hT.rx.tr.dnC (by omega) hp hlt
      have hn := (hT.rx.tr.node 1 p (by omega) hp).hs hlt
      unfold hsOf at hn
      rw [if_neg (by omega)] at hn
      have hdi : (d : Int) < 16 := by omega
      by_cases hsk : (p : Int) * 4096 + (d : Int) * 256 + 256 ≤ fr
      · rw [seg_skip (a := (16 * p + d) * rxD 2) (n := rxD 2) (by rw [eq1, rxD_1, rxD_2]; omega), List.append_nil] at hS
        have HF2 : Hid (feed (goK most) acc (seg f fr (p * rxD 1) ((d + 1) * 256)) = (a1, true)) := by rw [hS]; exact hf
        clear hS hf hT hhc hn ha1 eq1
        go_wp2_with fail
        go_roundw
        case rel => exact ⟨d + 1, v1, a1, by omega, by go_num, HF2.out, HT.out⟩
        case measure => simp [intOf]; omega
      · have hsk3 : fr < (p : Int) * 4096 + (d : Int) * 256 + 256 := by omega
        cases hx : ex (1 + 1) (16 * p + d)
        · rw [seg_none (Full.none_in hT.rx (by omega) hx), List.append_nil] at hS
          rw [hx] at hhc
          simp only [ptrIf, Bool.false_eq_true, if_false] at hhc
          have HF2 : Hid (feed (goK most) acc (seg f fr (p * rxD 1) ((d + 1) * 256)) = (a1, true)) := by rw [hS]; exact hf
          clear hS hf hT ha1 eq1
          go_wp2_with (go_at_call 78; refine (tellNil _ _ _ _ _).mono ?_; rintro x w9 ⟨rfl, rfl⟩)
          go_roundw
          case rel =>
            (repeat apply Exists.intro (α := Value))
            exact ⟨⟨d + 1, v1, a1, by omega, by go_num, HF2.out, HT.out⟩, rfl⟩
          case measure => simp [intOf]; omega
        · rw [hx] at hhc
          simp only [ptrIf, if_true] at hhc
          have HY := Lib.hid (HIH.out wr (16 * p + d) ((p : Int) * 4096 + (d : Int) * 256) v1 a1 (by rw [eq1, rxD_1]; omega) hx ha1 hT)
          obtain ⟨a2, b, hab⟩ : ∃ a2 b, feed (goK most) a1 (seg f fr ((16 * p + d) * rxD 2) (rxD 2)) = (a2, b) := ⟨_, _, rfl⟩
          unfold TellPost at HY
          rw [hab] at HY
          simp only at HY
          generalize nd (1 + 1) (16 * p + d) = vb at *
          cases b
          · have HF2 : Hid (feed (goK most) acc (seg f fr (p * rxD 1) (rxD 1)) = (a2, false)) := by
              show _ = _
              have e3 : seg f fr (p * rxD 1) (rxD 1) = seg f fr (p * rxD 1) ((d + 1) * 256) ++ seg f fr (p * rxD 1 + (d + 1) * 256) (4096 - (d + 1) * 256) := by
                rw [← seg_add, show (d + 1) * 256 + (4096 - (d + 1) * 256) = rxD 1 by rw [rxD_1]; omega]
              rw [e3, hS]
              refine feed_off ?_ _
              rw [feed_on hf, hab]
            clear hS hf hT ha1 eq1 hab
            go_wp2_with (go_at_call 78; refine HY.out.mono ?_; rintro x w9 ⟨v9, rfl, hT9⟩)
            go_ret
            refine ⟨v9, ?_, ?_⟩
            · rw [HF2.out]
              rfl
            · rw [HF2.out]
              exact hT9
          · have HF2 : Hid (feed (goK most) acc (seg f fr (p * rxD 1) ((d + 1) * 256)) = (a2, true)) := by
              show _ = _
              rw [hS, feed_on hf, hab]
            clear hS hf hT ha1 eq1 hab
            go_wp2_with (go_at_call 78; refine HY.out.mono ?_; rintro x w9 ⟨v9, rfl, hT9⟩; have HT9 := Lib.hid hT9; clear hT9)
            go_roundw
            case rel =>
              (repeat apply Exists.intro (α := Value))
              exact ⟨⟨d + 1, v9, _, by omega, by go_num, HF2.out, HT9.out⟩, rfl⟩
            case measure => simp [intOf]; omega
    · obtain rfl : d = 16 := by omega
      have HT := Lib.hid hT
      have HF := Lib.hid hf
      clear hT hf
      go_wp2_with fail
      go_ret
      refine ⟨v1, ?_, ?_⟩
      · rw [show seg f fr (p * rxD 1) (rxD 1) = seg f fr (p * rxD 1) (16 * 256) from rfl, HF.out]
        rfl
      · rw [show seg f fr (p * rxD 1) (rxD 1) = seg f fr (p * rxD 1) (16 * 256) from rfl, HF.out]
        exact HT.out
set_option maxRecDepth 100000 in
set_option maxHeartbeats 4000000 in
theorem tell0 {fr : Int} (ih : TellOk w0 base g ex nd f many pl pm most fr 1) : TellOk w0 base g ex nd f many pl pm most fr 0 := by
  rintro w p bs v acc rfl hp hacc h
  have HH := Lib.hid h
  have hpb := h.rx.bnd (by omega) hp
  have HA := Lib.hid hacc
  have HIH := Lib.hid ih
  have hpl : p < 1 := hpb
  have e1 : ((p * rxD 0 : Nat) : Int) = (p : Int) * 65536 := by rw [rxD_0]; omega
  rw [e1]
  clear h hacc hpb e1 ih
  go_enter Try.func78, Try.ntmps78
  go_wp2_with fail
  go_loopw [20] (fun i wr => ∃ (d : Nat) (v1 : Value) (a1 : Ks), d ≤ 16 ∧ i = .int .i64 (d : Int) ∧ feed (goK most) acc (seg f fr (p * rxD 0) (d * 4096)) = (a1, true) ∧ TlAt w0 wr base g ex nd f many pl pm most v1 a1) (fun i _ => 16 - (intOf i).toNat)
  case atStart => exact ⟨0, v, acc, by omega, rfl, rfl, HH.out⟩
  case round =>
    clear HH
    obtain ⟨d, v1, a1, hd, rfl, hf, hT⟩ := hrel
    rcases Nat.lt_or_ge d 16 with hlt | hge
    · have HT := Lib.hid hT
      have HF := Lib.hid hf
      have eq1 : (16 * p + d) * rxD 1 = p * rxD 0 + d * 4096 := by rw [rxD_0, rxD_1]; omega
      have ha1 : a1.length ≤ (16 * p + d) * rxD 1 := by
        have h1 := feed_len_le (goK most) (seg f fr (p * rxD 0) (d * 4096)) acc
        have h2 := seg_len f fr (p * rxD 0) (d * 4096)
        have h3 := HA.out
        rw [hf] at h1
        simp only at h1
        omega
      have hS : seg f fr (p * rxD 0) ((d + 1) * 4096) = seg f fr (p * rxD 0) (d * 4096) ++ seg f fr ((16 * p + d) * rxD 1) (rxD 1) := by
        rw [eq1, show (d + 1) * 4096 = d * 4096 + 4096 by omega, seg_add, show rxD 1 = 4096 from rfl]
      have hhc := hT.rx.tr.dnC (by omega) hp hlt
      have hn := (hT.rx.tr.node 0 p (by omega) hp).hs hlt
      unfold hsOf at hn
      rw [if_neg (by omega)] at hn
      have hdi : (d : Int) < 16 := by omega
      by_cases hsk : (p : Int) * 65536 + (d : Int) * 4096 + 4096 ≤ fr
      · rw [seg_skip (a := (16 * p + d) * rxD 1) (n := rxD 1) (by rw [eq1, rxD_0, rxD_1]; omega), List.append_nil] at hS
        have HF2 : Hid (feed (goK most) acc (seg f fr (p * rxD 0) ((d + 1) * 4096)) = (a1, true)) := by rw [hS]; exact hf
        clear hS hf hT hhc hn ha1 eq1
        go_wp2_with fail
        go_roundw
        case rel => exact ⟨d + 1, v1, a1, by omega, by go_num, HF2.out, HT.out⟩
        case measure => simp [intOf]; omega
      · have hsk3 : fr < (p : Int) * 65536 + (d : Int) * 4096 + 4096 := by omega
        cases hx : ex (0 + 1) (16 * p + d)
        · rw [seg_none (Full.none_in hT.rx (by omega) hx), List.append_nil] at hS
          rw [hx] at hhc
          simp only [ptrIf, Bool.false_eq_true, if_false] at hhc
          have HF2 : Hid (feed (goK most) acc (seg f fr (p * rxD 0) ((d + 1) * 4096)) = (a1, true)) := by rw [hS]; exact hf
          clear hS hf hT ha1 eq1
          go_wp2_with (go_at_call 78; refine (tellNil _ _ _ _ _).mono ?_; rintro x w9 ⟨rfl, rfl⟩)
          go_roundw
          case rel =>
            (repeat apply Exists.intro (α := Value))
            exact ⟨⟨d + 1, v1, a1, by omega, by go_num, HF2.out, HT.out⟩, rfl⟩
          case measure => simp [intOf]; omega
        · rw [hx] at hhc
          simp only [ptrIf, if_true] at hhc
          have HY := Lib.hid (HIH.out wr (16 * p + d) ((p : Int) * 65536 + (d : Int) * 4096) v1 a1 (by rw [eq1, rxD_0]; omega) hx ha1 hT)
          obtain ⟨a2, b, hab⟩ : ∃ a2 b, feed (goK most) a1 (seg f fr ((16 * p + d) * rxD 1) (rxD 1)) = (a2, b) := ⟨_, _, rfl⟩
          unfold TellPost at HY
          rw [hab] at HY
          simp only at HY
          generalize nd (0 + 1) (16 * p + d) = vb at *
          cases b
          · have HF2 : Hid (feed (goK most) acc (seg f fr (p * rxD 0) (rxD 0)) = (a2, false)) := by
              show _ = _
              have e3 : seg f fr (p * rxD 0) (rxD 0) = seg f fr (p * rxD 0) ((d + 1) * 4096) ++ seg f fr (p * rxD 0 + (d + 1) * 4096) (65536 - (d + 1) * 4096) := by
                rw [← seg_add, show (d + 1) * 4096 + (65536 - (d + 1) * 4096) = rxD 0 by rw [rxD_0]; omega]
              rw [e3, hS]
              refine feed_off ?_ _
              rw [feed_on hf, hab]
            clear hS hf hT ha1 eq1 hab
            go_wp2_with (go_at_call 78; refine HY.out.mono ?_; rintro x w9 ⟨v9, rfl, hT9⟩)
            go_ret
            refine ⟨v9, ?_, ?_⟩
            · rw [HF2.out]
              rfl
            · rw [HF2.out]
              exact hT9
          · have HF2 : Hid (feed (goK most) acc (seg f fr (p * rxD 0) ((d + 1) * 4096)) = (a2, true)) := by
              show _ = _
              rw [hS, feed_on hf, hab]
            clear hS hf hT ha1 eq1 hab
            go_wp2_with (go_at_call 78; refine HY.out.mono ?_; rintro x w9 ⟨v9, rfl, hT9⟩; have HT9 := Lib.hid hT9; clear hT9)
            go_roundw
            case rel =>
              (repeat apply Exists.intro (α := Value))
              exact ⟨⟨d + 1, v9, _, by omega, by go_num, HF2.out, HT9.out⟩, rfl⟩
            case measure => simp [intOf]; omega
    · obtain rfl : d = 16 := by omega
      have HT := Lib.hid hT
      have HF := Lib.hid hf
      clear hT hf
      go_wp2_with fail
      go_ret
      refine ⟨v1, ?_, ?_⟩
      · rw [show seg f fr (p * rxD 0) (rxD 0) = seg f fr (p * rxD 0) (16 * 4096) from rfl, HF.out]
        rfl
      · rw [show seg f fr (p * rxD 0) (rxD 0) = seg f fr (p * rxD 0) (16 * 4096) from rfl, HF.out]
        exact HT.out
end
end Go.Proofs.YteifdbfaclpcdaaR.Ru
