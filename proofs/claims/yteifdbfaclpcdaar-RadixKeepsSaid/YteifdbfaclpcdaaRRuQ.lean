/- Radix: what a node tells. -/
import Derived.Test.YteifdbfaclpcdaaRRuP
namespace Go.Proofs.YteifdbfaclpcdaaR.Ru
open Go.RowKit

/-- A tree, and a list that gathers. -/
structure TlAt (w0 w : World) (base g : Nat) (ex : Nat → Nat → Bool) (nd : Nat → Nat → Nat) (f : Nat → Option Value) (many pl pm : Nat) (most : Int) (v : Value) (acc : Ks) : Prop where
  rx : RxAt w base g ex nd f many
  yk : YkAt w w0.heap.size pl pm most v acc
  below : Below w0.heap.size w0 w
section
variable {w0 w w' : World} {base g many pl pm : Nat} {ex : Nat → Nat → Bool} {nd : Nat → Nat → Nat} {f : Nat → Option Value} {most : Int} {v v' : Value} {acc acc' : Ks}
theorem TlAt.step (h : TlAt w0 w base g ex nd f many pl pm most v acc) (hy : YkAt w' w0.heap.size pl pm most v' acc') (hF : Fr (YkS pl v) w w') : TlAt w0 w' base g ex nd f many pl pm most v' acc' := by
  refine ⟨h.rx.fr hF fun b _ hb t cs hbk => ?_, hy, h.below.trans (hF.below h.below.size fun k hk hh => ?_)⟩
  · have hty : t = 41 ∨ t = 80 := by
      rcases hb with rfl | hb
      · by_cases e : t = 41
        · exact .inl e
        · exact absurd rfl (hbk.ne h.yk.bl e)
      · by_cases e : t = 80
        · exact .inr e
        · exact absurd hb (owns_ne h.yk.own.row hbk (fun e2 => e e2.symm))
    rcases hty with rfl | rfl <;> exact ⟨by decide, by decide, by decide⟩
  · rcases hh with rfl | hh
    · have := h.yk.lo.1
      omega
    · have := (World.ownsRow.lt h.yk.own.row k hh).1
      omega
/-- What a node's tell leaves. -/
def TellPost (w0 : World) (base g : Nat) (ex : Nat → Nat → Bool) (nd : Nat → Nat → Nat) (f : Nat → Option Value) (many pl pm : Nat) (most fr : Int) (l p : Nat) (acc : Ks) (e : Ending) (w' : World) : Prop :=
  ∃ v', e = .returned (.bool (feed (goK most) acc (seg f fr (p * rxD l) (rxD l))).2) ∧ TlAt w0 w' base g ex nd f many pl pm most v' (feed (goK most) acc (seg f fr (p * rxD l) (rxD l))).1
def TellOk (w0 : World) (base g : Nat) (ex : Nat → Nat → Bool) (nd : Nat → Nat → Nat) (f : Nat → Option Value) (many pl pm : Nat) (most fr : Int) (l : Nat) : Prop :=
  ∀ (w : World) (p : Nat) (bs : Int) (v : Value) (acc : Ks), bs = (p * rxD l : Nat) → ex l p = true → acc.length ≤ p * rxD l → TlAt w0 w base g ex nd f many pl pm most v acc →
    Calls Try.prog 78 #[.pointer (some ⟨nd l p, 0, none⟩), .int .i64 bs, .int .i64 (l : Int), .int .i64 fr, .func (.func 62) #[] #[.pointer (some ⟨pl, 0, none⟩), .pointer (some ⟨pm, 0, none⟩)]] w
      (TellPost w0 base g ex nd f many pl pm most fr l p acc)
theorem tellNil (w : World) (bs l fr : Int) (x : Value) : Calls Try.prog 78 #[.pointer none, .int .i64 bs, .int .i64 l, .int .i64 fr, x] w fun e w' => e = .returned (.bool true) ∧ w = w' := by
  go_enter Try.func78, Try.ntmps78
  go_wp2_with fail
  go_ret
  exact ⟨rfl, rfl⟩
theorem RxAt.bnd (h : RxAt w base g ex nd f many) {l p : Nat} (hl : l ≤ 4) (hp : ex l p = true) : p < 16 ^ l := by
  obtain ⟨k, h1, h2⟩ := (h.full l p hl).1 hp
  rw [← h2]
  exact rxD_lt hl (h.lt k h1)
set_option maxRecDepth 100000 in
set_option maxHeartbeats 4000000 in
theorem tell3 (fr : Int) : TellOk w0 base g ex nd f many pl pm most fr 3 := by
  rintro w p bs v acc rfl hp hacc h
  have HH := Lib.hid h
  have hpb := h.rx.bnd (by omega) hp
  have HA := Lib.hid hacc
  have hpl : p < 4096 := hpb
  have e1 : ((p * rxD 3 : Nat) : Int) = (p : Int) * 16 := by rw [rxD_3]; omega
  rw [e1]
  clear h hacc hpb e1
  go_enter Try.func78, Try.ntmps78
  go_wp2_with fail
  go_loopw [20] (fun i wr => ∃ (d : Nat) (v1 : Value) (a1 : Ks), d ≤ 16 ∧ i = .int .i64 (d : Int) ∧ feed (goK most) acc (seg f fr (p * rxD 3) d) = (a1, true) ∧ TlAt w0 wr base g ex nd f many pl pm most v1 a1) (fun i _ => 16 - (intOf i).toNat)
  case atStart => exact ⟨0, v, acc, by omega, rfl, rfl, HH.out⟩
  case round =>
    clear HH
    obtain ⟨d, v1, a1, hd, rfl, hf, hT⟩ := hrel
    rcases Nat.lt_or_ge d 16 with hlt | hge
    · have HT := Lib.hid hT
      have HF := Lib.hid hf
      have ha1 : a1.length ≤ 100000 := by
        have h1 := feed_len_le (goK most) (seg f fr (p * rxD 3) d) acc
        have h2 := seg_len f fr (p * rxD 3) d
        have h3 := HA.out
        rw [hf] at h1
        rw [rxD_3] at h3
        simp only at h1
        omega
      have hS := seg_add f fr (p * rxD 3) d 1
      rw [seg_one, show p * rxD 3 + d = 16 * p + d by rw [rxD_3]; omega] at hS
      have hhc := hT.rx.tr.hsC hp hlt
      have hn := (hT.rx.tr.node 3 p (by omega) hp).dn hlt
      unfold dnOf at hn
      rw [if_pos rfl] at hn
      have hdi : (d : Int) < 16 := by omega
      by_cases hsk : ((16 * p + d : Nat) : Int) + 1 ≤ fr
      · rw [if_neg (by omega), List.append_nil] at hS
        have HF2 : Hid (feed (goK most) acc (seg f fr (p * rxD 3) (d + 1)) = (a1, true)) := by rw [hS]; exact hf
        have hsk2 : (p : Int) * 16 + (d : Int) + 1 ≤ fr := by omega
        clear hsk hS hf hT hhc hn
        go_wp2_with fail
        go_roundw
        case rel => exact ⟨d + 1, v1, a1, by omega, by go_num, HF2.out, HT.out⟩
        case measure => simp [intOf]; omega
      · rw [if_pos (by omega)] at hS
        have hsk2 : ¬ (p : Int) * 16 + (d : Int) + 1 ≤ fr := by omega
        have hsk3 : fr < (p : Int) * 16 + (d : Int) + 1 := by omega
        have hk4 : ex 4 (16 * p + d) = (f (16 * p + d)).isSome := hT.rx.full.key _
        cases hfx : f (16 * p + d) with
        | none =>
          rw [hfx] at hS hk4
          rw [hk4] at hhc
          simp only [Option.map_none, Option.toList_none, List.append_nil] at hS
          simp only [ptrIf, Option.isSome_none, Bool.false_eq_true, if_false] at hhc
          have HF2 : Hid (feed (goK most) acc (seg f fr (p * rxD 3) (d + 1)) = (a1, true)) := by rw [hS]; exact hf
          clear hsk hsk2 hS hf hT hk4
          go_wp2_with (go_at_call 78; refine (tellNil _ _ _ _ _).mono ?_; rintro x w9 ⟨rfl, rfl⟩)
          go_roundw
          case rel =>
            (repeat apply Exists.intro (α := Value))
            exact ⟨⟨d + 1, v1, a1, by omega, by go_num, HF2.out, HT.out⟩, rfl⟩
          case measure => simp [intOf]; omega
        | some x =>
          rw [hfx] at hS hk4
          have hx := hT.rx.ok _ _ hfx
          have hvb := hT.rx.tr.val _ _ hk4 hfx
          rw [hk4] at hhc
          simp only [Option.map_some, Option.toList_some] at hS
          simp only [ptrIf, Option.isSome_some, if_true] at hhc
          have HY := Lib.hid (yieldK hT.yk (16 * p + d) hx ha1 (zk := (p : Int) * 16 + (d : Int)) (by omega))
          have hfo := feed_one (goK most) a1 (16 * p + d, x)
          obtain ⟨n, rfl⟩ := hx
          have hc0 : wr.cell? ⟨nd 4 (16 * p + d), 0, none⟩ = some (.int .u64 n) := hvb.cell 0
          cases hb : goK most (a1 ++ [(16 * p + d, Value.int .u64 n)])
          · rw [hb] at HY hfo
            have HF2 : Hid (feed (goK most) acc (seg f fr (p * rxD 3) (rxD 3)) = (a1 ++ [(16 * p + d, .int .u64 n)], false)) := by
              show _ = _
              rw [show rxD 3 = d + 1 + (16 - (d + 1)) by rw [rxD_3]; omega]
              have e2 : p * (d + 1 + (16 - (d + 1))) = p * rxD 3 := by rw [rxD_3]; congr 1; omega
              rw [e2, seg_add, hS]
              refine feed_off ?_ _
              rw [feed_on hf, hfo]
            generalize nd 4 (16 * p + d) = vb at *
            clear hsk hsk2 hS hf hT hk4 hfo hb hvb
            go_wp2_with (go_at_call 62; refine HY.out.mono ?_; rintro x w9 ⟨rfl, v9, hy9, hF9, -⟩)
            go_ret
            refine ⟨v9, ?_, ?_⟩
            · rw [HF2.out]
              rfl
            · rw [HF2.out]
              exact HT.out.step hy9 hF9
          · rw [hb] at HY hfo
            have HF2 : Hid (feed (goK most) acc (seg f fr (p * rxD 3) (d + 1)) = (a1 ++ [(16 * p + d, .int .u64 n)], true)) := by
              show _ = _
              rw [hS, feed_on hf, hfo]
            have HPp := Lib.hid hp
            generalize nd 4 (16 * p + d) = vb at *
            clear hsk hsk2 hS hf hT hk4 hfo hb hvb
            go_wp2_with (first
              | (go_at_call 62; refine HY.out.mono ?_; rintro x w9 ⟨rfl, v9, hy9, hF9, -⟩; have HT9 := Lib.hid (HT.out.step hy9 hF9); have hn9 := (HT9.out.rx.tr.node 3 p (by omega) HPp.out).dn hlt; unfold dnOf at hn9; rw [if_pos rfl] at hn9; clear hy9 hF9)
              | (go_at_call 78; refine (tellNil _ _ _ _ _).mono ?_; rintro x w10 ⟨rfl, rfl⟩))
            go_roundw
            case rel =>
              (repeat apply Exists.intro (α := Value))
              exact ⟨⟨d + 1, v9, _, by omega, by go_num, HF2.out, HT9.out⟩, rfl⟩
            case measure => simp [intOf]; omega
    · obtain rfl : d = 16 := by omega
      have HT := Lib.hid hT
      have HF := Lib.hid hf
      clear hT hf
      go_wp2_with fail
      go_ret
      refine ⟨v1, ?_, ?_⟩
      · rw [show seg f fr (p * rxD 3) (rxD 3) = seg f fr (p * rxD 3) 16 from rfl, HF.out]
        rfl
      · rw [show seg f fr (p * rxD 3) (rxD 3) = seg f fr (p * rxD 3) 16 from rfl, HF.out]
        exact HT.out
end
end Go.Proofs.YteifdbfaclpcdaaR.Ru
