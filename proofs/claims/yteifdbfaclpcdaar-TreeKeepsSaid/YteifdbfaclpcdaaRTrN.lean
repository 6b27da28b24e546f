/- The walk of gunnylaw24.TreeKeeps. -/
import Derived.Test.YteifdbfaclpcdaaRTrM
import Derived.Deep.CutBlock
namespace Go.Proofs.YteifdbfaclpcdaaR.Rr
open Go.RowKit

section
variable {w w' : World} {base t n last : Nat} {f : Nat → Option Value} {fin : Nat → Bool}
theorem sqDrop (h : TwAt w base t f n fin last) (hbase : base ≤ w.heap.size) (key : Int) :
    Calls Try.prog 53 #[.pointer (some ⟨t, 0, none⟩), .int .i64 key] w fun e w' => ∃ v : Value, e = .returned v ∧ ∃ f' n' fin', TwAt w' base t f' n' fin' last ∧ (∀ q : Nat, (q : Int) ≠ key → f' q = f q) ∧ Below base w w' ∧ Kp w w' := by
  cases hg : getF f key with
  | none =>
    refine (twDropNo h hbase key hg).mono ?_
    rintro e w' ⟨rfl, hT, hB, hK⟩
    exact ⟨_, rfl, f, n, fin, hT, fun _ _ => rfl, hB, hK⟩
  | some u =>
    unfold getF at hg
    split at hg
    · rename_i h0
      obtain ⟨j, hj, hj2, hj3⟩ := (h.dom key.toNat).1 (by rw [hg]; simp)
      obtain ⟨r, hr, hD⟩ := twDropYes h hbase hj2 hj3
      rw [show (j : Int) + 1 = key by omega] at hD
      refine hD.mono ?_
      rintro e w' ⟨rfl, hT, hB, hK⟩
      refine ⟨_, rfl, _, _, _, hT, fun q hq => ?_, hB, hK⟩
      unfold updF
      rw [if_neg (by omega)]
    · cases hg
theorem own_cells {B k c : Nat} {A : Option Addr} {g : Nat → Rec} (h : w.ownsRow B 83 4 (.slice A k c) k (recCells g k)) {m : Nat} (hm : m < k) :
    ∃ b, A = some ⟨b, 0, none⟩ ∧ ∀ i, i < 4 → w.cell? ⟨b, m * 4 + i, none⟩ = (g (m + 1)).cs[i]? := by
  rcases h.2 with ⟨_, hk⟩ | ⟨b, cap, cur, e, _, hh, _, _, _, ht⟩
  · omega
  · injection e with e
    refine ⟨b, e, fun i hi => ?_⟩
    rw [(show Bk w b _ cur from hh).cell, ← recCells_get g hm hi, ← ht, List.getElem?_take_of_lt (by omega)]
    simp
theorem sqSet (h : TwAt w base t f n fin last) (hbase : base ≤ w.heap.size) (key : Int) (r : Rec) :
    Calls Try.prog 56 #[.pointer (some ⟨t, 0, none⟩), .int .i64 key, .agg #[.int .i64 r.a, .int .i64 r.b, .int .i64 r.c, .int .u64 r.d]] w fun e w' => ∃ b : Bool, e = .returned (.bool b) ∧
      ∃ f', TwAt w' base t f' n fin last ∧ (b = false → f' = f) ∧ (b = true → getF f' key = some r.v) ∧ (∀ q : Nat, (q : Int) ≠ key → f' q = f q) ∧ Below base w w' ∧ Kp w w' := by
  cases hc : ((getF f key).isSome && r.may)
  · refine (twSetNo h key r hc).mono ?_
    rintro e w' ⟨rfl, hB⟩
    exact ⟨false, rfl, f, h.below0 hB, fun _ => rfl, (fun e => by cases e), fun _ _ => rfl, hB.mono hbase, Kp.of_below hB⟩
  · simp only [Bool.and_eq_true] at hc
    obtain ⟨hc1, hc2⟩ := hc
    have h0 : 0 ≤ key := by
      rcases Int.lt_or_le key 0 with h0 | h0
      · unfold getF at hc1
        rw [if_neg (by omega)] at hc1
        cases hc1
      · exact h0
    obtain ⟨k, rfl⟩ := Int.eq_ofNat_of_zero_le h0
    have hk : f k ≠ none := fun e => by
      rw [getF_nat, e] at hc1
      cases hc1
    refine (twSetYes h hbase hk r hc2).mono ?_
    rintro e w' ⟨rfl, hT, hB, hK⟩
    refine ⟨true, rfl, _, hT, (fun e => by cases e), fun _ => ?_, fun q hq => ?_, hB, hK⟩
    · rw [getF_nat]
      unfold updF
      rw [if_pos rfl]
    · unfold updF
      rw [if_neg (by omega)]
end
set_option maxRecDepth 100000 in
theorem tkeeps_great (w : World) (A : Option Addr) (c n : Nat) (d : De) (hl : 40 < n) (_hn : n ≤ 9223372036854775807) :
    Calls Try.prog 13 #[.slice A n c, .agg #[.int .i64 d.kind, .int .i64 d.n, .int .i64 d.r.a, .int .i64 d.r.b, .int .i64 d.r.c, .int .u64 d.r.d]] w fun e w' => e = .returned (.bool true) ∧ Below w.heap.size w w' := by
  have hli : (40 : Int) < n := by omega
  go_enter Try.func13, Try.ntmps13
  go_wp2_with (go_at_call 54; refine (lives _).mono ?_; rintro x w7 ⟨rfl, hB7⟩)
  go_ret
  exact ⟨rfl, ((Below.refl _ _).alloc (Nat.le_refl _) _).trans (hB7.mono (by simp))⟩
set_option maxRecDepth 100000 in
set_option maxHeartbeats 8000000 in
theorem tkeeps_any (w : World) (A : Option Addr) (c : Nat) (l : List De) (hA : DesAt w w.heap.size A l) (hl : l.length ≤ 40) (d : De) :
    Calls Try.prog 13 #[.slice A l.length c, .agg #[.int .i64 d.kind, .int .i64 d.n, .int .i64 d.r.a, .int .i64 d.r.b, .int .i64 d.r.c, .int .u64 d.r.d]] w fun e w' => e = .returned (.bool true) ∧ Below w.heap.size w w' := by
  obtain ⟨dk, dn, da, db, dc, dd⟩ := d
  simp only
  have HA := Lib.hid hA
  clear hA
  have HB0 : Hid (Below w.heap.size w (w.alloc (.cells #[.int .i64 dk, .int .i64 dn, .int .i64 da, .int .i64 db, .int .i64 dc, .int .u64 dd] 94))) := (Below.refl _ _).alloc (Nat.le_refl _) _
  have HD0 : Hid (Bk (w.alloc (.cells #[.int .i64 dk, .int .i64 dn, .int .i64 da, .int .i64 db, .int .i64 dc, .int .u64 dd] 94)) w.heap.size 94 #[.int .i64 dk, .int .i64 dn, .int .i64 da, .int .i64 db, .int .i64 dc, .int .u64 dd]) := Bk.new _ _ _
  go_enter Try.func13, Try.ntmps13
  go_wp2_with fail
  generalize hwa : w.alloc (.cells #[.int .i64 dk, .int .i64 dn, .int .i64 da, .int .i64 db, .int .i64 dc, .int .u64 dd] 94) = wa at *
  clear hwa
  refine (twNew wa).mono ?_
  rintro e w1 ⟨t, rfl, h1, hB1⟩
  have H1 : Hid (SqAt w1 wa.heap.size t (fun _ => none) 0) := ⟨by rw [fulB_zero]; exact h1, fun q u h => by cases h⟩
  have HB1 := Lib.hid hB1
  clear h1 hB1
  go_wp2_with fail
  go_loopw [6] (fun i wr => ∃ (k : Nat) (f : Nat → Option Value) (n : Nat), k ≤ l.length ∧ i = .int .i64 k ∧ SqAt wr wa.heap.size t f n ∧ n ≤ k ∧ Below wa.heap.size wa wr) (fun i _ => l.length - (intOf i).toNat)
  case atStart => exact ⟨0, _, 0, Nat.zero_le _, rfl, H1.out, Nat.le_refl _, HB1.out⟩
  case round =>
    clear H1 HB1
    obtain ⟨k, f, n, hk, rfl, hS, hn, hB⟩ := hrel
    rcases Nat.lt_or_ge k l.length with hlt | hge
    · have hd : l[k]? = some l[k] := by simp [hlt]
      obtain ⟨b, o, rfl, hbB, hc⟩ := (HA.out.below (HB0.out.trans (hB.mono HB0.out.size))) _ _ hd
      generalize l[k] = d at *
      obtain ⟨ek, en, er⟩ := d
      have k2 := hc 2 _ rfl
      have k3 := hc 3 _ rfl
      have k4 := hc 4 _ rfl
      have k5 := hc 5 _ rfl
      have HAd := Lib.hid (sqAdd hS (by omega) hB.size er)
      have HB := Lib.hid hB
      have hki : (k : Int) < l.length := by omega
      have hk0 : (0 : Int) ≤ k := by omega
      simp only at k2 k3 k4 k5
      clear hS hB hd hc
      go_wp2_with fail
      refine HAd.out.mono ?_
      rintro e w3 ⟨x, y, rfl, -, f', n', hS3, hn1, hn2, -, hB3, -⟩
      have HS3 := Lib.hid hS3
      have HB3 := Lib.hid (HB.out.trans hB3)
      clear hS3 hB3 HAd k2 k3 k4 k5
      go_wp2_with fail
      go_roundw
      case rel => exact ⟨k + 1, f', n', by omega, by go_num, HS3.out, by omega, HB3.out⟩
      case measure => simp [intOf]; omega
    · obtain rfl : k = l.length := by omega
      have hn5 : n ≤ 40 := by omega
      have HL := Lib.hid (twLen hS.tw)
      obtain ⟨g, hg⟩ := hS.at_ (by omega)
      have HS := Lib.hid hS
      have HG := Lib.hid hg
      have HB := Lib.hid hB
      clear hS hB hg
      go_wp2_with fail
      refine HL.out.mono ?_
      rintro e w3 ⟨rfl, rfl⟩
      go_wp2_with fail
      obtain ⟨wq, hwq⟩ : ∃ wq, wq = wr := ⟨_, rfl⟩
      subst hwq
      go_loopw [8, 9] (fun v i wr2 => ∃ (k : Nat) (A2 : Option Addr) (c2 : Nat), k ≤ n ∧ i = .int .i64 ((k : Int) + 1) ∧ v = .slice A2 k c2 ∧ wr2.ownsRow wq.heap.size 83 4 (.slice A2 k c2) k (recCells g k) ∧ Below wq.heap.size wq wr2) (fun _ i _ => n + 1 - (intOf i).toNat)
      case atStart => exact ⟨0, none, 0, Nat.zero_le _, rfl, rfl, ⟨rfl, .inl ⟨rfl, rfl⟩⟩, Below.refl _ _⟩
      case round =>
        clear HL
        obtain ⟨k, A2, c2, hk2, rfl, rfl, hO, hBq⟩ := hrel
        rcases Nat.lt_or_ge k n with hlt | hge2
        · obtain ⟨hf1, hf2⟩ := HG.out (k + 1) (by omega) (by omega)
          obtain ⟨xr, hxr⟩ : ∃ xr, xr = g (k + 1) := ⟨_, rfl⟩
          rw [← hxr] at hf1 hf2
          have HXr := Lib.hid hxr
          have HT := HS.out.tw.below0 hBq
          have hG := twGet HT ((k : Int) + 1)
          have hgf : getF f ((k : Int) + 1) = some xr.v := by
            have := getF_nat f (k + 1)
            rw [hf1] at this
            exact this
          rw [hgf] at hG
          have HGt := Lib.hid hG
          obtain ⟨xa, xb, xc, xd⟩ := xr
          unfold Rec.v at HGt
          simp only [Option.getD_some, Option.isSome_some] at HGt hf2
          have hki : (k : Int) < n := by omega
          have hk0 : (0 : Int) ≤ k := by omega
          have hni : (n : Int) ≤ 40 := by omega
          have HO := Lib.hid hO
          have HBq := Lib.hid hBq
          clear hf1 hxr HT hG hgf hO hBq
          go_wp2_with fail
          refine HGt.out.mono ?_
          rintro e w5 ⟨rfl, hB5⟩
          have HB5 := Lib.hid hB5
          clear hB5 HGt
          obtain ⟨iW, zW, hiW, hzW, hsW, hbW, hcW⟩ := r_parts
          have HO7 : Hid (((w5.alloc (.cells #[.int .i64 xa, .int .i64 xb, .int .i64 xc, .int .u64 xd] 83)).alloc (.cells #[.int .i64 xa, .int .i64 xb, .int .i64 xc, .int .u64 xd] 83)).ownsRow wq.heap.size 83 4 (.slice A2 k c2) k (recCells g k)) := ((own_kp HO.out (Kp.of_below HB5.out)).alloc _).alloc _
          have HR7 : Hid (Rd ((w5.alloc (.cells #[.int .i64 xa, .int .i64 xb, .int .i64 xc, .int .u64 xd] 83)).alloc (.cells #[.int .i64 xa, .int .i64 xb, .int .i64 xc, .int .u64 xd] 83)) (w5.heap.size + 2) (some ⟨w5.heap.size + 1, 0, none⟩) [.int .i64 xa, .int .i64 xb, .int .i64 xc, .int .u64 xd]) := by
            intro j u hu
            refine ⟨_, rfl, by simp, ?_⟩
            rw [off_z, (Bk.new_at (w5.alloc (.cells #[.int .i64 xa, .int .i64 xb, .int .i64 xc, .int .u64 xd] 83)) 83 #[.int .i64 xa, .int .i64 xb, .int .i64 xc, .int .u64 xd] (by simp)).cell]
            rcases j with _ | _ | _ | _ | j
            · simpa using hu
            · simpa using hu
            · simpa using hu
            · simpa using hu
            · simp at hu
          have HON : Hid (∀ u ∈ [Value.int .i64 xa, .int .i64 xb, .int .i64 xc, .int .u64 xd], u.oneCell' = true) := by
            intro u hu
            simp at hu
            rcases hu with rfl | rfl | rfl | rfl <;> rfl
          have hqs : Hid (wq.heap.size ≤ ((w5.alloc (.cells #[.int .i64 xa, .int .i64 xb, .int .i64 xc, .int .u64 xd] 83)).alloc (.cells #[.int .i64 xa, .int .i64 xb, .int .i64 xc, .int .u64 xd] 83)).heap.size) := by
            have h1 := HBq.out.size
            have h2 := HB5.out.size
            show _ ≤ _
            simp
            omega
          have h63 : Hid (k + 1 ≤ maxLen) := by show _ ≤ _; unfold maxLen; omega
          have hby : Hid ((k + 1) * 32 ≤ 140737488355328) := by show _ ≤ _; omega
          go_wp2_with ((with_reducible refine wpList_dst 61 ?_); refine wpList_append_rn rfl (.tmp 58) (.tmp 60) 95 rfl wq.heap.size 83 iW zW 4 32 Try.underlying95 hiW hzW hsW hbW hcW (by omega) (.slice A2 k c2) k (recCells g k) rfl HO7.out (w5.heap.size + 2) (some ⟨w5.heap.size + 1, 0, none⟩) 1 1 [.int .i64 xa, .int .i64 xb, .int .i64 xc, .int .u64 xd] rfl rfl HR7.out HON.out h63.out hby.out hqs.out ?_; intro v3 w3 hown0 hg3 hat; obtain ⟨A3, c3, rfl⟩ := owns_form hown0; have HO3 := Lib.hid hown0; have HG3 := Lib.hid hg3; clear hown0 hat hg3)
          go_roundw
          case rel =>
            have hF : Fr (fun q => (Value.slice A2 k c2).ownBlock = some q) wr w3 := (((Fr.of_below0 HB5.out).alloc _).alloc _).grown HG3.out fun q hq _ => hq
            refine ⟨k + 1, A3, c3, by omega, by go_num, rfl, ?_, HBq.out.trans (hF.below HBq.out.size fun q hq hh => ?_)⟩
            · rw [recCells_succ, ← HXr.out]
              exact HO3.out
            · have := (World.ownsRow.lt HO.out q hh).1
              omega
          case measure => simp [intOf]; omega
        · have hkn : k = n := by omega
          subst hkn
          have HO := Lib.hid hO
          have HT := Lib.hid (HS.out.tw.below0 hBq)
          have HBr := Lib.hid (HB.out.trans (hBq.mono HB.out.size))
          have hD := HD0.out.below HBr.out HD0.out.lt
          have HDr := Lib.hid hD
          have q0 : wr.cell? ⟨w.heap.size, 0, none⟩ = some (.int .i64 dk) := hD.cell 0
          have q1 : wr.cell? ⟨w.heap.size, 1, none⟩ = some (.int .i64 dn) := hD.cell 1
          have q2 : wr.cell? ⟨w.heap.size, 2, none⟩ = some (.int .i64 da) := hD.cell 2
          have q3 : wr.cell? ⟨w.heap.size, 3, none⟩ = some (.int .i64 db) := hD.cell 3
          have q4 : wr.cell? ⟨w.heap.size, 4, none⟩ = some (.int .i64 dc) := hD.cell 4
          have q5 : wr.cell? ⟨w.heap.size, 5, none⟩ = some (.int .u64 dd) := hD.cell 5
          clear hO hBq hD
          go_upto_block 4 with fail
          go_cut [12] (fun tt wx => ∃ (T : Int) (f2 : Nat → Option Value) (n2 : Nat) (fin2 : Nat → Bool) (last2 : Nat), tt = .int .i64 T ∧ TwAt wx wa.heap.size t f2 n2 fin2 last2 ∧ (∀ q : Nat, 1 ≤ q → q ≤ k → (q : Int) ≠ T → f2 q = f q) ∧ Below wa.heap.size wa wx ∧ Hid (wx.ownsRow wq.heap.size 83 4 (.slice A2 k c2) k (recCells g k)))
          case first =>
            have hki : (k : Int) ≤ 40 := by omega
            have hk0 : (0 : Int) ≤ k := by omega
            by_cases h0 : dk = 0 ∨ dk = 1
            · have HAd := Lib.hid (sqAdd (r := ⟨da, db, dc, dd⟩) ⟨HT.out, HS.out.ok⟩ (by omega) HBr.out.size)
              simp only at HAd
              rcases h0 with rfl | rfl
              all_goals
                go_wp2_with fail
                refine HAd.out.mono ?_
                rintro e w4 ⟨x, y, rfl, hxy, f', n', hS4, -, -, hag, hB4, hK4⟩
                have HS4 := Lib.hid hS4
                have HAg := Lib.hid hag
                have HB4 := Lib.hid (HBr.out.trans hB4)
                have HO4 := Lib.hid (own_kp HO.out hK4)
                clear hS4 hag hB4 hK4
                rcases hxy with ⟨rfl, rfl⟩ | rfl
                all_goals
                  go_wp2_with fail
                  go_meet
                  exact ⟨0, f', n', _, _, rfl, HS4.out.tw, fun q _ h2 _ => HAg.out q h2, HB4.out, HO4⟩
            · have d0 : (dk == 0) = false := beq_eq_false_iff_ne.2 (fun e => h0 (.inl e))
              have d1 : (dk == 1) = false := beq_eq_false_iff_ne.2 (fun e => h0 (.inr e))
              by_cases h2 : dk = 2
              · subst h2
                have HDp := Lib.hid (sqDrop HT.out HBr.out.size dn)
                clear h0
                go_wp2_with fail
                refine HDp.out.mono ?_
                rintro e w4 ⟨v4, rfl, f', n', fin', hT4, hag, hB4, hK4⟩
                have HT4 := Lib.hid hT4
                have HAg := Lib.hid hag
                have hB := HBr.out.trans hB4
                have HB4 := Lib.hid hB
                have HO4 := Lib.hid (own_kp HO.out hK4)
                have hD4 := HD0.out.below hB HD0.out.lt
                have p1 : w4.cell? ⟨w.heap.size, 1, none⟩ = some (.int .i64 dn) := hD4.cell 1
                clear hT4 hag hB4 hK4 hB hD4 HDp
                go_wp2_with fail
                go_meet
                exact ⟨dn, f', n', fin', _, rfl, HT4.out, fun q _ _ h3 => HAg.out q h3, HB4.out, HO4⟩
              · have d2 : (dk == 2) = false := beq_eq_false_iff_ne.2 h2
                by_cases h3 : dk = 3
                · subst h3
                  have HSe := Lib.hid (sqSet HT.out HBr.out.size dn ⟨da, db, dc, dd⟩)
                  simp only at HSe
                  clear h0 h2
                  go_wp2_with fail
                  refine HSe.out.mono ?_
                  rintro e w4 ⟨b4, rfl, f', hT4, hb0, hb1, hag, hB4, hK4⟩
                  have HT4 := Lib.hid hT4
                  have HAg := Lib.hid hag
                  have hB := HBr.out.trans hB4
                  have HB4 := Lib.hid hB
                  have HO4 := Lib.hid (own_kp HO.out hK4)
                  have hD4 := HD0.out.below hB HD0.out.lt
                  have HD4 := Lib.hid hD4
                  have p1 : w4.cell? ⟨w.heap.size, 1, none⟩ = some (.int .i64 dn) := hD4.cell 1
                  have hG4 := twGet hT4 dn
                  cases b4
                  · have HBf := Lib.hid (hb0 rfl)
                    clear hT4 hag hB4 hK4 hB hD4 HSe hG4 hb0 hb1
                    go_wp2_with fail
                    go_meet
                    exact ⟨0, f', _, _, _, rfl, HT4.out, fun q _ _ h3 => by rw [HBf.out], HB4.out, HO4⟩
                  · rw [hb1 rfl] at hG4
                    unfold Rec.v at hG4
                    simp only [Option.getD_some, Option.isSome_some] at hG4
                    have HG4 := Lib.hid hG4
                    clear hT4 hag hB4 hK4 hB hD4 HSe hG4 hb0 hb1
                    go_wp2_with fail
                    refine HG4.out.mono ?_
                    rintro e w5 ⟨rfl, hB5⟩
                    have HT5 := Lib.hid (HT4.out.below0 hB5)
                    have hB := HB4.out.trans (hB5.mono HB4.out.size)
                    have HB5 := Lib.hid hB
                    have HO5 := Lib.hid (own_kp HO4.out (Kp.of_below hB5))
                    have hD5 := HD0.out.below hB HD0.out.lt
                    have hD6 := hD5.alloc (.cells #[.int .i64 da, .int .i64 db, .int .i64 dc, .int .u64 dd] 83)
                    have s2 : (w5.alloc (.cells #[.int .i64 da, .int .i64 db, .int .i64 dc, .int .u64 dd] 83)).cell? ⟨w.heap.size, 2, none⟩ = some (.int .i64 da) := hD6.cell 2
                    have s3 : (w5.alloc (.cells #[.int .i64 da, .int .i64 db, .int .i64 dc, .int .u64 dd] 83)).cell? ⟨w.heap.size, 3, none⟩ = some (.int .i64 db) := hD6.cell 3
                    have s4 : (w5.alloc (.cells #[.int .i64 da, .int .i64 db, .int .i64 dc, .int .u64 dd] 83)).cell? ⟨w.heap.size, 4, none⟩ = some (.int .i64 dc) := hD6.cell 4
                    have s5 : (w5.alloc (.cells #[.int .i64 da, .int .i64 db, .int .i64 dc, .int .u64 dd] 83)).cell? ⟨w.heap.size, 5, none⟩ = some (.int .u64 dd) := hD6.cell 5
                    have HlD : Hid (w.heap.size < w5.heap.size) := hD5.lt
                    clear hB5 hB hD5 hD6 HG4 p1
                    go_wp2_with fail
                    go_meet
                    have hBn : Below w5.heap.size w5 (w5.alloc (.cells #[.int .i64 da, .int .i64 db, .int .i64 dc, .int .u64 dd] 83)) := (Below.refl _ _).alloc (Nat.le_refl _) _
                    exact ⟨dn, f', _, _, _, rfl, HT5.out.below0 hBn, fun q _ _ h3 => HAg.out q h3, HB5.out.trans (hBn.mono HB5.out.size), own_kp HO5.out (Kp.of_below hBn)⟩
                · have d3 : (dk == 3) = false := beq_eq_false_iff_ne.2 h3
                  clear h0 h2 h3
                  go_wp2_with fail
                  go_meet
                  exact ⟨0, f, k, _, _, rfl, HT.out, fun _ _ _ _ => rfl, HBr.out, HO⟩
          case rest =>
            obtain ⟨T, f2, n2, fin2, last2, rfl, hT2, hag, hBx, HO2⟩ := hcut
            have HT2 := Lib.hid hT2
            have HAg := Lib.hid hag
            have HBx := Lib.hid hBx
            clear hT2 hag hBx HDr q0 q1 q2 q3 q4 q5 HT HO
            go_wp2_with fail
            go_loopw [17] (fun i wr3 => ∃ m : Nat, m ≤ k ∧ i = .int .i64 ((m : Int) + 1) ∧ Below wc.heap.size wc wr3) (fun i _ => k + 1 - (intOf i).toNat)
            case atStart => exact ⟨0, Nat.zero_le _, rfl, Below.refl _ _⟩
            case round =>
              obtain ⟨m, hm, rfl, hB3⟩ := hrel
              rcases Nat.lt_or_ge m k with hlt | hge3
              · have hG := twGet (HT2.out.below0 hB3) ((m : Int) + 1)
                obtain ⟨b2, hb2, hcs⟩ := own_cells (own_kp HO2.out (Kp.of_below hB3)) hlt
                subst hb2
                have hki : (m : Int) < k := by omega
                have hk0 : (0 : Int) ≤ m := by omega
                have hk4 : (k : Int) ≤ 40 := by omega
                have HB3 := Lib.hid hB3
                by_cases hT : (m : Int) + 1 = T
                · subst hT
                  obtain ⟨xr, hxr⟩ := HT2.out.val ((m : Int) + 1)
                  rw [hxr] at hG
                  generalize (getF f2 ((m : Int) + 1)).isSome = ok at hG
                  obtain ⟨xa, xb, xc, xd⟩ := xr
                  unfold Rec.v at hG
                  simp only at hG
                  have HG2 := Lib.hid hG
                  clear hG hxr hB3 hcs
                  go_wp2_with fail
                  refine HG2.out.mono ?_
                  rintro e w5 ⟨rfl, hB5⟩
                  have HB5 := Lib.hid (HB3.out.trans (hB5.mono HB3.out.size))
                  clear hB5 HG2
                  go_upto_region 37 with fail
                  obtain ⟨w6, hw6⟩ : ∃ w6, w6 = w5.alloc (.cells #[.int .i64 xa, .int .i64 xb, .int .i64 xc, .int .u64 xd] 83) := ⟨_, rfl⟩
                  rw [← hw6]
                  have hb6 : Below w5.heap.size w5 w6 := by rw [hw6]; exact (Below.refl _ _).alloc (Nat.le_refl _) _
                  have HB6 := Lib.hid (HB5.out.trans (hb6.mono HB5.out.size))
                  clear hw6 hb6
                  go_quiet (fail)
                  go_wp2
                  go_roundw
                  case rel => exact ⟨m + 1, by omega, by go_num, HB6.out.trans (((Fr.refl (fun _ => False) w6).drewN _).below0.mono HB6.out.size)⟩
                  case measure => simp [intOf]; omega
                · obtain ⟨hf1, -⟩ := HG.out (m + 1) (by omega) (by omega)
                  have hf2 := HAg.out (m + 1) (by omega) (by omega) (by omega)
                  have hgf : getF f2 ((m : Int) + 1) = some (g (m + 1)).v := by
                    have := getF_nat f2 (m + 1)
                    rw [hf2, hf1] at this
                    exact this
                  rw [hgf] at hG
                  generalize g (m + 1) = xr at *
                  obtain ⟨xa, xb, xc, xd⟩ := xr
                  unfold Rec.v at hG
                  simp only [Option.getD_some, Option.isSome_some] at hG
                  have HG2 := Lib.hid hG
                  have hne : ((m : Int) + 1 == T) = false := beq_eq_false_iff_ne.2 hT
                  have hne2 : ((m : Int) + 1 != T) = true := by rw [bne, hne]; rfl
                  have HCs := Lib.hid hcs
                  clear hG hf1 hf2 hgf hB3 hT hcs
                  go_wp2_with fail
                  refine HG2.out.mono ?_
                  rintro e w5 ⟨rfl, hB5⟩
                  have HB5 := Lib.hid (HB3.out.trans (hB5.mono HB3.out.size))
                  go_upto_region 37 with fail
                  obtain ⟨w6, hw6⟩ : ∃ w6, w6 = w5.alloc (.cells #[.int .i64 xa, .int .i64 xb, .int .i64 xc, .int .u64 xd] 83) := ⟨_, rfl⟩
                  rw [← hw6]
                  have hb6 : Below w5.heap.size w5 w6 := by rw [hw6]; exact (Below.refl _ _).alloc (Nat.le_refl _) _
                  have hk6 : Bk w6 w5.heap.size 83 #[.int .i64 xa, .int .i64 xb, .int .i64 xc, .int .u64 xd] := by rw [hw6]; exact Bk.new _ _ _
                  have HB6 := Lib.hid (HB5.out.trans (hb6.mono HB5.out.size))
                  have hcw : ∀ i v, i < 4 → (Rec.cs ⟨xa, xb, xc, xd⟩)[i]? = some v → w6.cell? ⟨b2, m * 4 + i, none⟩ = some v := fun i v hi hv => by
                    have h1 := (HCs.out i hi).trans hv
                    have h2 := World.block_lt_of_cell? _ _ h1
                    have h3 := (hB5.cell (p := ⟨b2, m * 4 + i, none⟩) h2).trans h1
                    have h4 := World.block_lt_of_cell? _ _ h3
                    exact (hb6.cell (p := ⟨b2, m * 4 + i, none⟩) h4).trans h3
                  have y0 : w6.cell? ⟨b2, m * 4, none⟩ = some (.int .i64 xa) := hcw 0 _ (by omega) rfl
                  have y1 : w6.cell? ⟨b2, m * 4 + 1, none⟩ = some (.int .i64 xb) := hcw 1 _ (by omega) rfl
                  have y2 : w6.cell? ⟨b2, m * 4 + 2, none⟩ = some (.int .i64 xc) := hcw 2 _ (by omega) rfl
                  have y3 : w6.cell? ⟨b2, m * 4 + 3, none⟩ = some (.int .u64 xd) := hcw 3 _ (by omega) rfl
                  have x0 : w6.cell? ⟨w5.heap.size, 0, none⟩ = some (.int .i64 xa) := hk6.cell 0
                  have x1 : w6.cell? ⟨w5.heap.size, 1, none⟩ = some (.int .i64 xb) := hk6.cell 1
                  have x2 : w6.cell? ⟨w5.heap.size, 2, none⟩ = some (.int .i64 xc) := hk6.cell 2
                  have x3 : w6.cell? ⟨w5.heap.size, 3, none⟩ = some (.int .u64 xd) := hk6.cell 3
                  clear hw6 hb6 hk6 hB5 HG2 hcw
                  go_quiet (fail)
                  go_wp2
                  go_roundw
                  case rel => exact ⟨m + 1, by omega, by go_num, HB6.out.trans (((Fr.refl (fun _ => False) w6).drewN _).below0.mono HB6.out.size)⟩
                  case measure => simp [intOf]; omega
              · have hmk : m = k := by omega
                subst hmk
                have hki : (m : Int) ≤ 40 := by omega
                have HB3 := Lib.hid (HBx.out.trans (hB3.mono HBx.out.size))
                have HLv := Lib.hid (lives wr)
                clear hB3
                go_wp2_with fail
                refine HLv.out.mono ?_
                rintro e w7 ⟨rfl, hB7⟩
                have HB7 := Lib.hid (HB3.out.trans (hB7.mono HB3.out.size))
                clear hB7
                go_wp2_with fail
                go_ret
                exact ⟨rfl, HB0.out.trans (HB7.out.mono HB0.out.size)⟩
end Go.Proofs.YteifdbfaclpcdaaR.Rr
