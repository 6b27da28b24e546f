/- The walk of gunnylaw24.TreeFull. -/
import Derived.Test.YteifdbfaclpcdaaRTrI
namespace Go.Proofs.YteifdbfaclpcdaaR.Rr
open Go.RowKit

/-- The first so many numbers are in use, each with its word. -/
def fulF (i : Nat) : Nat → Option Value := fun k => if 1 ≤ k ∧ k ≤ i then some (Rec.mk 1 0 0 ((k - 1 : Nat) : Int)).v else none
def fulB (i : Nat) : Nat → Bool := fun j => decide (j < i)
theorem fulF_succ (i : Nat) : updF (fulF i) (i + 1) (some (Rec.mk 1 0 0 (i : Int)).v) = fulF (i + 1) := by
  funext k
  unfold updF fulF
  by_cases e : k = i + 1
  · subst e
    rw [if_pos rfl, if_pos (by omega)]
    rfl
  · rw [if_neg e]
    by_cases h : 1 ≤ k ∧ k ≤ i
    · rw [if_pos h, if_pos (by omega)]
    · rw [if_neg h, if_neg (by omega)]
theorem fulB_succ (i : Nat) : updB (fulB i) i true = fulB (i + 1) := by
  funext j
  unfold updB fulB
  by_cases e : j = i
  · subst e
    rw [if_pos rfl]
    simp
  · rw [if_neg e]
    exact decide_eq_decide.2 (by omega)
theorem fulF_zero : fulF 0 = fun _ => none := funext fun k => if_neg (by omega)
theorem fulB_zero : fulB 0 = fun _ => false := funext fun k => by simp [fulB]
theorem ful_may (d : Int) : (Rec.mk 1 0 0 d).may = true := rfl
theorem fulB_full : nextOf (fulB 512) 512 = 0 := by
  cases h : nextOf (fulB 512) 512 with
  | zero => rfl
  | succ k =>
    obtain ⟨h1, h2⟩ := nextOf_free h
    simp [fulB] at h2
    omega
theorem fulB_one {q : Nat} (hq : q < 512) : nextOf (updB (fulB 512) q false) 512 = q + 1 := by
  have hf : cntB (updB (fulB 512) q false) 512 < 512 := by
    have h1 := cntB_upd (fulB 512) q false hq
    have h2 : cntB (fulB 512) 512 = 512 := cntB_all fun k hk => by simp [fulB, hk]
    have h3 : fulB 512 q = true := by simp [fulB, hq]
    rw [h2, h3] at h1
    simp at h1
    omega
  obtain ⟨k, h1, h2, h3⟩ := nextOf_some (last := 512) hf
  have : k = q := by
    unfold updB at h3
    split at h3
    · assumption
    · simp [fulB] at h3
      omega
  rw [h1, this]
set_option maxRecDepth 100000 in
set_option maxHeartbeats 4000000 in
theorem twFull (w : World) (r : Rec) (d : Nat) (hd : d < 65536) :
    Calls Try.prog 12 #[.agg #[.int .i64 r.a, .int .i64 r.b, .int .i64 r.c, .int .u64 r.d], .int .u16 (d : Int)] w fun e w' => e = .returned (.bool true) ∧ Below w.heap.size w w' := by
  obtain ⟨a, b, c, d4⟩ := r
  simp only
  have HB0 : Hid (Below w.heap.size w (w.alloc (.cells #[.int .i64 a, .int .i64 b, .int .i64 c, .int .u64 d4] 83))) := (Below.refl _ _).alloc (Nat.le_refl _) _
  have HD0 : Hid (Bk (w.alloc (.cells #[.int .i64 a, .int .i64 b, .int .i64 c, .int .u64 d4] 83)) w.heap.size 83 #[.int .i64 a, .int .i64 b, .int .i64 c, .int .u64 d4]) := Bk.new _ _ _
  have HM := Lib.hid (fun W => refMay W a b c d4)
  have hm0 : (Rec.mk a b c d4).may = ((a != 0) && mayRec a b c d4) := rfl
  generalize hmm : mayRec a b c d4 = mb at HM hm0
  have HMm := Lib.hid hmm
  have HM0 := Lib.hid hm0
  clear hm0 hmm
  have hqd : d % 512 < 512 := Nat.mod_lt _ (by omega)
  go_enter Try.func12, Try.ntmps12
  go_wp2_with fail
  generalize hwa : w.alloc (.cells #[.int .i64 a, .int .i64 b, .int .i64 c, .int .u64 d4] 83) = wa at *
  clear hwa
  refine (twNew wa).mono ?_
  rintro e w1 ⟨t, rfl, h1, hB1⟩
  have H1 := Lib.hid h1
  have HB1 := Lib.hid hB1
  have hD1 := HD0.out.below' hB1
  have HD1 := Lib.hid hD1
  have k0 : w1.cell? ⟨w.heap.size, 0, none⟩ = some (.int .i64 a) := hD1.cell 0
  have k1 : w1.cell? ⟨w.heap.size, 1, none⟩ = some (.int .i64 b) := hD1.cell 1
  have k2 : w1.cell? ⟨w.heap.size, 2, none⟩ = some (.int .i64 c) := hD1.cell 2
  have k3 : w1.cell? ⟨w.heap.size, 3, none⟩ = some (.int .u64 d4) := hD1.cell 3
  clear h1 hB1 hD1
  go_upto_region 2 with fail
  go_cut [6] (fun s wx => s = .bool (Rec.mk a b c d4).may ∧ Below w1.heap.size w1 wx)
  case first =>
    by_cases h0 : a = 0
    · subst h0
      go_wp2_with fail
      go_meet
      exact ⟨by rw [HM0.out]; rfl, Below.refl _ _⟩
    · have d0 : (a == 0) = false := beq_eq_false_iff_ne.2 h0
      have d1 : (a != 0) = true := by rw [bne, d0]; rfl
      go_wp2_with fail
      refine (HM.out _).mono ?_
      rintro e w2 ⟨rfl, hB⟩
      have HB := Lib.hid hB
      clear hB
      go_wp2_with fail
      go_meet
      exact ⟨by rw [HM0.out, d1, Bool.true_and], HB.out⟩
  case rest =>
    obtain ⟨rfl, hBx⟩ := hcut
    have HBx := Lib.hid hBx
    have HTx := Lib.hid (H1.out.below0 hBx)
    clear hBx k0 k1 k2 k3 HM HM0
    generalize hfin : (Rec.mk a b c d4).may = fine at *
    have HFin := Lib.hid hfin
    clear hfin
    go_wp2_with fail
    go_loopw [7] (fun i wr => ∃ k : Nat, k ≤ 512 ∧ i = .int .i64 k ∧ TwAt wr wa.heap.size t (fulF k) k (fulB k) k ∧ Below wa.heap.size wa wr) (fun i _ => 512 - (intOf i).toNat)
    case atStart => exact ⟨0, by omega, rfl, by rw [fulF_zero, fulB_zero]; exact HTx.out, HB1.out.trans (HBx.out.mono HB1.out.size)⟩
    case round =>
      clear HTx HBx HD1 H1 HB1
      obtain ⟨k, hk, rfl, hT, hB⟩ := hrel
      rcases Nat.lt_or_ge k 512 with hlt | hge
      · have hn : nextOf (fulB k) k = k + 1 := by
          have h1 : k % 512 = k := Nat.mod_eq_of_lt hlt
          have h2 := nextOf_now (f := fulB k) (last := k) (by rw [h1]; simp [fulB])
          rwa [h1] at h2
        have HA := Lib.hid (twAdd hT hB.size ⟨1, 0, 0, (k : Int)⟩ (ful_may _) hn)
        rw [fulF_succ, fulB_succ] at HA
        have HB := Lib.hid hB
        have hki : (k : Int) < 512 := by omega
        have hk0 : (0 : Int) ≤ k := by omega
        clear hT hB hn
        go_wp2_with fail
        refine HA.out.mono ?_
        rintro e w3 ⟨rfl, hT3, hB3, -⟩
        have HT3 := Lib.hid hT3
        have HB3 := Lib.hid (HB.out.trans hB3)
        clear hT3 hB3 HA
        go_wp2_with fail
        go_roundw
        case rel => exact ⟨k + 1, by omega, by go_num, HT3.out, HB3.out⟩
        case measure => simp [intOf]; omega
      · obtain rfl : k = 512 := by omega
        obtain ⟨E, hAd, hE⟩ : ∃ E : Int, (Calls Try.prog 51 #[.pointer (some ⟨t, 0, none⟩), .agg #[.int .i64 a, .int .i64 b, .int .i64 c, .int .u64 d4]] wr fun e w' => e = .returned (.tuple #[.int .i64 0, .int .i64 E]) ∧ Below wr.heap.size wr w') ∧ ((fine = true ∧ E = 11) ∨ (fine = false ∧ E = 1)) := by
          cases hf : fine
          · exact ⟨1, twAddNo wr _ ⟨a, b, c, d4⟩ (by rw [HFin.out, hf]), .inr ⟨rfl, rfl⟩⟩
          · exact ⟨11, twAddFull hT ⟨a, b, c, d4⟩ (by rw [HFin.out, hf]) fulB_full, .inl ⟨rfl, rfl⟩⟩
        have hDr := HD0.out.below hB HD0.out.lt
        have q0 : wr.cell? ⟨w.heap.size, 0, none⟩ = some (.int .i64 a) := hDr.cell 0
        have q1 : wr.cell? ⟨w.heap.size, 1, none⟩ = some (.int .i64 b) := hDr.cell 1
        have q2 : wr.cell? ⟨w.heap.size, 2, none⟩ = some (.int .i64 c) := hDr.cell 2
        have q3 : wr.cell? ⟨w.heap.size, 3, none⟩ = some (.int .u64 d4) := hDr.cell 3
        have HE := Lib.hid hE
        have HT := Lib.hid hT
        have HB := Lib.hid hB
        have HAd := Lib.hid hAd
        clear hE hT hB hAd hDr
        go_wp2_with fail
        refine HAd.out.mono ?_
        rintro e w3 ⟨rfl, hB3⟩
        have HT3 := Lib.hid (HT.out.below0 hB3)
        have HB3 := Lib.hid (HB.out.trans (hB3.mono HB.out.size))
        have HL3 := Lib.hid (twLen HT3.out)
        clear hB3 HAd HT q0 q1 q2 q3
        go_upto_region 10 with fail
        go_cut [62] (fun s wx => s = .bool false ∧ w3 = wx)
        case first =>
          rcases HE.out with ⟨rfl, rfl⟩ | ⟨rfl, rfl⟩
          · go_wp2_with fail
            refine HL3.out.mono ?_
            rintro e w4 ⟨rfl, rfl⟩
            go_wp2_with fail
            go_meet
            exact ⟨rfl, rfl⟩
          · go_wp2_with fail
            refine HL3.out.mono ?_
            rintro e w4 ⟨rfl, rfl⟩
            go_wp2_with fail
            go_meet
            exact ⟨rfl, rfl⟩
        case rest =>
          obtain ⟨rfl, rfl⟩ := hcut
          obtain ⟨q, hq⟩ : ∃ q, q = d % 512 := ⟨_, rfl⟩
          rw [← hq] at hqd
          have hqi : Int.tmod (d : Int) 512 = (q : Int) := by rw [hq, Int.tmod_eq_emod_of_nonneg (by omega)]; omega
          have hdi : (d : Int) < 65536 := by omega
          have hd0 : (0 : Int) ≤ d := by omega
          have hfq : fulB 512 q = true := by simp [fulB, hqd]
          have hff : fulF 512 (q + 1) = some (Rec.mk 1 0 0 (q : Int)).v := by unfold fulF; rw [if_pos (by omega)]; rfl
          obtain ⟨r1, hr1, hDp⟩ := twDropYes HT3.out HB3.out.size hqd hfq
          have hr2 : r1 = ⟨1, 0, 0, (q : Int)⟩ := by
            rw [hff] at hr1
            injection hr1 with hr1
            obtain ⟨x0, x1, x2, x3⟩ := r1
            simp only [Rec.v, Value.agg.injEq] at hr1
            simp at hr1
            obtain ⟨g1, g2, g3, g4⟩ := hr1
            subst g1 g2 g3 g4
            rfl
          subst hr2
          rw [show (q : Int) + 1 = 1 + (q : Int) from Int.add_comm _ _] at hDp
          unfold Rec.v at hDp
          simp only at hDp
          have HDp := Lib.hid hDp
          have hq5 : (q : Int) < 512 := by omega
          have hq0 : (0 : Int) ≤ q := by omega
          clear hDp hr1 hff hfq hq
          go_wp2_with fail
          refine HDp.out.mono ?_
          rintro e w4 ⟨rfl, hT4, hB4, -⟩
          have HT4 := Lib.hid hT4
          have HB4 := Lib.hid (HB3.out.trans hB4)
          clear hT4 hB4 HDp HL3
          obtain ⟨w5, hw5⟩ : ∃ w5, w5 = w4.alloc (.cells #[.int .i64 1, .int .i64 0, .int .i64 0, .int .u64 (q : Int)] 83) := ⟨_, rfl⟩
          have hb5 : Below w4.heap.size w4 w5 := by rw [hw5]; exact (Below.refl _ _).alloc (Nat.le_refl _) _
          have hk5 : Bk w5 w4.heap.size 83 #[.int .i64 1, .int .i64 0, .int .i64 0, .int .u64 (q : Int)] := by rw [hw5]; exact Bk.new _ _ _
          have HW5 := Lib.hid hw5
          have HB5 := Lib.hid (HB4.out.trans (hb5.mono HB4.out.size))
          have HK5 := Lib.hid hk5
          have HA5 := Lib.hid (twAdd (HT4.out.below0 hb5) HB5.out.size ⟨4, 3, 0, 0⟩ rfl (fulB_one hqd))
          rw [show (q : Int) + 1 = 1 + (q : Int) from Int.add_comm _ _] at HA5
          clear hw5 hb5 hk5
          go_wp2_with fail
          rw [← HW5.out]
          refine HA5.out.mono ?_
          rintro e w6 ⟨rfl, -, hB6, hK6⟩
          have hk6 := hK6 _ _ _ HK5.out (by decide) (by decide) (by decide) (by decide) (by decide)
          have z3 : w6.cell? ⟨w4.heap.size, 3, none⟩ = some (.int .u64 (q : Int)) := hk6.cell 3
          have HB6 := Lib.hid (HB5.out.trans hB6)
          have HLv := Lib.hid (lives w6)
          clear hB6 hK6 hk6 HA5 hqi hd hdi hd0 HW5 HK5 HT4 HT3 HB4 HB5 HE hk hge HB HB3 HMm HFin
          go_upto_region 15 with fail
          obtain ⟨kk, hkk⟩ : ∃ kk : Int, kk = 1 + (q : Int) := ⟨_, rfl⟩
          rw [← hkk]
          have e1 : IntKind.i64.wrap (kk - 1) = (q : Int) := (IntWalk.i64_in _ (by omega)).trans (by omega)
          clear hkk
          go_wp2_with fail
          refine HLv.out.mono ?_
          rintro e w7 ⟨rfl, hB7⟩
          have HB7 := Lib.hid (HB6.out.trans (hB7.mono HB6.out.size))
          clear hB7
          go_wp2_with fail
          go_ret
          exact ⟨rfl, HB0.out.trans (HB7.out.mono HB0.out.size)⟩
end Go.Proofs.YteifdbfaclpcdaaR.Rr
