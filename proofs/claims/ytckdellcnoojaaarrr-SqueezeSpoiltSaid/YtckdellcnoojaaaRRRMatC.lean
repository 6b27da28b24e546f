/- Find of the finder; New. -/
import Derived.Test.YtckdellcnoojaaaRRRMatB
namespace Go.Proofs.YtckdellcnoojaaaRRR
open Go.RowKit

theorem lastCells_get (b : List UInt8) {i : Nat} (hi : i < b.length) : (lastCells b b.length)[i]? = some (.int .i64 ((lastOf b i : Int) - 1)) := by
  simp [lastCells, hi]

set_option maxRecDepth 100000 in
set_option maxHeartbeats 1000000 in
theorem fFind_any {w : World} {base g gl : Nat} {v : Value} {b : List UInt8} (h : FindAt w base g gl v b) (a : Int) :
    Calls Try.prog 27 #[.pointer (some ⟨g, 0, none⟩), .int .i64 a] w fun e w' => e = .returned (.tuple #[.int .i64 (findI b a).1, .int .i64 (findI b a).2.1]) ∧ ∃ n, w' = w.drewN n := by
  have HO := Lib.hid h
  have hlen := h.len
  have HL := Lib.hid (fLen_any h)
  have hg1 : w.cell? ⟨g, 1, none⟩ = some (.slice (some ⟨gl, 0, none⟩) b.length b.length) := Bk.cell h.top 1
  have HC0 : Hid (∀ i, i < b.length → w.cell? ⟨gl, i, none⟩ = some (.int .i64 ((lastOf b i : Int) - 1))) := fun i hi => (Bk.cell h.row i).trans (lastCells_get b hi)
  clear h
  rcases Int.lt_or_le a 0 with h1 | h1
  · have HZ : Hid (findI b a = (0, 0, 0)) := by show _ = _; unfold findI; rw [if_neg (by omega)]
    go_enter Try.func27, Try.ntmps27
    go_wp2_with (go_at_call 25; refine HL.out.mono ?_; rintro e w2 ⟨rfl, rfl⟩)
    go_ret2
    exact ⟨by rw [HZ.out]; rfl, 0, rfl⟩
  rcases Int.lt_or_le a (b.length : Int) with h3 | h3
  · obtain ⟨a, rfl⟩ := Int.eq_ofNat_of_zero_le h1
    have h3' : a < b.length := by omega
    have HF : Hid (findI b (a : Int) = goM b a a (0, 0, 0)) := by
      show _ = _
      unfold findI
      rw [if_pos ⟨h1, h3⟩, Int.toNat_natCast]
      rfl
    have HW : Hid (∀ (p m : Nat), p < a → Calls Try.prog 26 #[.pointer (some ⟨g, 0, none⟩), .int .i64 a, .int .i64 p] (w.drewN m) fun e w' => e = .returned (.int .i64 (withN b a p)) ∧ ∃ n, w' = (w.drewN m).drewN n) := fun p m hp => by
      have := fWith_any (HO.out.drewN m) a p
      have e : withI b (a : Int) (p : Int) = withN b a p := by
        unfold withI
        rw [if_pos (by omega), Int.toNat_natCast, Int.toNat_natCast]
      rw [e] at this
      exact this
    have hd : decide (b.length ≤ a) = false := by simp; omega
    clear h1 h3
    have hc0 := HC0.out a h3'
    have hll := lastOf_le b a
    have HF0 : Hid (findI b (a : Int) = goM b a (lastOf b a) (0, 0, 0) ∧ (lastOf b a ≠ 0 → num3 b (lastOf b a - 1) = num3 b a ∧ a + 3 ≤ b.length)) := by
      refine ⟨HF.out.trans (goM_first b a _), fun hne => ?_⟩
      obtain ⟨p, hp⟩ : ∃ p, lastOf b a = p + 1 := ⟨lastOf b a - 1, by omega⟩
      rw [hp]
      refine ⟨(lastOf_hit hp).2, ?_⟩
      unfold lastOf at hp
      split at hp
      · assumption
      · omega
    generalize lastOf b a = l0 at *
    go_enter Try.func27, Try.ntmps27
    go_wp2_with (go_at_call 25; refine HL.out.mono ?_; rintro e w2 ⟨rfl, rfl⟩)
    go_loopw [6, 7, 8, 9] (fun be di se pp wr => ∃ (k m b1 b2 b3 : Nat) (z : Int), FindRel w b a k m b1 b2 b3 z be di se pp wr ∧ Hid (k ≠ 0 → num3 b (k - 1) = num3 b a ∧ a + 3 ≤ b.length)) (fun _ _ _ pp _ => (intOf pp + 1).toNat)
    case atStart => exact ⟨l0, 0, 0, 0, 0, _, ⟨rfl, rfl, rfl, rfl, rfl, by omega, by omega, by omega, by omega, HF0.out.1, rfl⟩, HF0.out.2⟩
    case round =>
      clear HF HF0 hll hc0
      obtain ⟨k, m, b1, b2, b3, z, ⟨rfl, rfl, rfl, rfl, hz, hk, hb1, hb2, hb3, hgo, rfl⟩, HN⟩ := hrel
      have HF := Lib.hid hgo
      clear hgo
      rcases k with _ | k
      · obtain rfl : z = -1 := by omega
        have HE : Hid (findI b (a : Int) = (b1, b2, b3)) := HF.out
        clear hz
        go_wp2
        go_ret2
        exact ⟨by rw [HE.out]; rfl, m, rfl⟩
      · obtain rfl : z = (k : Int) := by omega
        clear hz
        have hkq : ((k : Int) != -1) = true := bne_iff_ne.2 (by omega)
        rcases Nat.lt_or_ge b3 32 with hs | hs
        · have HC := Lib.hid (HW.out k m (by omega))
          have hwle := withN_le b a k
          obtain ⟨hn1, hn2⟩ := HN.out (by omega)
          have HG : Hid (findI b (a : Int) = goM b a (lastOf b k) (stepM b a k (b1, b2, b3))) := by
            show _ = _
            rw [HF.out]
            exact goM_chain hn2 (by omega) hn1 hs
          have hck := HC0.out k (by omega)
          have hll := lastOf_le b k
          have HNN : Hid (lastOf b k ≠ 0 → num3 b (lastOf b k - 1) = num3 b a ∧ a + 3 ≤ b.length) := fun hne => by
            obtain ⟨p, hp⟩ : ∃ p, lastOf b k = p + 1 := ⟨lastOf b k - 1, by omega⟩
            rw [hp]
            exact ⟨(lastOf_hit hp).2.trans hn1, hn2⟩
          generalize lastOf b k = lk at *
          clear hn1
          have HSt : Hid (stepM b a k (b1, b2, b3) = if 3 ≤ withN b a k then (if b1 < withN b a k then (withN b a k, a - k, b3 + 1) else (b1, b2, b3 + 1)) else (b1, b2, b3)) := rfl
          generalize withN b a k = n at *
          rcases Nat.lt_or_ge n 3 with hn | hn
          · have HS2 : Hid (findI b (a : Int) = goM b a lk (b1, b2, b3)) := by show _ = _; rw [HG.out, HSt.out, if_neg (by omega)]
            go_wp2_with (go_at_call 26; refine HC.out.mono ?_; rintro e w2 ⟨rfl, q, rfl⟩)
            go_roundw
            case rel => exact ⟨lk, m + q, b1, b2, b3, (lk : Int) - 1, ⟨by go_num, by go_num, by go_num, by go_num, rfl, by omega, hb1, hb2, hb3, HS2.out, (by first | rfl | exact World.drewN_drewN _ _ _)⟩, HNN.out⟩
            case measure => simp [intOf] <;> omega
          · rcases Nat.lt_or_ge b1 n with hbn | hbn
            · have HS2 : Hid (findI b (a : Int) = goM b a lk (n, a - k, b3 + 1)) := by show _ = _; rw [HG.out, HSt.out, if_pos hn, if_pos hbn]
              go_wp2_with (go_at_call 26; refine HC.out.mono ?_; rintro e w2 ⟨rfl, q, rfl⟩)
              go_roundw
              case rel => exact ⟨lk, m + q, n, a - k, b3 + 1, (lk : Int) - 1, ⟨by go_num, by go_num, by go_num, by go_num, rfl, by omega, by omega, by omega, by omega, HS2.out, (by first | rfl | exact World.drewN_drewN _ _ _)⟩, HNN.out⟩
              case measure => simp [intOf] <;> omega
            · have HS2 : Hid (findI b (a : Int) = goM b a lk (b1, b2, b3 + 1)) := by show _ = _; rw [HG.out, HSt.out, if_pos hn, if_neg (by omega)]
              go_wp2_with (go_at_call 26; refine HC.out.mono ?_; rintro e w2 ⟨rfl, q, rfl⟩)
              go_roundw
              case rel => exact ⟨lk, m + q, b1, b2, b3 + 1, (lk : Int) - 1, ⟨by go_num, by go_num, by go_num, by go_num, rfl, by omega, by omega, by omega, by omega, HS2.out, (by first | rfl | exact World.drewN_drewN _ _ _)⟩, HNN.out⟩
              case measure => simp [intOf] <;> omega
        · obtain rfl : b3 = 32 := by omega
          have HE : Hid (findI b (a : Int) = (b1, b2, 32)) := by show _ = _; rw [HF.out, goM_full _ _ _ (by simp)]
          go_wp2
          go_ret2
          exact ⟨by rw [HE.out]; rfl, m, rfl⟩
  · have HZ : Hid (findI b a = (0, 0, 0)) := by show _ = _; unfold findI; rw [if_neg (by omega)]
    go_enter Try.func27, Try.ntmps27
    go_wp2_with (go_at_call 25; refine HL.out.mono ?_; rintro e w2 ⟨rfl, rfl⟩)
    go_ret2
    exact ⟨by rw [HZ.out]; rfl, 0, rfl⟩
end Go.Proofs.YtckdellcnoojaaaRRR
