/- The walk of gunnylaw10.SameBack. -/
import Derived.Test.YtckdellcnoojaaaRRRSamN
namespace Go.Proofs.YtckdellcnoojaaaRRR
open Go.RowKit

set_option maxHeartbeats 1000000 in
theorem sameBack_great {w : World} {A2 : Option Addr} {c2 : Nat} {L : List Pc} (n k : Int) (h2 : PcsAt w w.heap.size A2 L) (hl : L.length ≤ 9223372036854775807) (hgr : greatL L = true) :
    Calls Try.prog 12 #[.slice A2 L.length c2, .int .u64 n, .int .u16 k] w fun e w' => e = .returned (.bool true) ∧ Below w.heap.size w w' := by
  have HG := Lib.hid (gGreat_any (c := c2) h2 hl)
  rw [hgr] at HG
  clear h2 hgr
  go_enter Try.func12, Try.ntmps12
  go_wp2_with (first
    | (go_at_call 39; refine HG.out.mono ?_; rintro e w3 ⟨rfl, rfl⟩)
    | (go_at_call 40; refine (sameLives _).mono ?_; rintro e w3 ⟨rfl, hB3⟩))
  go_ret
  exact ⟨rfl, hB3⟩

theorem wordOf_le (p : List UInt8) : wordOf p ≤ 18446744073709551615 := by
  unfold wordOf
  split
  · have := getN_lt p 0 8
    omega
  · omega
theorem byte_next (x : UInt8) : ∃ y : UInt8, y ≠ x ∧ ((y.toNat : Int) = (x.toNat : Int) + 1 ∧ (x.toNat : Int) + 1 ≤ 255 ∨ x.toNat = 255 ∧ y.toNat = 0) := by
  have hx := x.toNat_lt
  rcases Nat.lt_or_ge x.toNat 255 with h | h
  · have e : (UInt8.ofNat (x.toNat + 1)).toNat = x.toNat + 1 := by
      rw [UInt8.toNat_ofNat']; omega
    refine ⟨UInt8.ofNat (x.toNat + 1), fun h2 => ?_, .inl ⟨by omega, by omega⟩⟩
    rw [h2] at e
    omega
  · refine ⟨0, fun h2 => ?_, .inr ⟨by omega, rfl⟩⟩
    rw [← h2] at h
    simp at h

set_option maxRecDepth 100000 in
set_option maxHeartbeats 4000000 in
theorem sameBack_any {w : World} {A2 : Option Addr} {c2 : Nat} {L : List Pc} (n k : Nat) (hn : n ≤ 18446744073709551615) (hk : k ≤ 65535) (h2 : PcsAt w w.heap.size A2 L) (hgr : greatL L = false) :
    Calls Try.prog 12 #[.slice A2 L.length c2, .int .u64 n, .int .u16 k] w fun e w' => e = .returned (.bool true) ∧ Below w.heap.size w w' := by
  obtain ⟨hl, hL⟩ := greatL_no hgr
  have HG := Lib.hid (gGreat_any (c := c2) h2 (by omega))
  have HP := Lib.hid (page_any (c := c2) h2 (Nat.le_refl _) (by omega) hL)
  rw [hgr] at HG
  clear h2 hgr hL hl
  go_enter Try.func12, Try.ntmps12
  go_wp2_with fail
  refine HG.out.mono ?_
  rintro e w1 ⟨rfl, rfl⟩
  go_wp2_with fail
  refine HP.out.mono ?_
  rintro e w2 ⟨A3, c3, p, rfl, hp, hO, hB⟩
  have HY := Lib.hid hO.rd
  have HPl := Lib.hid hp
  have HO := Lib.hid (sOf_any (c := c3) hO.rd)
  have HR := Lib.hid (sRuns_any (c := c3) hO.rd)
  rw [hp] at HO HR
  have hz := hB.size
  have HB := Lib.hid hB
  clear hO hp HP HG hB
  go_wp2_with fail
  refine HO.out.mono ?_
  rintro e w4 ⟨rfl, rfl⟩
  go_wp2_with fail
  refine HR.out.mono ?_
  rintro e w4 ⟨rfl, rfl⟩
  clear HO HR
  obtain ⟨hr1, hr0⟩ : (runsW p = 1 ∨ ¬ runsW p = 1) ∧ True := ⟨Classical.em _, trivial⟩
  rcases hr1 with hr | hr
  · have HQ := Lib.hid (sPage_any w2 (wordOf p) (wordOf_le p))
    have HPB := Lib.hid (page_back HPl.out hr)
    rw [HPB.out] at HQ
    rw [hr, decide_eq_true rfl]
    clear hr
    go_wp2_with fail
    refine HQ.out.mono ?_
    rintro e w3 ⟨q0, rfl, hq0, hY3, hB3⟩
    have HE := Lib.hid (refBytes_any (c := 4096) (c2 := c3) hY3.rd (HY.out.below hB3))
    rw [HPl.out, beq_self_eq_true] at HE
    have hz3 := hB3.size
    have HB3 : Hid (Below w.heap.size w w3) := HB.out.trans (hB3.mono hz)
    clear hB3 hY3 HQ HY HB HPB HPl
    go_wp2_with fail
    refine HE.out.mono ?_
    rintro e w4 ⟨rfl, rfl⟩
    clear HE
    go_wp2_with fail
    refine (sPage_any w3 n hn).mono ?_
    rintro e w4 ⟨q, rfl, hq, hY4, hB4⟩
    have HO4 := Lib.hid (sOf_any (c := 4096) hY4.rd)
    rw [pageL_len, word_page n hn, runs_page n, decide_eq_true rfl] at HO4
    have HB4 : Hid (Below w.heap.size w w4) := HB3.out.trans (hB4.mono HB3.out.size)
    have hql : w.heap.size ≤ q := Nat.le_trans HB3.out.size hq
    clear hB4
    go_wp2_with fail
    refine HO4.out.mono ?_
    rintro e w5 ⟨rfl, rfl⟩
    clear HO4
    obtain ⟨m, hm, hm4⟩ : ∃ m, k % 4096 = m ∧ m < 4096 := ⟨_, rfl, by omega⟩
    have hmi : (k : Int) % 4096 = (m : Int) := by omega
    have hmi4 : (m : Int) < 4096 := by omega
    have hki : (k : Int) ≤ 65535 := by omega
    have hc := hY4.cell (k := m) (by rw [pageL_len]; exact hm4)
    have hfz := hY4.free m
    obtain ⟨y, hy, hyv⟩ := byte_next ((pageL n)[m]?.getD 0)
    have hY5 := hY4.set (k := m) (by rw [pageL_len]; exact hm4) y
    have hr5 := runs_off n m hm4 y hy
    have hl5 : ((pageL n).set m y).length = 4096 := by rw [List.length_set, pageL_len]
    generalize (pageL n).set m y = P5 at hY5 hr5 hl5
    generalize ((pageL n)[m]?.getD 0).toNat = xn at hc hyv
    clear hy hY4 hm
    obtain ⟨z, hz1, hz2⟩ : ∃ z : Int, z = (y.toNat : Int) ∧ (z = (xn : Int) + 1 ∧ (xn : Int) + 1 ≤ 255 ∨ xn = 255 ∧ z = 0) := ⟨_, rfl, by rcases hyv with ⟨a, b⟩ | ⟨a, b⟩ <;> omega⟩
    rw [← hz1] at hY5
    clear hyv hz1
    rcases hz2 with ⟨rfl, hy2⟩ | ⟨rfl, rfl⟩
    all_goals
      have HO5 := Lib.hid (sOf_any (c := 4096) hY5.rd)
      have HR5 := Lib.hid (sRuns_any (c := 4096) hY5.rd)
      rw [hl5, decide_eq_false (by omega : ¬ runsW P5 = 1)] at HO5
      rw [hl5] at HR5
      have hri : (1 : Int) < (runsW P5 : Int) := by omega
      have HB5 := Lib.hid (HB4.out.setCell (p := ⟨q, m, none⟩) hql)
      generalize wordOf P5 = v5 at *
      generalize runsW P5 = r5 at *
      clear hY5 hl5 hr5
      go_wp2_with fail
      refine HO5.out.mono ?_
      rintro e w6 ⟨rfl, rfl⟩
      go_wp2_with fail
      refine HR5.out.mono ?_
      rintro e w6 ⟨rfl, rfl⟩
      go_wp2_with fail
      refine (sameLives _).mono ?_
      rintro e w7 ⟨rfl, hB7⟩
      go_wp2
      go_ret
      exact ⟨rfl, (HB5.out _).trans (hB7.mono (HB5.out _).size)⟩
  · have hb : ((runsW p : Int) == 1) = false := beq_eq_false_iff_ne.2 (by omega)
    rw [decide_eq_false hr]
    generalize runsW p = rp at *
    obtain ⟨w3, hw3⟩ : ∃ w3, w3 = w2 := ⟨_, rfl⟩
    subst hw3
    have HB3 := HB
    clear HY HB HPl hr
    go_wp2_with fail
    refine (sPage_any w3 n hn).mono ?_
    rintro e w4 ⟨q, rfl, hq, hY4, hB4⟩
    have HO4 := Lib.hid (sOf_any (c := 4096) hY4.rd)
    rw [pageL_len, word_page n hn, runs_page n, decide_eq_true rfl] at HO4
    have HB4 : Hid (Below w.heap.size w w4) := HB3.out.trans (hB4.mono HB3.out.size)
    have hql : w.heap.size ≤ q := Nat.le_trans HB3.out.size hq
    clear hB4
    go_wp2_with fail
    refine HO4.out.mono ?_
    rintro e w5 ⟨rfl, rfl⟩
    clear HO4
    obtain ⟨m, hm, hm4⟩ : ∃ m, k % 4096 = m ∧ m < 4096 := ⟨_, rfl, by omega⟩
    have hmi : (k : Int) % 4096 = (m : Int) := by omega
    have hmi4 : (m : Int) < 4096 := by omega
    have hki : (k : Int) ≤ 65535 := by omega
    have hc := hY4.cell (k := m) (by rw [pageL_len]; exact hm4)
    have hfz := hY4.free m
    obtain ⟨y, hy, hyv⟩ := byte_next ((pageL n)[m]?.getD 0)
    have hY5 := hY4.set (k := m) (by rw [pageL_len]; exact hm4) y
    have hr5 := runs_off n m hm4 y hy
    have hl5 : ((pageL n).set m y).length = 4096 := by rw [List.length_set, pageL_len]
    generalize (pageL n).set m y = P5 at hY5 hr5 hl5
    generalize ((pageL n)[m]?.getD 0).toNat = xn at hc hyv
    clear hy hY4 hm
    obtain ⟨z, hz1, hz2⟩ : ∃ z : Int, z = (y.toNat : Int) ∧ (z = (xn : Int) + 1 ∧ (xn : Int) + 1 ≤ 255 ∨ xn = 255 ∧ z = 0) := ⟨_, rfl, by rcases hyv with ⟨a, b⟩ | ⟨a, b⟩ <;> omega⟩
    rw [← hz1] at hY5
    clear hyv hz1
    rcases hz2 with ⟨rfl, hy2⟩ | ⟨rfl, rfl⟩
    all_goals
      have HO5 := Lib.hid (sOf_any (c := 4096) hY5.rd)
      have HR5 := Lib.hid (sRuns_any (c := 4096) hY5.rd)
      rw [hl5, decide_eq_false (by omega : ¬ runsW P5 = 1)] at HO5
      rw [hl5] at HR5
      have hri : (1 : Int) < (runsW P5 : Int) := by omega
      have HB5 := Lib.hid (HB4.out.setCell (p := ⟨q, m, none⟩) hql)
      generalize wordOf P5 = v5 at *
      generalize runsW P5 = r5 at *
      clear hY5 hl5 hr5
      go_wp2_with fail
      refine HO5.out.mono ?_
      rintro e w6 ⟨rfl, rfl⟩
      go_wp2_with fail
      refine HR5.out.mono ?_
      rintro e w6 ⟨rfl, rfl⟩
      go_wp2_with fail
      refine (sameLives _).mono ?_
      rintro e w7 ⟨rfl, hB7⟩
      go_wp2
      go_ret
      exact ⟨rfl, (HB5.out _).trans (hB7.mono (HB5.out _).size)⟩
end Go.Proofs.YtckdellcnoojaaaRRR
