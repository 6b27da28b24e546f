/- The reference's Page. -/
import Derived.Test.YtckdellcnoojaaaRRRSamH
namespace Go.Proofs.YtckdellcnoojaaaRRR
open Go.RowKit

theorem made_bytes (n : Nat) : (madeCells (Value.int .u8 0).cells (n * 1)).toList = (List.replicate n (0 : UInt8)).map bv := by
  rw [List.map_replicate]
  refine List.eq_replicate_iff.2 ⟨by simp [madeCells], ?_⟩
  intro b hb
  simp [madeCells] at hb
  obtain ⟨a, _, rfl⟩ := hb
  simp [Value.cells, bv, Nat.mod_one]
def pgTo (b : List UInt8) (n k : Nat) : List UInt8 := (List.range n).map fun i => if i < k then b[i % 8]?.getD 0 else 0
theorem pgTo_zero (b : List UInt8) (n : Nat) : pgTo b n 0 = List.replicate n 0 := by
  refine List.eq_replicate_iff.2 ⟨by simp [pgTo], ?_⟩
  intro x hx
  simp [pgTo] at hx
  exact hx.2.symm
theorem pgTo_len (b : List UInt8) (n k : Nat) : (pgTo b n k).length = n := by simp [pgTo]
theorem pgTo_set (b : List UInt8) (n k : Nat) : (pgTo b n k).set k (b[k % 8]?.getD 0) = pgTo b n (k + 1) := by
  apply List.ext_getElem?
  intro i
  rw [List.getElem?_set]
  simp only [pgTo, List.length_map, List.length_range, List.getElem?_map]
  by_cases hi : i < n
  · have e : (List.range n)[i]? = some i := by simp [hi]
    by_cases hk : k = i
    · subst hk
      simp [hi]
    · simp only [if_neg hk, e, Option.map_some]
      by_cases h2 : i < k
      · simp [h2, show i < k + 1 by omega]
      · simp [h2, show ¬ i < k + 1 by omega]
  · have e : (List.range n)[i]? = none := by simp; omega
    by_cases hk : k = i
    · subst hk; simp [hi]
    · simp [hk, e]

/-- The page of a word. -/
def pageL (n : Nat) : List UInt8 := pgTo (putN n 8) 4096 4096
set_option maxRecDepth 100000 in
set_option maxHeartbeats 2000000 in
theorem rPage_any (w : World) (n : Nat) (hn : n ≤ 18446744073709551615) :
    Calls Try.prog 46 #[.int .u64 n] w fun e w' => ∃ A' c', e = .returned (.slice A' (pageL n).length c') ∧ OwnY w' w.heap.size (.slice A' (pageL n).length c') (pageL n) ∧ Below w.heap.size w w' := by
  obtain ⟨i0, hi0, hz0, hz1, hz2⟩ := info_parts u8_info
  have HP := Lib.hid (rPut8_any w n hn)
  obtain ⟨N, hN⟩ : ∃ N, N = 4096 := ⟨_, rfl⟩
  have HN := Lib.hid hN
  have HE : Hid (pageL n = pgTo (putN n 8) N N) := by
    show _ = _
    rw [hN]; rfl
  clear hn hN
  rw [HE.out]
  go_enter Try.func46, Try.ntmps46
  go_upto_region 3 with (first
    | (go_at_call 61; refine HP.out.mono ?_; rintro x w2 ⟨A2, c2, rfl, hO2, hB2⟩)
    | (at_make; refine wpList_make_full _ rfl _ _ 22 rfl w2.heap.size 5 i0 (.int .u8 0) 1 Try.underlying22 hi0 hz0 hz1 .i64 .i64 _ _ N rfl rfl (by have := HN.out; omega) (by have := HN.out; omega) (by rw [hz2]; have := HN.out; omega) (by have := HN.out; simp [maxLen]; omega) (Nat.le_refl _) ?_; intro w3 hown hg))
  have hB3 : Below w2.heap.size w2 w3 := (Below.refl w2.heap.size w2).grown hg (Nat.le_refl _) (fun q hq => by cases hq)
  have hO3 : OwnY w3 w2.heap.size (.slice (some ⟨w2.heap.size, 0, none⟩) N N) (pgTo (putN n 8) N 0) := by
    rw [pgTo_zero]
    unfold OwnY
    rw [← made_bytes, List.length_replicate]
    exact hown
  have hlb : (putN n 8).length = 8 := putN_len n 8
  obtain ⟨gb, rfl, -, -, -, -, -, -⟩ := hO2.at_ (by omega)
  have HO2 := Lib.hid hO2
  have HB2 := Lib.hid hB2
  generalize hbL : putN n 8 = bL at *
  have HBL := Lib.hid hbL
  clear hown hg hO2 hB2 HP hbL
  go_wp2
  go_loopw [5] (fun j wr => ∃ k : Nat, k ≤ N ∧ j = .int .i64 k ∧ OwnY wr w2.heap.size (.slice (some ⟨w2.heap.size, 0, none⟩) N N) (pgTo bL N k) ∧ Below w2.heap.size w2 wr) (fun j _ => N - (intOf j).toNat)
  case atStart => exact ⟨0, Nat.zero_le _, rfl, hO3, hB3⟩
  case round =>
    clear hO3 hB3
    obtain ⟨k, hk, rfl, hO, hB⟩ := hrel
    have hpl := pgTo_len bL N k
    rcases Nat.lt_or_ge k N with h | h
    · have hki : (k : Int) < 4096 := by have := HN.out; omega
      have hkN : (k : Int) < N := by omega
      obtain ⟨q, hq, hq8⟩ : ∃ q, k % 8 = q ∧ q < 8 := ⟨_, rfl, by omega⟩
      have hqi : (k : Int) % 8 = (q : Int) := by omega
      have hqi8 : (q : Int) < 8 := by omega
      obtain ⟨gb', hge, _, _, _, -, hc1, -⟩ := (HO2.out.below hB).at_ (by omega)
      obtain rfl : gb = gb' := by simpa using hge
      have k1 := hc1 q (by omega)
      obtain ⟨gp, hgp, _, hgl, _, -, hc2, hfr⟩ := hO.at_ (by omega)
      obtain rfl : w2.heap.size = gp := by simpa using hgp
      have k2 := hc2 k (by omega)
      have k3 := hfr k
      have HO := Lib.hid hO
      have HX : Hid ((pgTo bL N k).set k (bL[q]?.getD 0) = pgTo bL N (k + 1)) := by
        rw [← hq]; exact pgTo_set bL N k
      generalize bL[q]?.getD 0 = x at *
      clear hc1 hc2 hfr hO hge hgp
      go_wp2
      go_roundw
      case rel => exact ⟨k + 1, by omega, by go_num, by rw [← HX.out]; exact HO.out.set (by omega) x, hB.setCell (Nat.le_refl _) _⟩
      case measure => simp [intOf]; omega
    · obtain rfl : k = N := by omega
      have hN := HN.out
      have hki : decide ((k : Int) < 4096) = false := decide_eq_false (by omega)
      go_wp2
      go_ret
      rw [HBL.out]
      exact ⟨some ⟨w2.heap.size, 0, none⟩, k, by rw [pgTo_len]; rfl, by rw [pgTo_len]; exact hO.weaken HB2.out.size, HB2.out.trans (hB.mono HB2.out.size)⟩
end Go.Proofs.YtckdellcnoojaaaRRR
