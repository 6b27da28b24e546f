/- same.Page, lives, great; the walk of gunnylaw10.SamePage. -/
import Derived.Test.YtckdellcnoojaaaRRRSamL
import Derived.Test.YtckdellcnoojaaaRRRPagA
namespace Go.Proofs.YtckdellcnoojaaaRRR
open Go.RowKit

set_option maxHeartbeats 1000000 in
theorem sPage_any (w : World) (n : Nat) (_hn : n ≤ 18446744073709551615) :
    Calls Try.prog 45 #[.int .u64 n] w fun e w' => ∃ q, e = .returned (.slice (some ⟨q, 0, none⟩) 4096 4096) ∧ w.heap.size ≤ q ∧ HasY w' q (pageL n) ∧ Below w.heap.size w w' := by
  have HP := Lib.hid (numPut_any (w := w.alloc (.cells #[.int .u64 (n : Int)] 69)) (ad := ⟨w.heap.size, 0, none⟩) (c := 1) 8 n (by omega) (by omega) (by simp) (by simp))
  have HR := Lib.hid (pageL_rep n)
  go_enter Try.func45, Try.ntmps45
  go_wp2_with fail
  refine HP.out.mono ?_
  rintro e w2 ⟨A2, c2, rfl, hO2, hB2⟩
  have hl : (putN n 8).length = 8 := putN_len n 8
  obtain ⟨g2, rfl, -, -, -, -, -, -⟩ := hO2.at_ (by omega)
  have HQ := Lib.hid (repeat_any (c := c2) hO2.rd hl)
  have hB3 : Below w.heap.size w w2 := ((Below.refl w.heap.size w).alloc (Nat.le_refl _) (.cells #[.int .u64 (n : Int)] 69)).trans (hB2.mono (by simp))
  have hz := hB3.size
  clear hO2 hB2 hl
  go_wp2_with fail
  refine HQ.out.mono ?_
  rintro e w3 ⟨q, rfl, hq, hY, hB4⟩
  go_wp2
  go_ret
  exact ⟨q, rfl, by omega, by rw [HR.out]; exact hY, hB3.trans (hB4.mono hz)⟩

set_option maxRecDepth 100000 in
set_option maxHeartbeats 2000000 in
theorem sameLives (w : World) : Calls Try.prog 40 #[] w fun e w' => e = .returned (.bool true) ∧ Below w.heap.size w w' := by
  obtain ⟨i0, hi0, hz0, hz1, hz2⟩ := info_parts u8_info
  obtain ⟨N, hN⟩ : ∃ N, N = 4096 := ⟨_, rfl⟩
  have HN := Lib.hid hN
  clear hN
  go_enter Try.func40, Try.ntmps40
  go_wp2_with (at_make; refine wpList_make_full _ rfl _ _ 22 rfl w.heap.size 5 i0 (.int .u8 0) 1 Try.underlying22 hi0 hz0 hz1 .i64 .i64 _ _ N rfl rfl (by have := HN.out; omega) (by have := HN.out; omega) (by rw [hz2]; have := HN.out; omega) (by have := HN.out; simp [maxLen]; omega) (Nat.le_refl _) ?_; intro w3 hown hg)
  have hB3 : Below w.heap.size w w3 := (Below.refl w.heap.size w).grown hg (Nat.le_refl _) (fun q hq => by cases hq)
  have hO3 : OwnY w3 w.heap.size (.slice (some ⟨w.heap.size, 0, none⟩) N N) (pageL 0) := by
    rw [← zeros_page]
    unfold OwnY
    rw [← made_bytes, List.length_replicate, ← HN.out]
    exact hown
  have HO := Lib.hid (sOf_any (c := N) hO3.rd)
  rw [pageL_len, word_page 0 (by omega), runs_page 0, ← HN.out] at HO
  clear hown hg hO3
  have hz := hB3.size
  go_wp2_with fail
  refine HO.out.mono ?_
  rintro e w4 ⟨rfl, rfl⟩
  go_wp2_with fail
  refine (sPage_any w3 258 (by omega)).mono ?_
  rintro e w5 ⟨q, rfl, hq, hY, hB5⟩
  have HO2 := Lib.hid (sOf_any (c := 4096) hY.rd)
  rw [pageL_len, word_page 258 (by omega), runs_page 258] at HO2
  have hB6 : Below w.heap.size w w5 := hB3.trans (hB5.mono hz)
  clear hY hB5
  go_wp2_with fail
  refine HO2.out.mono ?_
  rintro e w6 ⟨rfl, rfl⟩
  go_wp2
  go_ret
  exact ⟨rfl, hB6⟩

/-- Are pieces more than are gone through? -/
def greatL (L : List Pc) : Bool := (L.take 300).any (fun d => decide (5000 < d.b.length)) || decide (200 < L.length)
theorem greatL_no {L : List Pc} (h : greatL L = false) : L.length ≤ 200 ∧ ∀ d ∈ L, d.b.length ≤ 5000 := by
  unfold greatL at h
  simp only [Bool.or_eq_false_iff, List.any_eq_false, decide_eq_true_eq, decide_eq_false_iff_not] at h
  refine ⟨by omega, fun d hd => ?_⟩
  have := h.1 d (by rw [List.take_of_length_le (by omega)]; exact hd)
  omega
set_option maxRecDepth 100000 in
set_option maxHeartbeats 1000000 in
theorem gGreat_any {w : World} {B : Nat} {A : Option Addr} {c : Nat} {L : List Pc} (h : PcsAt w B A L) (hl : L.length ≤ 9223372036854775807) :
    Calls Try.prog 39 #[.slice A L.length c] w fun e w' => e = .returned (.bool (greatL L)) ∧ w = w' := by
  have HA := Lib.hid h
  clear h
  go_enter Try.func39, Try.ntmps39
  go_wp2
  go_loop [3] (fun i => ∃ k : Nat, k ≤ L.length ∧ k ≤ 300 ∧ i = .int .i64 k ∧ Hid (∀ d ∈ L.take k, d.b.length ≤ 5000)) (fun i => 300 - (intOf i).toNat)
  case atStart => exact ⟨0, Nat.zero_le _, by omega, rfl, fun d hd => by simp at hd⟩
  case round =>
    obtain ⟨k, hk, hk3, rfl, HK⟩ := hrel
    by_cases hin : k < L.length ∧ k < 300
    · obtain ⟨hkl, hk3'⟩ := hin
      have hki : (k : Int) < 300 := by omega
      obtain ⟨d, b, o, hd, rfl, hbB, hc1, -, -, -⟩ := HA.out.get hkl
      have HD := Lib.hid hd
      rcases Nat.lt_or_ge 5000 d.b.length with h5 | h5
      · have HG : Hid (greatL L = true) := by
          show _ = _
          unfold greatL
          rw [Bool.or_eq_true]
          refine .inl (List.any_eq_true.2 ⟨d, ?_, by simpa using h5⟩)
          refine List.mem_of_getElem? (i := k) ?_
          rw [List.getElem?_take, if_pos hk3']; exact hd
        have h5i : (5000 : Int) < (d.b.length : Int) := by omega
        clear hd
        go_wp2
        go_ret
        exact ⟨by rw [HG.out]; rfl, rfl⟩
      · have h5i : ¬ (5000 : Int) < (d.b.length : Int) := by omega
        clear hd
        go_wp2
        go_round
        case rel =>
          refine ⟨k + 1, by omega, by omega, by go_num, fun e he => ?_⟩
          rw [List.take_add_one, HD.out] at he
          rcases List.mem_append.1 he with he | he
          · exact HK.out e he
          · simp at he
            rw [he]; exact h5
        case measure => simp [intOf]; omega
    · have HG : Hid (greatL L = decide ((200 : Int) < (L.length : Int))) := by
        show _ = _
        have e1 : (L.take 300).any (fun d => decide (5000 < d.b.length)) = false := by
          rw [List.any_eq_false]
          intro d hd
          have : L.take 300 = L.take k := by
            rcases Nat.lt_or_ge k 300 with h1 | h1
            · rw [List.take_of_length_le (by omega), List.take_of_length_le (by omega)]
            · rw [show k = 300 by omega]
          rw [this] at hd
          have := HK.out d hd
          simp; omega
        unfold greatL
        rw [e1, Bool.false_or]
        apply decide_eq_decide.2
        omega
      have hcase : (k < L.length ∧ k = 300) ∨ k = L.length := by omega
      clear hin
      rcases hcase with ⟨h1, rfl⟩ | rfl
      · go_wp2
        go_ret
        exact ⟨by rw [HG.out]; first | rfl | (congr 1), rfl⟩
      · go_wp2
        go_ret
        exact ⟨by rw [HG.out]; first | rfl | (congr 1), rfl⟩

set_option maxHeartbeats 1000000 in
theorem samePage_any (w : World) (n : Nat) (hn : n ≤ 18446744073709551615) :
    Calls Try.prog 11 #[.int .u64 n] w fun e w' => e = .returned (.bool true) ∧ Below w.heap.size w w' := by
  go_enter Try.func11, Try.ntmps11
  go_wp2_with fail
  refine (sPage_any w n hn).mono ?_
  rintro e w2 ⟨q, rfl, hq, hY, hB2⟩
  have hz := hB2.size
  go_wp2_with fail
  refine (rPage_any w2 n hn).mono ?_
  rintro e w3 ⟨A3, c3, rfl, hO, hB3⟩
  have HE := Lib.hid (refBytes_any (c := 4096) (c2 := c3) (hY.rd.below hB3) hO.rd)
  rw [pageL_len, beq_self_eq_true] at HE
  rw [pageL_len]
  have hB4 : Below w.heap.size w w3 := hB2.trans (hB3.mono hz)
  have hz4 := hB4.size
  clear hY hO hB2 hB3
  go_wp2_with fail
  refine HE.out.mono ?_
  rintro e w4 ⟨rfl, rfl⟩
  go_wp2_with fail
  refine (sameLives w3).mono ?_
  rintro e w5 ⟨rfl, hB5⟩
  go_wp2
  go_ret
  exact ⟨rfl, hB4.trans (hB5.mono hz4)⟩
end Go.Proofs.YtckdellcnoojaaaRRR
