/- Squeeze: gunnylaw13.great; the walks of SqueezeRuns and SqueezeUnpacks. -/
import Derived.Test.YtckdellcnoojaaaRRRSqI
import Derived.Test.YtckdellcnoojaaaRRRSamM
namespace Go.Proofs.YtckdellcnoojaaaRRR
open Go.RowKit

set_option maxRecDepth 100000 in
set_option maxHeartbeats 1000000 in
theorem qGreat_any {w : World} {B : Nat} {A : Option Addr} {c : Nat} {L : List Pc} (h : PcsAt w B A L) (hl : L.length ≤ 9223372036854775807) :
    Calls Try.prog 51 #[.slice A L.length c] w fun e w' => e = .returned (.bool (greatL L)) ∧ w = w' := by
  have HA := Lib.hid h
  clear h
  go_enter Try.func51, Try.ntmps51
  go_wp2
  go_loop [3] (fun i => ∃ k : Nat, k ≤ L.length ∧ k ≤ 300 ∧ i = .int .i64 k ∧ Hid (∀ d ∈ L.take k, d.b.length ≤ 5000)) (fun i => 300 - (intOf i).toNat)
  case atStart => exact ⟨0, Nat.zero_le _, by omega, rfl, fun d hd => by simp at hd⟩
  case round =>
    obtain ⟨k, hk, hk3, rfl, HK⟩ := hrel
    by_cases hin : k < L.length ∧ k < 300
    · obtain ⟨hkl, hk3'⟩ := hin
      have hki : (k : Int) < 300 := by omega
      obtain ⟨d, b, o, hd, rfl, hbB, hc1, -, -, -⟩ := HA.out.get hkl
      have HD := Lib.hid hd
      rcases Nat.lt_or_ge 5000 d.b.length with h5 | h5
      · have HG : Hid (greatL L = true) := by
          show _ = _
          unfold greatL
          rw [Bool.or_eq_true]
          refine .inl (List.any_eq_true.2 ⟨d, ?_, by simpa using h5⟩)
          refine List.mem_of_getElem? (i := k) ?_
          rw [List.getElem?_take, if_pos hk3']; exact hd
        have h5i : (5000 : Int) < (d.b.length : Int) := by omega
        clear hd
        go_wp2
        go_ret
        exact ⟨by rw [HG.out]; rfl, rfl⟩
      · have h5i : ¬ (5000 : Int) < (d.b.length : Int) := by omega
        clear hd
        go_wp2
        go_round
        case rel =>
          refine ⟨k + 1, by omega, by omega, by go_num, fun e he => ?_⟩
          rw [List.take_add_one, HD.out] at he
          rcases List.mem_append.1 he with he | he
          · exact HK.out e he
          · simp at he
            rw [he]; exact h5
        case measure => simp [intOf]; omega
    · have HG : Hid (greatL L = decide ((200 : Int) < (L.length : Int))) := by
        show _ = _
        have e1 : (L.take 300).any (fun d => decide (5000 < d.b.length)) = false := by
          rw [List.any_eq_false]
          intro d hd
          have : L.take 300 = L.take k := by
            rcases Nat.lt_or_ge k 300 with h1 | h1
            · rw [List.take_of_length_le (by omega), List.take_of_length_le (by omega)]
            · rw [show k = 300 by omega]
          rw [this] at hd
          have := HK.out d hd
          simp; omega
        unfold greatL
        rw [e1, Bool.false_or]
        apply decide_eq_decide.2
        omega
      have hcase : (k < L.length ∧ k = 300) ∨ k = L.length := by omega
      clear hin
      rcases hcase with ⟨h1, rfl⟩ | rfl
      · go_wp2
        go_ret
        exact ⟨by rw [HG.out]; first | rfl | (congr 1), rfl⟩
      · go_wp2
        go_ret
        exact ⟨by rw [HG.out]; first | rfl | (congr 1), rfl⟩

set_option maxRecDepth 100000 in
set_option maxHeartbeats 2000000 in
theorem sqRuns (w : World) (n : Nat) (hn : n ≤ 18446744073709551615) : Calls Try.prog 16 #[.int .u64 n] w fun e w' => e = .returned (.bool true) ∧ Below w.heap.size w w' := by
  have HPg0 := rPage_any w n hn
  rw [pageL_len] at HPg0
  have HPg := Lib.hid HPg0
  clear HPg0
  obtain ⟨P, hPd⟩ : ∃ P, pageL n = P := ⟨_, rfl⟩
  have hP : P.length = 4096 := by rw [← hPd]; exact pageL_len _
  have hper : ∀ i, i + 8 < 4096 → P[i + 8]?.getD 0 = P[i]?.getD 0 := by rw [← hPd]; exact page_per _
  have HSh := packB_short hP hper
  rw [hPd] at HPg
  have HPl := Lib.hid hP
  have hpj : ((packB P).length : Int) ≤ 200 := by omega
  clear hPd hper hP HSh
  go_enter Try.func16, Try.ntmps16
  go_wp2_with fail
  refine HPg.out.mono ?_
  rintro e w1 ⟨A1, c1, rfl, hO1, hB1⟩
  have HPk := Lib.hid (hO1.pack HPl.out (Below.refl _ _))
  have HB1 := Lib.hid hB1
  clear hO1 hB1 HPg
  go_wp2_with fail
  refine HPk.out.mono ?_
  rintro e w2 ⟨A2, c2, rfl, hO2, hB2⟩
  have HB2 : Hid (Below w.heap.size w w2) := HB1.out.trans (hB2.mono HB1.out.size)
  clear hO2 hB2 HPk
  generalize (packB P).length = k4 at *
  go_wp2_with fail
  refine (sqLives w2).mono ?_
  rintro e w3 ⟨rfl, hB3⟩
  go_wp2
  go_ret
  exact ⟨rfl, HB2.out.trans (hB3.mono HB2.out.size)⟩

set_option maxRecDepth 100000 in
set_option maxHeartbeats 4000000 in
theorem sqUnpacks {w : World} {A : Option Addr} {c : Nat} {b : List UInt8} (h : RdY w w.heap.size A b) (hc : b.length ≤ c) (hn : b.length ≤ 9223372036854775807) :
    Calls Try.prog 13 #[.slice A b.length c] w fun e w' => e = .returned (.bool true) ∧ Below w.heap.size w w' := by
  rcases Nat.lt_or_ge 9000 b.length with h9 | h9
  · have hi : (9000 : Int) < (b.length : Int) := by omega
    clear h
    go_enter Try.func13, Try.ntmps13
    go_wp2_with fail
    refine (sqLives _).mono ?_
    rintro e w3 ⟨rfl, hB3⟩
    go_wp2
    go_ret
    exact ⟨rfl, hB3⟩
  · have hi : ¬ (9000 : Int) < (b.length : Int) := by omega
    have HR := Lib.hid h
    have cv := run_str (c := c) h rfl
    have HU := Lib.hid (unpack_any h (Nat.le_refl _) (by omega) hc)
    have HT : Hid (∀ W, Below w.heap.size w W → Calls Try.prog 50 #[.slice A b.length c] W fun e w' => e = .returned (.int .i64 ((unpF b [] 0 0).2.1 : Nat)) ∧ Below W.heap.size W w') := fun W hW => tokens_any (HR.out.below hW) hW.size (by omega) hc
    have HX : Hid (∀ W, Below w.heap.size w W → Calls Try.prog 49 #[.slice A b.length c] W fun e w' => ∃ A' c', e = .returned (.tuple #[.slice A' (unpF b [] 0 0).1.length c', .int .i64 ((unpF b [] 0 0).2.1 : Nat), .int .i64 ((unpF b [] 0 0).2.2 : Nat)]) ∧ OwnY w' W.heap.size (.slice A' (unpF b [] 0 0).1.length c') (unpF b [] 0 0).1 ∧ Below W.heap.size W w') := fun W hW => rUnpack_any (HR.out.below hW) hW.size (by omega) hc
    clear h
    generalize unpF b [] 0 0 = U at *
    obtain ⟨p, m, er⟩ := U
    simp only [] at HU HT HX
    go_enter Try.func13, Try.ntmps13
    go_wp2_with fail
    refine HU.out.mono ?_
    rintro e w1 ⟨A1, c1, rfl, hO1, hB1⟩
    have HO1 := Lib.hid hO1
    have HB1 := Lib.hid hB1
    clear hO1 hB1 HU
    go_wp2_with fail
    refine (HX.out _ HB1.out).mono ?_
    rintro e w2 ⟨A2, c2, rfl, hO2, hB2⟩
    have HE := Lib.hid (refBytes_any (c := c1) (c2 := c2) (HO1.out.below hB2).rd hO2.rd)
    rw [beq_self_eq_true] at HE
    have HB2 : Hid (Below w.heap.size w w2) := HB1.out.trans (hB2.mono HB1.out.size)
    clear hO2 hB2 HX HO1
    go_wp2_with fail
    refine HE.out.mono ?_
    rintro e w3 ⟨rfl, rfl⟩
    go_wp2_with fail
    refine (HT.out _ HB2.out).mono ?_
    rintro e w4 ⟨rfl, hB4⟩
    have HB4 : Hid (Below w.heap.size w w4) := HB2.out.trans (hB4.mono HB2.out.size)
    have cv2 := run_str (c := c) (HR.out.below HB4.out) rfl
    clear hB4 cv
    go_wp2_with fail
    refine (sqLives _).mono ?_
    rintro e w5 ⟨rfl, hB5⟩
    go_wp2
    go_ret
    exact ⟨rfl, HB4.out.trans (hB5.mono HB4.out.size)⟩
end Go.Proofs.YtckdellcnoojaaaRRR
