/- Squeeze: gunnylaw13.lives. -/
import Derived.Test.YtckdellcnoojaaaRRRSqH
import Derived.Test.YtckdellcnoojaaaRRRSamL
namespace Go.Proofs.YtckdellcnoojaaaRRR
open Go.RowKit

theorem run_str {w : World} {B n : Nat} {A : Option Addr} {c : Nat} {l : List UInt8} (h : RdY w B A l) (hn : l.length = n) : (convert 22 9 (.slice A n c)).run Try.prog w = .ok (.string ⟨l.toArray⟩) w := by
  subst hn
  exact run_string h
theorem unp_all {L : List Tk} {P : List UInt8} (h : Plays L [] P) (hP : P.length = 4096) : unpF (putAll L) [] 0 0 = (P, L.length, 0) := by
  have := unp_plays h hP [] [] 0
  simpa using this
theorem unp_plain {P : List UInt8} (hP : P.length = 4096) : unpF (putAll (litT P)) [] 0 0 = (P, 32, 0) := by
  have h : Plays (litT P) [] P := by
    have := plays_lit P [] [] P rfl
    simpa using this
  rw [unp_all h hP, lit_many, hP]
theorem page_per (n : Nat) : ∀ i, i + 8 < 4096 → (pageL n)[i + 8]?.getD 0 = (pageL n)[i]?.getD 0 := fun i hi => by
  rw [pageL_at n hi, pageL_at n (by omega), show (i + 8) % 8 = i % 8 by omega]
/-- Pack, of bytes that a call owns. -/
theorem OwnY.pack {w w0 : World} {A : Option Addr} {c base : Nat} {P : List UInt8} (h : OwnY w0 base (.slice A 4096 c) P) (hP : P.length = 4096) (hb : Below w0.heap.size w0 w) :
    Calls Try.prog 52 #[.slice A 4096 c] w fun e w' => ∃ A' c', e = .returned (.tuple #[.slice A' (packB P).length c', .bool true]) ∧ OwnY w' w.heap.size (.slice A' (packB P).length c') (packB P) ∧ Below w.heap.size w w' := by
  obtain ⟨g, rfl, _, _, hc, -, -, -⟩ := (h.below hb).at_ (by omega)
  exact pack_yes (h.below hb).rd (Nat.le_refl _) hP (by omega)
set_option maxRecDepth 100000 in
set_option maxHeartbeats 4000000 in
theorem sqLives (w : World) : Calls Try.prog 47 #[] w fun e w' => e = .returned (.bool true) ∧ Below w.heap.size w w' := by
  obtain ⟨N, hN⟩ : ∃ N : Nat, N = 578437695752307201 := ⟨_, rfl⟩
  have HPg0 := rPage_any w N (by omega)
  rw [pageL_len, hN] at HPg0
  have HPg := Lib.hid HPg0
  clear HPg0
  obtain ⟨P, hPd⟩ : ∃ P, pageL 578437695752307201 = P := ⟨_, rfl⟩
  have hP : P.length = 4096 := by rw [← hPd]; exact pageL_len _
  have hper : ∀ i, i + 8 < 4096 → P[i + 8]?.getD 0 = P[i]?.getD 0 := by rw [← hPd]; exact page_per _
  have HSh := packB_short hP hper
  have HSo := packB_some hP
  rw [hPd] at HPg
  have HU := Lib.hid (unp_plain hP)
  have hLl : (putAll (litT P)).length = 4128 := by rw [lit_len, hP]
  have HPl := Lib.hid hP
  have HLl := Lib.hid hLl
  clear hPd hper hN hP
  go_enter Try.func47, Try.ntmps47
  go_wp2_with fail
  refine HPg.out.mono ?_
  rintro e w1 ⟨A1, c1, rfl, hO1, hB1⟩
  have HO1 := Lib.hid hO1
  have HB1 := Lib.hid hB1
  have HPn : Hid (∀ W, Below w1.heap.size w1 W → Calls Try.prog 62 #[.slice A1 4096 c1] W fun e w' => ∃ A' c', e = .returned (.slice A' 4128 c') ∧ OwnY w' W.heap.size (.slice A' 4128 c') (putAll (litT P)) ∧ Below W.heap.size W w') := fun W hW => by
    have := rPlain_any (c := c1) (HO1.out.below hW).rd (Nat.le_refl _) HPl.out
    rwa [HPl.out, HLl.out] at this
  clear hO1 hB1 HPg
  go_wp2_with fail
  refine (HPn.out _ (Below.refl _ _)).mono ?_
  rintro e w2 ⟨A2, c2, rfl, hO2, hB2⟩
  obtain ⟨g2, rfl, -, -, hc2, -, -, -⟩ := hO2.at_ (by omega)
  have hUn := unpack_any (c := c2) hO2.rd (Nat.le_refl _) (by omega) hc2
  rw [HU.out, HLl.out] at hUn
  simp only [HPl.out] at hUn
  have HUn := Lib.hid hUn
  have HB2 := Lib.hid hB2
  clear hO2 hB2 hUn hc2
  go_wp2_with fail
  refine HUn.out.mono ?_
  rintro e w3 ⟨A3, c3, rfl, hO3, hB3⟩
  have HB3 : Hid (Below w1.heap.size w1 w3) := HB2.out.trans (hB3.mono HB2.out.size)
  have HPk := Lib.hid (HO1.out.pack HPl.out HB3.out)
  have HO3 := Lib.hid hO3
  clear hO3 hB3 HUn
  go_wp2_with fail
  refine HPk.out.mono ?_
  rintro e w4 ⟨A4, c4, rfl, hO4, hB4⟩
  have HB4 : Hid (Below w1.heap.size w1 w4) := HB3.out.trans (hB4.mono HB3.out.size)
  have cv1 := run_str (c := c3) (HO3.out.below hB4).rd HPl.out
  have cv2 := run_str (c := c1) (HO1.out.below HB4.out).rd HPl.out
  have hpi : (0 : Int) < ((packB P).length : Int) := by omega
  have hpj : ((packB P).length : Int) ≤ 200 := by omega
  clear hO4 hB4 HPk HSh HSo
  generalize (packB P).length = k4 at *
  go_wp2_with fail
  refine (HPn.out _ HB4.out).mono ?_
  rintro e w5 ⟨A5, c5, rfl, hO5, hB5⟩
  obtain ⟨g5, rfl, -, -, hc5, -, -, -⟩ := hO5.at_ (by omega)
  have hTk := tokens_any (c := c5) hO5.rd (Nat.le_refl _) (by omega) hc5
  rw [HU.out, HLl.out] at hTk
  have HTk := Lib.hid hTk
  have HB5 : Hid (Below w1.heap.size w1 w5) := HB4.out.trans (hB5.mono HB4.out.size)
  clear hO5 hB5 hTk hc5 cv1 cv2
  go_wp2_with fail
  refine HTk.out.mono ?_
  rintro e w6 ⟨rfl, hB6⟩
  have HB6 : Hid (Below w1.heap.size w1 w6) := HB5.out.trans (hB6.mono HB5.out.size)
  clear hB6
  go_wp2
  go_ret
  exact ⟨rfl, HB1.out.trans (HB6.out.mono HB1.out.size)⟩
end Go.Proofs.YtckdellcnoojaaaRRR
