/- The walk of gunnylaw02.BitsStops. -/
import Derived.Test.YtcbfaahnhdmagaaDoorBtsD
namespace Go.Proofs.YtcbfaahnhdmagaaDoor
open Go.RowKit

theorem isPut_some {w : World} {g gw size : Nat} {f : Nat → Bool} (h : SetIs w g gw f size) (n : Int) :
    Calls Tryd.prog 14 #[.pointer (some ⟨g, 0, none⟩), .int .i64 n] w fun e w' => ∃ (b : Bool) (f' : Nat → Bool), e = .returned (.bool b) ∧ SetIs w' g gw f' size ∧ Fr (fun k => k = g ∨ k = gw) w w' := by
  cases hb : (mayB size n && !f n.toNat)
  · refine (isPut_no h hb).mono ?_
    rintro e w' ⟨rfl, rfl⟩
    exact ⟨_, _, rfl, h, Fr.refl _ _⟩
  · simp at hb
    obtain ⟨h1, h2⟩ := hb
    obtain ⟨k, rfl, hk⟩ := mayB_true h1
    refine (isPut_new h hk (by simpa using h2)).mono ?_
    rintro e w' ⟨rfl, h3, h4⟩
    exact ⟨_, _, rfl, h3, h4⟩
theorem tkI_length (most : Int) (f : Nat → Bool) (n : Nat) : ((tkI most (memI f n)).length : Int) = if 0 < most ∧ most < cntB f n then most else cntB f n := by
  unfold tkI
  split
  · rename_i h
    rw [List.length_take, memI_length]
    split <;> omega
  · rename_i h
    rw [memI_length, if_neg (fun hh => h hh.1)]

set_option maxRecDepth 100000 in
set_option maxHeartbeats 4000000 in
theorem stops_any (w : World) (hTab : Tab w) (A : Option Addr) (c : Nat) (l : List Int) (hA : RdI w w.heap.size A l) (hl : l.length ≤ 100) (most : Int) :
    Calls Tryd.prog 5 #[.slice A l.length c, .int .i64 most] w fun e w' => e = .returned (.bool true) ∧ Below w.heap.size w w' := by
  have HA := Lib.hid hA
  have HTab := Lib.hid hTab
  have hnsz : newSize (200 : Int) = 200 := rfl
  clear hA hTab
  go_enter Tryd.func5, Tryd.ntmps5
  go_wp2_with (go_at_call 10; refine (stNew w _).mono ?_; rintro x w1 ⟨g, gw, rfl, h1⟩)
  rw [hnsz] at h1
  clear hnsz
  go_loopw [6] (fun i wr => ∃ (k : Nat) (f : Nat → Bool), k ≤ l.length ∧ i = .int .i64 k ∧ StRun w wr g gw f 200) (fun i _ => l.length - (intOf i).toNat)
  case atStart => exact ⟨0, _, Nat.zero_le _, rfl, h1⟩
  case round =>
    clear h1
    obtain ⟨k, f, hk', rfl, hR⟩ := hrel
    rcases Nat.lt_or_ge k l.length with hlt | hge
    · obtain ⟨ad, rfl, hab, hcu⟩ := (HA.out.below hR.below).at_ hlt
      generalize l[k]?.getD 0 = n at *
      have HP := Lib.hid (isPut_some hR.set n)
      go_wp2_with (go_at_call 14; refine HP.out.mono ?_; rintro x w2 ⟨b, f2, rfl, hE2, hF2⟩)
      go_roundw
      case rel => exact ⟨k + 1, f2, by omega, by go_num, hR.step hE2 hF2⟩
      case measure => simp [intOf]; omega
    · have HL := Lib.hid (isLen hR.set)
      have HAll := Lib.hid (all_any hR.set (by omega) most)
      have HTl := Lib.hid (tkI_length most f 200)
      have HLv : Hid (∀ W, StRun w W g gw f 200 → Calls Tryd.prog 9 #[] W fun e w' => e = .returned (.bool true) ∧ Below W.heap.size W w') := fun W hW => bitsLives (hW.tab HTab.out)
      have HR := Lib.hid hR
      clear hR
      generalize cntB f 200 = cnt at *
      generalize tkI most (memI f 200) = L at *
      by_cases h0 : 0 < most
      · by_cases h2 : most < cnt
        · have hLl : (L.length : Int) = most := by rw [HTl.out, if_pos ⟨h0, h2⟩]
          go_wp2_with (first
            | (go_at_call 15; refine HL.out.mono ?_; rintro x w3 ⟨rfl, rfl⟩)
            | (go_at_call 16; refine HAll.out.mono ?_; rintro x w4 ⟨A4, c4, rfl, _, hB4⟩; have HR4 := HR.out.below0 hB4)
            | (go_at_call 9; refine (HLv.out _ HR4).mono ?_; rintro x w7 ⟨rfl, hB7⟩))
          go_ret
          exact ⟨rfl, HR4.below.trans (hB7.mono HR4.below.size)⟩
        · have hLl : (L.length : Int) = cnt := by rw [HTl.out, if_neg (fun hh => h2 hh.2)]
          go_wp2_with (first
            | (go_at_call 15; refine HL.out.mono ?_; rintro x w3 ⟨rfl, rfl⟩)
            | (go_at_call 16; refine HAll.out.mono ?_; rintro x w4 ⟨A4, c4, rfl, _, hB4⟩; have HR4 := HR.out.below0 hB4)
            | (go_at_call 9; refine (HLv.out _ HR4).mono ?_; rintro x w7 ⟨rfl, hB7⟩))
          go_ret
          exact ⟨rfl, HR4.below.trans (hB7.mono HR4.below.size)⟩
      · have hLl : (L.length : Int) = cnt := by rw [HTl.out, if_neg (fun hh => h0 hh.1)]
        go_wp2_with (first
          | (go_at_call 15; refine HL.out.mono ?_; rintro x w3 ⟨rfl, rfl⟩)
          | (go_at_call 16; refine HAll.out.mono ?_; rintro x w4 ⟨A4, c4, rfl, _, hB4⟩; have HR4 := HR.out.below0 hB4)
          | (go_at_call 9; refine (HLv.out _ HR4).mono ?_; rintro x w7 ⟨rfl, hB7⟩))
        go_ret
        exact ⟨rfl, HR4.below.trans (hB7.mono HR4.below.size)⟩

set_option maxRecDepth 100000 in
theorem stops_great (w : World) (hTab : Tab w) (z : Value) (A : Option Addr) (c n : Nat) (hl : 100 < n) (_hn : n ≤ 9223372036854775807) :
    Calls Tryd.prog 5 #[.slice A n c, z] w fun e w' => e = .returned (.bool true) ∧ Below w.heap.size w w' := by
  have hli : (100 : Int) < n := by omega
  have HV := Lib.hid (bitsLives hTab)
  clear hTab
  go_enter Tryd.func5, Tryd.ntmps5
  go_wp2_with (go_at_call 9; refine HV.out.mono ?_; rintro x w7 ⟨rfl, hB7⟩)
  go_ret
  exact ⟨rfl, hB7⟩
end Go.Proofs.YtcbfaahnhdmagaaDoor
