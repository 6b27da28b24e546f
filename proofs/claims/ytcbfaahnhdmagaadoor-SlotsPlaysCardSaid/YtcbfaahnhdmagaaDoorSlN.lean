/- Slots: the walk of gunnylaw09.SlotsFine. -/
import Derived.Test.YtcbfaahnhdmagaaDoorSlM
namespace Go.Proofs.YtcbfaahnhdmagaaDoor
open Go.RowKit

/-- The first j are in use. -/
def stB (j : Nat) : Nat → Bool := fun k => decide (k < j)
theorem stB_upd (j : Nat) : updB (stB j) j true = stB (j + 1) := by
  funext k
  unfold updB stB
  by_cases h : k = j
  · subst h; simp
  · rw [if_neg h]
    by_cases h2 : k < j
    · simp [h2, show k < j + 1 by omega]
    · simp [h2, show ¬ k < j + 1 by omega]
theorem updP_same {pg : Nat → List UInt8} {n : Nat} {p : List UInt8} (h : pg n = p) : updP pg n p = pg := by
  funext k
  unfold updP
  by_cases e : k = n
  · subst e; rw [if_pos rfl, h]
  · rw [if_neg e]
section
variable {w0 w : World} {S : Nat → Prop} {gs gd gl gb g gw a many : Nat} {l : List Bool} {pg : Nat → List UInt8} {f : Nat → Bool}
theorem SlRun.c0 (h : SlRun w0 w S gs gd gl gb g gw l a many pg f) : w.cell? ⟨gs, 0, none⟩ = some (.pointer (some ⟨gd, 0, none⟩)) ∧ w.cell? ⟨gd, 0, none⟩ = some (.pointer (some ⟨gl, 0, none⟩)) := by
  obtain ⟨bs, hS, _⟩ := h.is_
  exact ⟨hS.top.cell 0, Bk.cell (DiskAt.top hS.disk) 0⟩
theorem SlRun.luck (h : SlRun w0 w S gs gd gl gb g gw l a many pg f) : LuckAt w S gl l a (failed l a) := by
  obtain ⟨bs, hS, _⟩ := h.is_
  exact DiskAt.luck hS.disk
end
theorem fine_great (w : World) (hT : Tab w) (m : Nat) (hm : m ≤ 255) (A : Option Addr) (n c : Nat) (hn : n ≤ 9223372036854775807) (h : 12 < n) :
    Calls Tryd.prog 6 #[.int .u8 m, .slice A n c] w fun e w' => e = .returned (.bool true) ∧ Below w.heap.size w w' := by
  have HL := Lib.hid (slLives hT)
  clear hT
  go_enter Tryd.func6, Tryd.ntmps6
  go_wp2_with (go_at_call 22; refine HL.out.mono ?_; rintro e w3 ⟨rfl, hB3⟩)
  go_ret
  exact ⟨rfl, hB3⟩
set_option maxRecDepth 100000 in
set_option maxHeartbeats 8000000 in
theorem fine_any (w : World) (hT : Tab w) (m : Nat) (hm : m ≤ 255) {A : Option Addr} {c : Nat} {L : List UInt8} (hA : RdY w w.heap.size A L) (hl : L.length ≤ 12) :
    Calls Tryd.prog 6 #[.int .u8 m, .slice A L.length c] w fun e w' => e = .returned (.bool true) ∧ Below w.heap.size w w' := by
  have HT := Lib.hid hT
  have HA := Lib.hid hA
  obtain ⟨q, hq⟩ : ∃ q, m % 9 = q := ⟨_, rfl⟩
  have hq8 : q ≤ 8 := by omega
  have hqi : (m : Int) % 9 = (q : Int) := by omega
  have HN := Lib.hid (slNew_run (w := w) (B := 0) (A := none) (c := 0) (l := []) (Rd.nil _ _ _) (Nat.zero_le _) (by simp) q (by omega) (fun k => pgL (L[k]?.getD 0) 4096))
  obtain ⟨pg, hpg⟩ : ∃ pg : Nat → List UInt8, pg = fun k => pgL (L[k]?.getD 0) 4096 := ⟨_, rfl⟩
  have HPg : Hid (∀ k, pg k = pgL (L[k]?.getD 0) 4096) := fun k => by rw [hpg]
  rw [← hpg] at HN
  clear hT hA hq hpg
  go_enter Tryd.func6, Tryd.ntmps6
  go_wp2_with fail
  refine HN.out.mono ?_
  rintro e w1 ⟨S, gs, gd, gl, gb, g, gw, rfl, h1⟩
  have H1 := Lib.hid h1
  clear HN h1
  go_wp2
  go_loopw [8] (fun i wr => ∃ k j : Nat, k ≤ L.length ∧ i = .int .i64 k ∧ j = min k q ∧ SlRun w wr S gs gd gl gb g gw [] (8 * j) q pg (stB j)) (fun i _ => L.length - (intOf i).toNat)
  case atStart => exact ⟨0, 0, Nat.zero_le _, rfl, by omega, H1.out⟩
  case round =>
    clear H1
    obtain ⟨k, j, hk, rfl, hj, hR⟩ := hrel
    clear hqi hm
    have HR := Lib.hid hR
    rcases Nat.lt_or_ge k L.length with hlt | hge
    · obtain ⟨ad, rfl, hb, hc⟩ := (HA.out.below hR.below).at_ hlt
      have HPk := Lib.hid (HPg.out k)
      clear hR
      obtain ⟨x, hx⟩ : ∃ x, L[k]?.getD 0 = x := ⟨_, rfl⟩
      rw [hx] at hc HPk
      clear hx
      rcases Nat.lt_or_ge k q with hkq | hkq
      · obtain rfl : j = k := by omega
        clear hj
        have HF := Lib.hid (filled9_any wr x)
        go_wp2_with fail
        refine HF.out.mono ?_
        rintro e w2 ⟨rfl, hO2, hB2⟩
        have HP := Lib.hid (HR.out.putFill HT.out (by simp) (by omega) hO2 hB2 (n := j) hkq (by simp [stB]) (fun i hi => by simp [stB, hi]))
        rw [stB_upd, updP_same HPk.out, (bad8_nil _).2] at HP
        clear hO2 hB2 HF
        go_wp2_with fail
        refine HP.out.mono ?_
        rintro e w3 ⟨-, hp3, -⟩
        obtain ⟨rfl, h3⟩ := hp3 (bad8_nil _).1
        clear hp3 HP
        go_wp2
        go_roundw
        case rel => exact ⟨j + 1, j + 1, by omega, by go_num, by omega, by rw [show 8 * (j + 1) = 8 * j + 8 by omega]; exact h3⟩
        case measure => simp [intOf]; omega
      · obtain rfl : j = q := by omega
        clear hj
        have HF := Lib.hid (filled9_any wr x)
        go_wp2_with fail
        refine HF.out.mono ?_
        rintro e w2 ⟨rfl, hO2, hB2⟩
        have HR2 := Lib.hid (HR.out.below0 hB2)
        have HP := Lib.hid (HR2.out.putFull (cntB_full fun i hi => by simp [stB, hi]) (some ⟨wr.heap.size, 0, none⟩) 4096)
        clear hO2 hB2 HF
        go_wp2_with fail
        refine HP.out.mono ?_
        rintro e w3 ⟨rfl, rfl⟩
        go_wp2
        go_roundw
        case rel => exact ⟨k + 1, j, by omega, by go_num, by omega, HR2.out⟩
        case measure => simp [intOf]; omega
    · obtain rfl : k = L.length := by omega
      clear hR
      have hjq : j ≤ q ∧ j ≤ L.length := by omega
      obtain ⟨hjq, hjl⟩ := hjq
      have HJ : Hid (∀ i, i < L.length → i < q → i < j) := fun i h1 h2 => by omega
      clear hj
      go_wp2
      go_loopw [11] (fun i wz => ∃ k a : Nat, k ≤ j ∧ i = .int .i64 k ∧ a ≤ 64 + 8 * k ∧ SlRun w wz S gs gd gl gb g gw [] a q pg (stB j)) (fun i _ => L.length - (intOf i).toNat)
      case atStart => exact ⟨0, 8 * j, Nat.zero_le _, rfl, by omega, HR.out⟩
      case round =>
        clear HR
        obtain ⟨k, a, hk, rfl, ha, hR⟩ := hrel
        have HR := Lib.hid hR
        rcases Nat.lt_or_ge k j with hlt | hge
        · have hkq : k < q := by omega
          have hkl : k < L.length := by omega
          obtain ⟨ad, rfl, hb, hc⟩ := (HA.out.below hR.below).at_ hkl
          have HPk := Lib.hid (HPg.out k)
          have HG := Lib.hid (hR.page (by simp) (by omega) (n := k) hkq (by simp [stB, hlt]))
          have hcF : Hid (∀ W, Below w.heap.size w W → W.cell? (ad.add k) = some (.int .u8 ((L[k]?.getD 0).toNat : Int))) := fun W hW => (HA.out.below hW).cell hkl
          rw [(bad8_nil _).2] at HG
          clear hR
          obtain ⟨x, hx⟩ : ∃ x, L[k]?.getD 0 = x := ⟨_, rfl⟩
          rw [hx] at hc HPk hcF
          clear hx
          go_wp2_with fail
          refine HG.out.mono ?_
          rintro e w2 ⟨-, hp2, h2, -⟩
          obtain ⟨hpl, A2, c2, rfl, hO2⟩ := hp2 (bad8_nil _).1
          have HR2 := Lib.hid h2
          have HO2 := Lib.hid hO2
          have HL2 := Lib.hid hpl
          rw [HPk.out] at HO2 HL2
          clear HG hp2 h2 hO2 hpl hc
          have HFl := Lib.hid (fun W => filled9_any W x)
          generalize pgL x 4096 = p2 at *
          have hc2 := hcF.out _ HR2.out.below
          have HS : Hid (∀ W, Below w2.heap.size w2 W → W.cell? (ad.add k) = some (.int .u8 (x.toNat : Int)) ∧ (convert 22 9 (.slice A2 4096 c2)).run Tryd.prog W = .ok (.string ⟨p2.toArray⟩) W) := fun W hW => ⟨hcF.out _ (HR2.out.below.trans (hW.mono HR2.out.below.size)), run_str (HO2.out.below hW).rd HL2.out⟩
          go_upto_region 17 with fail
          go_region_held (fun W => W.cell? (ad.add k) = some (.int .u8 (x.toNat : Int)) ∧ (convert 22 9 (.slice A2 4096 c2)).run Tryd.prog W = .ok (.string ⟨p2.toArray⟩) W) (first | exact HS.out _ (Below.refl _ _) | exact HS.out _ (below_drew1 _) | exact HS.out _ ((below_drew1 _).trans (hB8.mono (Nat.le_refl _)))) ((go_at_call 25; refine (HFl.out _).mono ?_; rintro x w8 ⟨rfl, hO8, hB8⟩; have hcv : (convert 22 9 (.slice (some ⟨w2.heap.size, 0, none⟩) 4096 4096)).run Tryd.prog w8 = .ok (.string ⟨p2.toArray⟩) w8 := run_str (c := 4096) hO8.rd HL2.out))
          all_goals
            have HR8 := Lib.hid ((HR2.out.drewN 1).below0 hB8)
            clear hB8 hO8 hcv
            go_wp2
            go_roundw
            case rel => exact ⟨k + 1, a + 8, by omega, by go_num, by omega, HR8.out⟩
            case measure => simp [intOf]; omega
        · obtain rfl : j = k := by omega
          obtain ⟨hc0, hc1⟩ := hR.c0
          have HF := Lib.hid (failed_any hR.luck)
          rw [show failed [] a = 0 by simp [failed]] at HF
          have HLv := Lib.hid (slLives (hR.tab HT.out))
          clear hR
          have hend : L.length ≤ j ∨ (j < L.length ∧ q ≤ j) := by
            rcases Nat.lt_or_ge j L.length with h1 | h1
            · exact .inr ⟨h1, by
                rcases Nat.lt_or_ge j q with h2 | h2
                · exact absurd (HJ.out j h1 h2) (Nat.lt_irrefl _)
                · exact h2⟩
            · exact .inl h1
          rcases hend with hend | ⟨h1, hend⟩
          all_goals
            go_wp2_with (first
              | (go_at_call 27; refine HF.out.mono ?_; rintro e w4 ⟨rfl, rfl⟩)
              | (go_at_call 22; refine HLv.out.mono ?_; rintro e w4 ⟨rfl, hB4⟩))
            go_ret
            exact ⟨rfl, HR.out.below.trans (hB4.mono HR.out.below.size)⟩
end Go.Proofs.YtcbfaahnhdmagaaDoor
