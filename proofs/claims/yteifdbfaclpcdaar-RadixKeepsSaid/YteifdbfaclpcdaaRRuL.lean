/- Radix: the document's lists: keys, how many nodes. -/
import Derived.Test.YteifdbfaclpcdaaRRuK
namespace Go.Proofs.YteifdbfaclpcdaaR.Ru
open Go.RowKit

set_option maxRecDepth 100000 in
theorem kKeys {w : World} {B : Nat} {A A2 : Option Addr} {c c2 : Nat} {L : Ks} (h : KRd w B A L) (h2 : KRd w B A2 L) (hok : KOk L) (hl : L.length ≤ 1000) :
    Calls Try.prog 31 #[.slice A L.length c, .slice A2 L.length c2] w fun e w' => e = .returned (.bool true) ∧ Below w.heap.size w w' := by
  have HA := Lib.hid h
  have HA2 := Lib.hid h2
  clear h h2
  go_enter Try.func31, Try.ntmps31
  go_wp2
  go_loopw [5] (fun i wr => ∃ k : Nat, k ≤ L.length ∧ i = .int .i64 k ∧ ∃ m, wr = w.drewN m) (fun i _ => L.length - (intOf i).toNat)
  case atStart => exact ⟨0, Nat.zero_le _, rfl, 0, rfl⟩
  case round =>
    obtain ⟨k, hk, rfl, m, rfl⟩ := hrel
    rcases Nat.lt_or_ge k L.length with hlt | hge
    · have he : L[k]? = some L[k] := by simp [hlt]
      obtain ⟨n, hn⟩ := hok _ (List.mem_of_getElem? he)
      obtain ⟨g, o, rfl, hg, c1, c2⟩ := HA.out _ _ he
      obtain ⟨g2, o2, rfl, hg2, d1, d2⟩ := HA2.out _ _ he
      rw [hn] at c2 d2
      generalize L[k] = e at *
      obtain ⟨ek, ev⟩ := e
      simp only at c1 c2 d1 d2
      clear he hn
      go_upto_region 6 with fail
      go_quiet (fail)
      go_wp2
      go_roundw
      case rel => exact ⟨k + 1, by omega, by go_num, _, rfl⟩
      case measure => simp [intOf]; omega
    · obtain rfl : k = L.length := by omega
      go_wp2
      go_ret
      exact ⟨rfl, ((Fr.refl (fun _ => False) w).drewN m).below0⟩

set_option maxRecDepth 100000 in
set_option maxHeartbeats 2000000 in
theorem kNodes {w : World} {B : Nat} {A : Option Addr} {c : Nat} {L : Ks} (h : KRd w B A L) (hl : L.length ≤ 1000) (hlt : ∀ e ∈ L, e.1 < 65536) (hu : (L.map (·.1)).Pairwise (· < ·)) :
    Calls Try.prog 48 #[.slice A L.length c] w fun e w' => e = .returned (.int .i64 (cntN (exL (L.map (·.1))) : Nat)) ∧ Below w.heap.size w w' := by
  have HA := Lib.hid h
  have HU := Lib.hid hu
  have HLt := Lib.hid hlt
  clear h hu hlt
  have hcb : ∀ ks, cntN (exL ks) ≤ 4369 := fun ks => cntN_le _
  replace hcb := Lib.hid hcb
  go_enter Try.func48, Try.ntmps48
  go_wp2
  go_loopw [3, 4] (fun n i wr => ∃ k : Nat, k ≤ L.length ∧ i = .int .i64 k ∧ n = .int .i64 (cntN (exL ((L.map (·.1)).take k)) : Nat) ∧ ∃ m, wr = w.drewN m) (fun _ i _ => L.length - (intOf i).toNat)
  case atStart => exact ⟨0, Nat.zero_le _, rfl, by rw [List.take_zero, cntN_exL_nil]; rfl, 0, rfl⟩
  case round =>
    obtain ⟨k, hk, rfl, rfl, m, rfl⟩ := hrel
    rcases Nat.lt_or_ge k L.length with hlt | hge
    · have he : L[k]? = some L[k] := by simp [hlt]
      obtain ⟨g, o, rfl, hg, c1, -⟩ := HA.out _ _ he
      have hek := HLt.out _ (List.mem_of_getElem? he)
      have hks : (L.map (·.1))[k]? = some L[k].1 := by rw [List.getElem?_map, he]; rfl
      have hlast := exL_last HU.out hks
      have hnext : cntN (exL ((L.map (·.1)).take (k + 1))) = cntN (exL ((L.map (·.1)).take k)) + partN (exL ((L.map (·.1)).take k)) L[k].1 4 := by
        rw [List.take_add_one, hks]
        exact cntN_exL_snoc _ hek
      have hpl := partN_le (exL ((L.map (·.1)).take k))
      have hcb2 := hcb.out ((L.map (·.1)).take k)
      have HN := Lib.hid hnext
      have HL := Lib.hid hlast
      have hxs : Hid (∀ d, partN (exL ((L.map (·.1)).take k)) L[k].1 (d + 1) = partN (exL ((L.map (·.1)).take k)) L[k].1 d + if exL ((L.map (·.1)).take k) d (L[k].1 / rxD d) then 0 else 1) := fun d => partN_succ _ _ _
      generalize hex : exL ((L.map (·.1)).take k) = ex at *
      generalize hk0 : L[k].1 = ek at *
      generalize cntN ex = n0 at *
      clear hnext hlast hks hk0 hex he
      have hpr : 0 < k → ∃ e1, (L.map (·.1))[k - 1]? = some e1 ∧ e1 < 65536 ∧ w.cell? ⟨g, o + (k - 1) * 2, none⟩ = some (.int .i64 (e1 : Int)) := fun h0 => by
        have he1 : L[k - 1]? = some L[k - 1] := by simp
        obtain ⟨g', o', e', _, c1', _⟩ := HA.out _ _ he1
        injection e' with e'
        injection e' with e1' e2'
        subst e1' e2'
        exact ⟨_, by rw [List.getElem?_map, he1]; rfl, HLt.out _ (List.mem_of_getElem? he1), c1'⟩
      go_wp2
      go_loopw [3, 5, 6] (fun x3 x5 x6 wq => ∃ d : Nat, d ≤ 4 ∧ x6 = .int .i64 (d : Int) ∧ x5 = .int .i64 (rxD d : Nat) ∧ x3 = .int .i64 (n0 + partN ex ek d : Nat) ∧ ∃ m2, wq = w.drewN m2) (fun _ _ x6 _ => 4 - (intOf x6).toNat)
      case atStart => exact ⟨0, by omega, rfl, rfl, by rw [partN_zero]; rfl, m, rfl⟩
      case round =>
        obtain ⟨d, hd, rfl, rfl, rfl, m2, rfl⟩ := hrel
        rcases Nat.lt_or_ge d 4 with hd4 | hd4
        · have hT := HL.out d
          have hS := hxs.out d
          have hP := hpl ek d
          have hD := rxD_pos d
          have hD2 : ((rxD d : Nat) : Int) / 16 = (rxD (d + 1) : Nat) := by
            rw [rxD_step (by omega : d ≤ 3)]
            omega
          have hDl : rxD d ≤ 65536 := by
            rcases (by omega : d = 0 ∨ d = 1 ∨ d = 2 ∨ d = 3) with rfl | rfl | rfl | rfl <;> decide
          generalize rxD d = D at *
          have HD2 := Lib.hid hD2
          clear hD2
          rcases k with _ | k
          · rw [if_pos rfl] at hT
            rw [hT, if_neg (by decide)] at hS
            clear hT
            go_upto_region 9 with fail
            go_quiet (fail)
            go_wp2
            go_roundw
            case rel => exact ⟨d + 1, by omega, by go_num, by rw [← HD2.out], by rw [hS]; go_num, _, rfl⟩
            case measure => simp [intOf]; omega
          · obtain ⟨e1, he1, he1l, hc1⟩ := hpr (by omega)
            rw [if_neg (by omega), he1, Option.getD_some] at hT
            rw [hT] at hS
            have hw1 : IntKind.i64.wrap ((k : Int) + 1 - 1) = (k : Int) := by rw [show (k : Int) + 1 - 1 = k by omega]; exact IntWalk.i64_in _ (by omega)
            rw [show k + 1 - 1 = k by omega] at hc1
            have hk1 : (k : Int) < L.length := by omega
            have hk0 : (0 : Int) ≤ k := by omega
            have hk2 : (k : Int) + 1 < L.length := by omega
            have hk3 : ((k : Int) + 1 == 0) = false := by rw [beq_eq_false_iff_ne]; omega
            have hk4 : (0 : Int) ≤ (k : Int) + 1 := by omega
            have hw2 : IntKind.i64.wrap (k : Int) = (k : Int) := IntWalk.i64_in _ (by omega)
            have hD0 : ¬ ((D : Int) = 0) := by omega
            clear hT he1 hpr
            have hq1 : (ek : Int) / (D : Int) = ((ek / D : Nat) : Int) := (Int.natCast_ediv ek D).symm
            have hq2 : (e1 : Int) / (D : Int) = ((e1 / D : Nat) : Int) := (Int.natCast_ediv e1 D).symm
            have hl1 : ek / D ≤ 65535 := Nat.le_trans (Nat.div_le_self _ _) (by omega)
            have hl2 : e1 / D ≤ 65535 := Nat.le_trans (Nat.div_le_self _ _) (by omega)
            generalize ek / D = q1 at *
            generalize e1 / D = q2 at *
            by_cases hq : q1 = q2
            · have hqi : ((q1 : Int) == (q2 : Int)) = true := by rw [beq_iff_eq]; omega
              have hqn : ((q1 : Int) != (q2 : Int)) = false := by rw [bne, hqi]; rfl
              rw [decide_eq_true hq, if_pos rfl] at hS
              clear hq
              go_upto_region 9 with fail
              go_quiet (fail)
              go_wp2
              go_roundw
              case rel => exact ⟨d + 1, by omega, by go_num, by rw [← HD2.out], by rw [hS]; go_num, _, rfl⟩
              case measure => simp [intOf]; omega
            · have hqi : ((q1 : Int) == (q2 : Int)) = false := by
                rw [beq_eq_false_iff_ne]
                omega
              have hqn : ((q1 : Int) != (q2 : Int)) = true := by rw [bne, hqi]; rfl
              rw [decide_eq_false hq, if_neg (by decide)] at hS
              clear hq
              go_upto_region 9 with fail
              go_quiet (fail)
              go_wp2
              go_roundw
              case rel => exact ⟨d + 1, by omega, by go_num, by rw [← HD2.out], by rw [hS]; go_num, _, rfl⟩
              case measure => simp [intOf]; omega
        · obtain rfl : d = 4 := by omega
          have hN4 := HN.out
          go_wp2
          go_roundw
          case rel => exact ⟨k + 1, by omega, by go_num, by rw [hN4], _, rfl⟩
          case measure => simp [intOf]; omega
    · obtain rfl : k = L.length := by omega
      go_wp2
      go_ret
      refine ⟨?_, ((Fr.refl (fun _ => False) w).drewN m).below0⟩
      rw [List.take_of_length_le (by simp)]
      rfl
end Go.Proofs.YteifdbfaclpcdaaR.Ru
