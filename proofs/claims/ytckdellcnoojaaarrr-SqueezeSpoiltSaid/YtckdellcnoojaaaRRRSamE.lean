/- The reference's Runs: the walk. -/
import Derived.Test.YtckdellcnoojaaaRRRSamD
namespace Go.Proofs.YtckdellcnoojaaaRRR
open Go.RowKit

theorem off_add0 (b o i : Nat) : (⟨b, o, none⟩ : Addr).add i = ⟨b, o + i, none⟩ := by
  unfold Addr.add
  split <;> simp_all
def runsTo (p : List UInt8) (n : Nat) : Nat := if n = 0 then 0 else 1 + diffW p (n - 1)
theorem runsTo_succ {p : List UInt8} (hl : p.length = 4096) {n : Nat} (h0 : 0 < n) (hn : n < 512) : runsTo p (n + 1) = runsTo p n + if word8 p n = word8 p (n - 1) then 0 else 1 := by
  obtain ⟨q, rfl⟩ : ∃ q, n = q + 1 := ⟨n - 1, by omega⟩
  have e := word8_eq hl (i := q + 1) (k := q) hn (by omega)
  have e1 : runsTo p (q + 1 + 1) = 1 + (diffW p q + if getN p (8 * q) 8 = getN p (8 * (q + 1)) 8 then 0 else 1) := rfl
  have e2 : runsTo p (q + 1) = 1 + diffW p q := rfl
  rw [e1, e2, Nat.add_sub_cancel]
  by_cases h : word8 p (q + 1) = word8 p q
  · rw [if_pos h, if_pos (e.1 h).symm]; omega
  · rw [if_neg h, if_neg (fun x => h (e.2 x.symm))]; omega
set_option maxRecDepth 100000 in
set_option maxHeartbeats 2000000 in
theorem rRuns_yes {w : World} {B : Nat} {A : Option Addr} {c : Nat} {p : List UInt8} (h : RdY w B A p) (hl : p.length = 4096) (hcap : 4096 ≤ c) :
    Calls Try.prog 44 #[.slice A p.length c] w fun e w' => e = .returned (.int .i64 (runsTo p 512)) ∧ ∃ n, w' = w.drewN n := by
  have HR := Lib.hid h
  have HL := Lib.hid hl
  obtain ⟨g, o, rfl⟩ : ∃ g o, A = some ⟨g, o, none⟩ := by
    obtain ⟨ad, rfl, _, _⟩ := h.at_ (k := 0) (by omega)
    obtain ⟨g, o, s⟩ := ad
    have := World.cell?_spot (h.cell (k := 0) (by omega))
    have hs : s = none := by simpa [Addr.add] using this
    exact ⟨g, o, by rw [hs]⟩
  obtain ⟨m, hm⟩ : ∃ m, p.length = m := ⟨_, rfl⟩
  rw [hm] at hl ⊢
  subst hl
  clear h hm
  go_enter Try.func44, Try.ntmps44
  go_wp2
  go_loopw [3, 4] (fun v j wr => ∃ n nq : Nat, n ≤ 512 ∧ j = .int .i64 n ∧ v = .int .i64 (runsTo p n) ∧ wr = w.drewN nq) (fun _ j _ => 512 - (intOf j).toNat)
  case atStart => exact ⟨0, 0, by omega, rfl, rfl, rfl⟩
  case round =>
    obtain ⟨n, nq, hn, rfl, rfl, rfl⟩ := hrel
    rcases Nat.lt_or_ge n 512 with h | h
    · have hni : (n : Int) < 512 := by omega
      have hrt : runsTo p n ≤ 512 := by have := diffW_le p (n - 1); unfold runsTo; split <;> omega
      rcases Nat.eq_zero_or_pos n with h0 | h0
      · subst h0
        go_upto_region 7 with fail
        go_quiet (fail)
        go_wp2
        go_roundw
        case rel => exact ⟨1, _, by omega, by go_num, by rfl, rfl⟩
        case measure => simp [intOf]
      · have hz : ((n : Int) == 0) = false := beq_eq_false_iff_ne.2 (by omega)
        obtain ⟨a1, ha1⟩ : ∃ a, 8 * n = a := ⟨_, rfl⟩
        obtain ⟨a2, ha2⟩ : ∃ a, 8 * n + 8 = a := ⟨_, rfl⟩
        obtain ⟨a0, ha0⟩ : ∃ a, 8 * (n - 1) = a := ⟨_, rfl⟩
        have hw1 : IntKind.i64.wrap (8 * (n : Int)) = (a1 : Int) := (IntWalk.i64_in _ (by omega)).trans (by omega)
        have hw2 : IntKind.i64.wrap ((a1 : Int) + 8) = (a2 : Int) := (IntWalk.i64_in _ (by omega)).trans (by omega)
        have hw3 : IntKind.i64.wrap ((a1 : Int) - 8) = (a0 : Int) := (IntWalk.i64_in _ (by omega)).trans (by omega)
        have g1 : (a1 : Int) ≤ (a2 : Int) := by omega
        have g2 : (a0 : Int) ≤ (a1 : Int) := by omega
        have g3 : (a2 : Int) ≤ (c : Int) := by omega
        have g4 : (a1 : Int) ≤ (c : Int) := by omega
        have g1' : a1 ≤ a2 := by omega
        have g2' : a0 ≤ a1 := by omega
        have g3' : a2 ≤ c := by omega
        have g4' : a1 ≤ c := by omega
        have e1 : ∀ m c', (convert 22 9 (.slice (some ⟨g, o + a1, none⟩) (a2 - a1) c')).run Try.prog (w.drewN m) = .ok (.string ⟨(word8 p n).toArray⟩) (w.drewN m) := fun m c' => by
          have hr := (HR.out.drop (8 * n)).take 8
          have := run_string (c := c') (hr.drewN m)
          rw [show ((p.drop (8 * n)).take 8).length = a2 - a1 from (word8_len HL.out h).trans (by omega), ha1] at this
          simpa [off_add0, word8, ← ha1] using this
        have e2 : ∀ m c', (convert 22 9 (.slice (some ⟨g, o + a0, none⟩) (a1 - a0) c')).run Try.prog (w.drewN m) = .ok (.string ⟨(word8 p (n - 1)).toArray⟩) (w.drewN m) := fun m c' => by
          have hr := (HR.out.drop (8 * (n - 1))).take 8
          have := run_string (c := c') (hr.drewN m)
          rw [show ((p.drop (8 * (n - 1))).take 8).length = a1 - a0 from (word8_len HL.out (by omega)).trans (by omega), ha0] at this
          simpa [off_add0, word8, ← ha0] using this
        have HA1 := Lib.hid ha1
        have hne1 : c ≠ a1 := by omega
        have hne0 : c ≠ a0 := by omega
        clear ha0 ha1 ha2
        have HSu := Lib.hid (runsTo_succ HL.out h0 h)
        generalize word8 p (n - 1) = sb at *
        generalize word8 p n = sa at *
        generalize runsTo p n = u at *
        by_cases hs : sa = sb
        · have hsb : (sa == sb) = true := by rw [hs]; exact beq_self_eq_true _
          go_upto_region 7 with fail
          go_quiet (fail)
          go_wp2
          go_roundw
          case rel => exact ⟨n + 1, _, by omega, by go_num, by rw [HSu.out, if_pos hs]; rfl, rfl⟩
          case measure => simp [intOf]; omega
        · have hsb : (sa == sb) = false := beq_eq_false_iff_ne.2 hs
          go_upto_region 7 with fail
          go_quiet (fail)
          go_wp2
          go_roundw
          case rel => exact ⟨n + 1, _, by omega, by go_num, by rw [HSu.out, if_neg hs]; go_num, rfl⟩
          case measure => simp [intOf]; omega
    · obtain rfl : n = 512 := by omega
      go_wp2
      go_ret
      exact ⟨rfl, _, rfl⟩
end Go.Proofs.YtckdellcnoojaaaRRR
