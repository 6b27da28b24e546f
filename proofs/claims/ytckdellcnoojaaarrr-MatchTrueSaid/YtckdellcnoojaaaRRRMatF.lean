/- The walk of gunnylaw12.MatchFinds. -/
import Derived.Test.YtckdellcnoojaaaRRRMatE
namespace Go.Proofs.YtckdellcnoojaaaRRR
open Go.RowKit

set_option maxRecDepth 100000 in
set_option maxHeartbeats 2000000 in
theorem mfinds_any {w : World} {A A2 : Option Addr} {c c2 : Nat} {b0 : List UInt8} {ps : List Int} (h : RdY w w.heap.size A b0) (hc : b0.length ≤ c) (hl : b0.length ≤ 5000) (hP : RdI w w.heap.size A2 ps) (hl2 : ps.length ≤ 20) :
    Calls Try.prog 4 #[.slice A b0.length c, .slice A2 ps.length c2] w fun e w' => e = .returned (.bool true) ∧ Below w.heap.size w w' := by
  have HN := Lib.hid (fNew_any h (Nat.le_refl _) hc (by omega))
  have HC := Lib.hid (fun W => cut_any (w := W) (A := A) hc (by omega : b0.length ≤ 100000))
  have HR := Lib.hid (h.take 4096)
  have HP := Lib.hid hP
  have hlt : (b0.take 4096).length ≤ 100000 := by rw [List.length_take]; omega
  clear h hP
  generalize b0.take 4096 = b at *
  go_enter Try.func4, Try.ntmps4
  go_wp2_with (first
    | (go_at_call 23; refine HN.out.mono ?_; rintro e w1 ⟨g, gl, v, rfl, hF, hB1⟩)
    | (go_at_call 24; refine (HC.out _).mono ?_; rintro e w3 ⟨rfl, rfl⟩))
  refine (fLen_any hF).mono ?_
  rintro e w2 ⟨rfl, rfl⟩
  go_wp2_with fail
  refine (fLen_nil _).mono ?_
  rintro e w2 ⟨rfl, rfl⟩
  go_wp2_with (go_at_call 26; refine (fWith_nil _).mono ?_; rintro x w7 ⟨rfl, rfl⟩)
  go_loopw [8] (fun i wr => ∃ k m : Nat, k ≤ ps.length ∧ i = .int .i64 k ∧ wr = w1.drewN m) (fun i _ => ps.length - (intOf i).toNat)
  case atStart => exact ⟨0, 0, Nat.zero_le _, rfl, rfl⟩
  case round =>
    obtain ⟨k, m, hk, rfl, rfl⟩ := hrel
    rcases Nat.lt_or_ge k ps.length with hlt2 | hge
    · obtain ⟨ad, rfl, hab, hcc⟩ := (HP.out.below hB1).at_ hlt2
      have hcc2 : w1.cell? (ad.add k) = some (.int .i64 (ps[k]?.getD 0)) := hcc
      generalize ps[k]?.getD 0 = z at *
      clear hcc
      go_wp2_with fail
      refine (fFind_any (hF.drewN m) z).mono ?_
      rintro e w2 ⟨rfl, n1, rfl⟩
      go_wp2_with fail
      refine (refFind_any (c := c) ((HR.out.below hB1).drewN _) hlt z).mono ?_
      rintro e w2 ⟨rfl, n2, rfl⟩
      generalize (findI b z).1 = r1 at *
      generalize (findI b z).2.1 = r2 at *
      go_wp2_with fail
      refine (fFind_nil _ z).mono ?_
      rintro e w2 ⟨rfl, rfl⟩
      go_wp2
      go_roundw
      case rel => exact ⟨k + 1, _, by omega, by go_num, rfl⟩
      case measure => simp [intOf]; omega
    · obtain rfl : k = ps.length := by omega
      go_wp2_with (go_at_call 22; refine (matLives _).mono ?_; rintro x w7 ⟨rfl, hB7⟩)
      go_ret
      have hB2 := below_drewN hB1 m
      exact ⟨rfl, hB2.trans (hB7.mono hB2.size)⟩
end Go.Proofs.YtckdellcnoojaaaRRR
