/- The walks of gunnylaw10.SameOf and SameBack. -/
import Derived.Test.YtckdellcnoojaaaRRRSamM
namespace Go.Proofs.YtckdellcnoojaaaRRR
open Go.RowKit

set_option maxHeartbeats 1000000 in
theorem sameOf_great {w : World} {A A2 : Option Addr} {n c c2 : Nat} {L : List Pc} (hn : n ≤ 9223372036854775807) (h2 : PcsAt w w.heap.size A2 L) (hl : L.length ≤ 9223372036854775807) (hg : 5000 < n ∨ (n ≤ 5000 ∧ greatL L = true)) :
    Calls Try.prog 10 #[.slice A n c, .slice A2 L.length c2] w fun e w' => e = .returned (.bool true) ∧ Below w.heap.size w w' := by
  have HG := Lib.hid (gGreat_any (c := c2) h2 hl)
  clear h2
  rcases hg with h | ⟨h, hgr⟩
  · have hi : (5000 : Int) < (n : Int) := by omega
    go_enter Try.func10, Try.ntmps10
    go_wp2_with (go_at_call 40; refine (sameLives _).mono ?_; rintro e w3 ⟨rfl, hB3⟩)
    go_ret
    exact ⟨rfl, hB3⟩
  · rw [hgr] at HG
    have hi : ¬ (5000 : Int) < (n : Int) := by omega
    clear hgr
    go_enter Try.func10, Try.ntmps10
    go_wp2_with (first
      | (go_at_call 39; refine HG.out.mono ?_; rintro e w3 ⟨rfl, rfl⟩)
      | (go_at_call 40; refine (sameLives _).mono ?_; rintro e w3 ⟨rfl, hB3⟩))
    go_ret
    exact ⟨rfl, hB3⟩

set_option maxRecDepth 100000 in
set_option maxHeartbeats 4000000 in
theorem sameOf_any {w : World} {A A2 : Option Addr} {c c2 : Nat} {b : List UInt8} {L : List Pc} (h : RdY w w.heap.size A b) (hc : b.length ≤ c) (hn : b.length ≤ 5000) (h2 : PcsAt w w.heap.size A2 L) (hgr : greatL L = false) :
    Calls Try.prog 10 #[.slice A b.length c, .slice A2 L.length c2] w fun e w' => e = .returned (.bool true) ∧ Below w.heap.size w w' := by
  obtain ⟨hl, hL⟩ := greatL_no hgr
  have HG := Lib.hid (gGreat_any (c := c2) h2 (by omega))
  have HP := Lib.hid (page_any (c := c2) h2 (Nat.le_refl _) (by omega) hL)
  rw [hgr] at HG
  have HR := Lib.hid h
  have hi : ¬ (5000 : Int) < (b.length : Int) := by omega
  clear h h2 hgr hL
  go_enter Try.func10, Try.ntmps10
  go_wp2_with fail
  refine HG.out.mono ?_
  rintro e w1 ⟨rfl, rfl⟩
  go_wp2_with fail
  refine HP.out.mono ?_
  rintro e w2 ⟨A3, c3, p, rfl, hp, hO, hB⟩
  have HY := Lib.hid hO.rd
  have hcp : 4096 ≤ c3 := by
    obtain ⟨g, -, -, -, h4, -, -, -⟩ := hO.at_ (by omega)
    omega
  have HB := Lib.hid hB
  have HR2 : Hid (RdY w2 w.heap.size A b) := HR.out.below hB
  have e1 : ∀ m, (convert 22 9 (.slice A3 4096 c3)).run Try.prog (w2.drewN m) = .ok (.string ⟨p.toArray⟩) (w2.drewN m) := fun m => by
    have := run_string (c := c3) (HY.out.drewN m)
    rwa [hp] at this
  have e0 : (convert 22 9 (.slice A3 4096 c3)).run Try.prog w2 = .ok (.string ⟨p.toArray⟩) w2 := e1 0
  have S1 : Hid (∀ m, Calls Try.prog 41 #[.slice A b.length c] (w2.drewN m) fun e w' => e = .returned (.tuple #[.int .u64 (wordOf b), .bool (decide (runsW b = 1))]) ∧ (w2.drewN m) = w') := fun m => sOf_any (HR2.out.drewN m)
  have S2 : Hid (∀ m, Calls Try.prog 41 #[.slice A3 4096 c3] (w2.drewN m) fun e w' => e = .returned (.tuple #[.int .u64 (wordOf p), .bool (decide (runsW p = 1))]) ∧ (w2.drewN m) = w') := fun m => by
    have := sOf_any (c := c3) (HY.out.drewN m)
    rwa [hp] at this
  have R1 : Hid (∀ m, Calls Try.prog 42 #[.slice A b.length c] (w2.drewN m) fun e w' => e = .returned (.tuple #[.int .u64 (wordOf b), .bool (decide (runsW b = 1))]) ∧ ∃ n, w' = (w2.drewN m).drewN n) := fun m => rOf_all (HR2.out.drewN m)
  have R2 : Hid (∀ m, Calls Try.prog 42 #[.slice A3 4096 c3] (w2.drewN m) fun e w' => e = .returned (.tuple #[.int .u64 (wordOf p), .bool (decide (runsW p = 1))]) ∧ ∃ n, w' = (w2.drewN m).drewN n) := fun m => by
    have := rOf_all (c := c3) (HY.out.drewN m)
    rwa [hp] at this
  have S3 : Hid (∀ m, Calls Try.prog 43 #[.slice A b.length c] (w2.drewN m) fun e w' => e = .returned (.int .i64 (runsW b)) ∧ (w2.drewN m) = w') := fun m => sRuns_any (HR2.out.drewN m)
  have S4 : Hid (∀ m, Calls Try.prog 43 #[.slice A3 4096 c3] (w2.drewN m) fun e w' => e = .returned (.int .i64 (runsW p)) ∧ (w2.drewN m) = w') := fun m => by
    have := sRuns_any (c := c3) (HY.out.drewN m)
    rwa [hp] at this
  have R3 : Hid (∀ m, Calls Try.prog 44 #[.slice A b.length c] (w2.drewN m) fun e w' => e = .returned (.int .i64 (runsW b)) ∧ ∃ n, w' = (w2.drewN m).drewN n) := fun m => rRuns_any (HR2.out.drewN m) hc
  have R4 : Hid (∀ m, Calls Try.prog 44 #[.slice A3 4096 c3] (w2.drewN m) fun e w' => e = .returned (.int .i64 (runsW p)) ∧ ∃ n, w' = (w2.drewN m).drewN n) := fun m => by
    have := rRuns_any (c := c3) (HY.out.drewN m) (by omega)
    rwa [hp] at this
  have HW : Hid (∀ m, Below w.heap.size w (w2.drewN m)) := fun m => ⟨HB.out.os, HB.out.tape, HB.out.output, HB.out.size, HB.out.block⟩
  have hz := hB.size
  clear hO hB HP HG HR HR2 hp HY
  generalize wordOf b = x1 at *
  generalize wordOf p = x2 at *
  generalize decide (runsW b = 1) = y1 at *
  generalize decide (runsW p = 1) = y2 at *
  generalize runsW b = z1 at *
  generalize runsW p = z2 at *
  go_wp2_with fail
  refine (S1.out 0).mono ?_
  rintro e w4 ⟨rfl, rfl⟩
  go_wp2_with fail
  refine (R1.out 0).mono ?_
  rintro e w4 ⟨rfl, n1, rfl⟩
  simp only [World.drewN_drewN]
  go_wp2_with fail
  refine (S2.out _).mono ?_
  rintro e w4 ⟨rfl, rfl⟩
  go_wp2_with fail
  refine (R2.out _).mono ?_
  rintro e w4 ⟨rfl, n2, rfl⟩
  simp only [World.drewN_drewN]
  go_wp2_with fail
  refine (S3.out _).mono ?_
  rintro e w4 ⟨rfl, rfl⟩
  go_wp2_with fail
  refine (R3.out _).mono ?_
  rintro e w4 ⟨rfl, n3, rfl⟩
  simp only [World.drewN_drewN]
  go_wp2_with fail
  refine (S4.out _).mono ?_
  rintro e w4 ⟨rfl, rfl⟩
  go_wp2_with fail
  refine (R4.out _).mono ?_
  rintro e w4 ⟨rfl, n4, rfl⟩
  simp only [World.drewN_drewN]
  go_wp2_with fail
  refine (sameLives _).mono ?_
  rintro e w5 ⟨rfl, hB5⟩
  go_wp2
  go_ret
  exact ⟨rfl, (HW.out _).trans (hB5.mono hz)⟩
end Go.Proofs.YtckdellcnoojaaaRRR
