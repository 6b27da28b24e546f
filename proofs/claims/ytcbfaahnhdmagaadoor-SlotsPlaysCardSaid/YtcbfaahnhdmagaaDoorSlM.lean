/- Slots: gunnylaw09.lives. -/
import Derived.Test.YtcbfaahnhdmagaaDoorSlL
import Derived.Deep.RegionHeld3
namespace Go.Proofs.YtcbfaahnhdmagaaDoor
open Go.RowKit

theorem run_str {w : World} {B n : Nat} {A : Option Addr} {c : Nat} {l : List UInt8} (h : RdY w B A l) (hn : l.length = n) : (convert 22 9 (.slice A n c)).run Tryd.prog w = .ok (.string ⟨l.toArray⟩) w := by
  subst hn
  exact run_string h
theorem below_drew1 (c : World) : Below c.heap.size c (c.drewN 1) := ⟨rfl, rfl, rfl, Nat.le_refl _, fun _ _ => rfl⟩
section
variable {w0 w : World} {S : Nat → Prop} {gs gd gl gb g gw a many : Nat} {l : List Bool} {pg : Nat → List UInt8} {f : Nat → Bool}
/-- Put of a page that was just filled. -/
theorem SlRun.putFill (h : SlRun w0 w S gs gd gl gb g gw l a many pg f) (hT : Tab w0) (hl : l.length ≤ 1000000) (ha : a ≤ 900000) {w1 : World} {x : UInt8} (hO : OwnY w1 w.heap.size (.slice (some ⟨w.heap.size, 0, none⟩) 4096 4096) (pgL x 4096)) (hB : Below w.heap.size w w1) {n : Nat} (hn : n < many) (hf : f n = false) (hlow : ∀ j, j < n → f j = true) :
    Calls Tryd.prog 24 #[.pointer (some ⟨gs, 0, none⟩), .slice (some ⟨w.heap.size, 0, none⟩) 4096 4096] w1 fun e w' =>
      (bad8 l a = true → e = .returned (.tuple #[.int .i64 0, .int .i64 12]) ∧ SlRun w0 w' S gs gd gl gb g gw l (a + cnt8 l a) many pg f) ∧
      (bad8 l a = false → e = .returned (.tuple #[.int .i64 n, .int .i64 0]) ∧ SlRun w0 w' S gs gd gl gb g gw l (a + cnt8 l a) many (updP pg n (pgL x 4096)) (updB f n true)) ∧
      Fr (SlW gl gb g gw) w1 w' :=
  (h.below0 hB).put hT hl ha hO.rd (Nat.le_refl _) (pgL_length _ _) (Nat.le_refl _) (fun ad e hx => by
    injection e with e
    subst e
    have := h.lt _ hx
    exact absurd this (Nat.lt_irrefl _)) hn hf hlow
end
set_option maxRecDepth 100000 in
set_option maxHeartbeats 4000000 in
theorem slLives {w : World} (hT : Tab w) : Calls Tryd.prog 22 #[] w fun e w' => e = .returned (.bool true) ∧ Below w.heap.size w w' := by
  have HT := Lib.hid hT
  clear hT
  have HN := Lib.hid (slNew_run (w := w) (B := 0) (A := none) (c := 0) (l := []) (Rd.nil _ _ _) (Nat.zero_le _) (by simp) 2 (by omega) (fun _ => []))
  go_enter Tryd.func22, Tryd.ntmps22
  go_wp2_with fail
  refine HN.out.mono ?_
  rintro e w1 ⟨S, gs, gd, gl, gb, g, gw, rfl, h1⟩
  have H1 := Lib.hid h1
  clear HN h1
  go_wp2_with fail
  refine (filled9_any _ 1).mono ?_
  rintro e w2 ⟨rfl, hO2, hB2⟩
  have HP := Lib.hid (H1.out.putFill HT.out (by simp) (by omega) hO2 hB2 (n := 0) (by omega) rfl (fun j hj => by omega))
  clear hO2 hB2
  go_wp2_with fail
  refine HP.out.mono ?_
  rintro e w3 ⟨-, hp3, -⟩
  obtain ⟨rfl, h3⟩ := hp3 (bad8_nil _).1
  rw [(bad8_nil _).2] at h3
  have H3 := Lib.hid h3
  clear HP h3 hp3
  go_wp2_with fail
  refine (filled9_any _ 2).mono ?_
  rintro e w4 ⟨rfl, hO4, hB4⟩
  have HP := Lib.hid (H3.out.putFill HT.out (by simp) (by omega) hO4 hB4 (n := 1) (by omega) rfl (fun j hj => by
    obtain rfl : j = 0 := by omega
    rfl))
  clear hO4 hB4
  go_wp2_with fail
  refine HP.out.mono ?_
  rintro e w5 ⟨-, hp5, -⟩
  obtain ⟨rfl, h5⟩ := hp5 (bad8_nil _).1
  rw [(bad8_nil _).2] at h5
  have H5 := Lib.hid h5
  clear HP h5 hp5
  go_wp2_with fail
  refine (filled9_any _ 3).mono ?_
  rintro e w6 ⟨rfl, hO6, hB6⟩
  have H6 := Lib.hid (H5.out.below0 hB6)
  clear hO6 hB6
  go_wp2_with fail
  refine (H6.out.putFull (cntB_full fun k hk => by
    rcases (show k = 0 ∨ k = 1 by omega) with rfl | rfl <;> rfl) _ _).mono ?_
  rintro e w7 ⟨rfl, rfl⟩
  have HG := Lib.hid (H6.out.page (by simp) (by omega) (n := 1) (by omega) rfl)
  go_wp2_with fail
  refine HG.out.mono ?_
  rintro e w7 ⟨-, hp7, h7, -⟩
  obtain ⟨-, A7, c7, rfl, hO7⟩ := hp7 (bad8_nil _).1
  have HO7 : Hid (OwnY w7 w6.heap.size (.slice A7 4096 c7) (pgL 2 4096)) := hO7
  have HB7 := Lib.hid h7.below
  clear hO7 h7 hp7 HG
  have HL : Hid ((pgL 2 4096).length = 4096) := pgL_length _ _
  have HFl : Hid (∀ W, Calls Tryd.prog 25 #[.int .u8 2] W fun e w' => e = .returned (.slice (some ⟨W.heap.size, 0, none⟩) 4096 4096) ∧ OwnY w' W.heap.size (.slice (some ⟨W.heap.size, 0, none⟩) 4096 4096) (pgL 2 4096) ∧ Below W.heap.size W w') := fun W => filled9_any W 2
  generalize pgL 2 4096 = p2 at *
  have HS : Hid (∀ W, Below w7.heap.size w7 W → (convert 22 9 (.slice A7 4096 c7)).run Tryd.prog W = .ok (.string ⟨p2.toArray⟩) W) := fun W hW => run_str (HO7.out.below hW).rd HL.out
  go_upto_region 8 with fail
  go_region_held (fun W => (convert 22 9 (.slice A7 4096 c7)).run Tryd.prog W = .ok (.string ⟨p2.toArray⟩) W) (first | exact HS.out _ (Below.refl _ _) | exact HS.out _ (below_drew1 _) | exact HS.out _ ((below_drew1 _).trans (hB8.mono (Nat.le_refl _)))) ((go_at_call 25; refine (HFl.out _).mono ?_; rintro x w8 ⟨rfl, hO8, hB8⟩; have hcv : (convert 22 9 (.slice (some ⟨w7.heap.size, 0, none⟩) 4096 4096)).run Tryd.prog w8 = .ok (.string ⟨p2.toArray⟩) w8 := run_str (c := 4096) hO8.rd HL.out))
  all_goals
    go_wp2
    go_ret
    exact ⟨rfl, HB7.out.trans ((below_drew1 _).trans (hB8.mono (Nat.le_refl _)) |>.mono HB7.out.size)⟩
end Go.Proofs.YtcbfaahnhdmagaaDoor
