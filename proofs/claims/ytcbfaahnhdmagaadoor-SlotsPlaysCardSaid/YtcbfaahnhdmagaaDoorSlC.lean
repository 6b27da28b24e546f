/- Contracts of package disk: New, Read, Write, Peek. -/
import Derived.Test.YtcbfaahnhdmagaaDoorSlA
namespace Go.Proofs.YtcbfaahnhdmagaaDoor
open Go.RowKit

theorem u8_made (n : Nat) : madeCells #[Value.int .u8 0] n = ((List.replicate n (0 : UInt8)).map bv).toArray := by
  apply Array.ext'
  rw [List.map_replicate]
  refine List.eq_replicate_iff.2 ⟨by simp [madeCells], ?_⟩
  intro b hb
  simp [madeCells] at hb
  obtain ⟨a, _, rfl⟩ := hb
  simp [bv, Nat.mod_one]
set_option maxHeartbeats 1000000 in
theorem dNew_bad (w : World) (A : Option Addr) (n c : Nat) (k : Int) (hk : k < 0 ∨ (0 ≤ k ∧ 1024 < k)) :
    Calls Tryd.prog 44 #[.int .i64 k, .slice A n c] w fun e w' => e = .returned (.tuple #[.pointer none, .int .i64 1]) ∧ w = w' := by
  rcases hk with hk | ⟨hk, hk2⟩
  all_goals
    go_enter Tryd.func44, Tryd.ntmps44
    go_wp2
    go_ret2
    exact ⟨rfl, rfl⟩
set_option maxRecDepth 100000 in
set_option maxHeartbeats 2000000 in
theorem dNew_any {w : World} {B : Nat} {A : Option Addr} {c : Nat} {l : List Bool} (hA : RdB w B A l) (hB : B ≤ w.heap.size) (hl : l.length ≤ 140737488351232) (m : Nat) (hm : m ≤ 1024) :
    Calls Tryd.prog 44 #[.int .i64 m, .slice A l.length c] w fun e w' => ∃ S gd gl gb, e = .returned (.tuple #[.pointer (some ⟨gd, 0, none⟩), .int .i64 0]) ∧ DiskAt w' S gd gl gb l 0 0 m (List.replicate (512 * m) 0) ∧ (∀ k, S k ∨ k = gd ∨ k = gb → w.heap.size ≤ k) ∧ Below w.heap.size w w' := by
  have HAA : Hid (∀ W, Below w.heap.size w W → Calls Tryd.prog 55 #[.slice A l.length c] W fun e w' => ∃ g, e = .returned (.pointer (some ⟨g, 0, none⟩)) ∧ LuckAt w' (fun k => W.heap.size ≤ k ∧ k < w'.heap.size) g l 0 0 ∧ Below W.heap.size W w') := fun W hW => luckNew_any (hA.below (hW.mono hB)) (Nat.le_trans hB hW.size) hl
  obtain ⟨N, hN⟩ : ∃ N, N = 512 * m := ⟨_, rfl⟩
  have hNi : (m : Int) * 512 = (N : Int) := by omega
  have hN2 : N ≤ 524288 := by omega
  have hmk := Go.run_make_row' (P := Tryd.prog) 22 5 (.int .u8 0) 1 Tryd.underlying22 u8_info rfl .i64 .i64 N (by omega) (by omega)
  have hwN : IntKind.i64.wrap (N : Int) = (N : Int) := IntWalk.i64_in _ (by omega)
  have HN := Lib.hid hN
  have HM := Lib.hid (u8_made N)
  have hmi : (m : Int) ≤ 1024 := by omega
  generalize madeCells #[Value.int .u8 0] N = cs at *
  clear hA hN
  go_enter Tryd.func44, Tryd.ntmps44
  go_upto_region 3 with fail
  have HB0 : Hid (Below w.heap.size w (w.alloc (.cells cs 5)).drew) := ⟨rfl, rfl, rfl, by simp [World.drew], fun k hk => Below.heap_alloc w _ k hk⟩
  have HB00 : Hid (Below w.heap.size w w.drew) := ⟨rfl, rfl, rfl, Nat.le_refl _, fun _ _ => rfl⟩
  go_region_with (first
    | (go_at_call 55; refine (HAA.out _ HB0.out).mono ?_; rintro e w1 ⟨gl, rfl, hL, hB1⟩)
    | (go_at_call 55; refine (HAA.out _ HB00.out).mono ?_; rintro e w1 ⟨gl, rfl, hL, hB1⟩))
  · clear hmk hNi hwN HAA HB0 HB00
    go_wp2
    go_ret2
    have hz : w.heap.size ≤ w1.heap.size := hB1.size
    have hB2 : Below w.heap.size w w1 := ⟨hB1.os, hB1.tape, hB1.output, hB1.size, hB1.block⟩
    refine ⟨_, w1.heap.size + 1, gl, w1.heap.size, rfl, ⟨hL.fr (R := fun _ => False) (((Fr.refl _ w1).alloc _).alloc _) (fun _ _ => id), ?_, ?_, by simp, hm, ?_, ?_⟩, ?_, (hB2.alloc hz _).alloc (by simp; omega) _⟩
    · have h1 := Bk.new_at (w1.alloc (.cells cs 5)) 59 #[.pointer (some ⟨gl, 0, none⟩), .slice (some ⟨w1.heap.size, 0, none⟩) N N] (n := w1.heap.size + 1) (by simp)
      rw [List.length_replicate, ← HN.out]
      exact h1
    · show Bk _ _ _ _
      rw [← HN.out, ← HM.out]
      exact (Bk.new w1 5 cs).alloc _
    · rintro ⟨_, h2⟩; omega
    · rintro ⟨_, h2⟩; omega
    · rintro k (⟨h1, _⟩ | rfl | rfl)
      · exact h1
      · omega
      · exact hz
  · clear hmk hNi hwN HAA HB00
    go_wp2
    go_ret2
    have hz : w.heap.size + 1 ≤ w1.heap.size := by have := hB1.size; simp [World.drew] at this; exact this
    have hr : Bk w1 w.heap.size 5 cs := ((Bk.new w 5 cs).drew).below' hB1
    have hB2 : Below w.heap.size w w1 := HB0.out.trans (hB1.mono (by simp [World.drew]))
    refine ⟨_, w1.heap.size, gl, w.heap.size, rfl, ⟨hL.fr (R := fun _ => False) ((Fr.refl _ w1).alloc _) (fun _ _ => id), ?_, ?_, by simp, hm, ?_, ?_⟩, ?_, hB2.alloc (by omega) _⟩
    · have h1 := Bk.new w1 59 #[.pointer (some ⟨gl, 0, none⟩), .slice (some ⟨w.heap.size, 0, none⟩) N N]
      rw [List.length_replicate, ← HN.out]
      exact h1
    · show Bk _ _ _ _
      rw [← HN.out, ← HM.out]
      exact hr.alloc _
    · rintro ⟨_, h2⟩; omega
    · rintro ⟨h1, h2⟩; simp [World.drew] at h1; omega
    · rintro k (⟨h1, _⟩ | rfl | rfl)
      · simp [World.drew] at h1; omega
      · omega
      · exact Nat.le_refl _
end Go.Proofs.YtcbfaahnhdmagaaDoor
