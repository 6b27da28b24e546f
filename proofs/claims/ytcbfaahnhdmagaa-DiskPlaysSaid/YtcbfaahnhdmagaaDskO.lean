/- gunnylaw08.DiskPlays, where nothing is gone through: too many choices or deeds, or no disk of that size. -/
import Derived.Test.YtcbfaahnhdmagaaDskM
namespace Go.Proofs.Ytcbfaahnhdmagaa
open Go.RowKit

set_option maxRecDepth 100000 in
set_option maxHeartbeats 4000000 in
theorem plays_less {w : World} {A A2 : Option Addr} {n c c2 : Nat} {L : List Dd} (m : Int) (h : DdsAt w w.heap.size A2 L) (hl : L.length ≤ 9223372036854775807) (hn : n ≤ 9223372036854775807) (hg : 500 < n ∨ (n ≤ 500 ∧ greatD L = true) ∨ (n ≤ 500 ∧ greatD L = false ∧ (m < 0 ∨ (0 ≤ m ∧ 1024 < m)))) :
    Calls Try.prog 8 #[.int .i64 m, .slice A n c, .slice A2 L.length c2] w fun e w' => e = .returned (.bool true) ∧ Below w.heap.size w w' := by
  have HG : Hid (∀ W, Below w.heap.size w W → Calls Try.prog 17 #[.slice A2 L.length c2] W fun e w' => e = .returned (.bool (greatD L)) ∧ W = w') := fun W hW => dGreat_any (c := c2) (h.below hW) hl
  clear h
  go_enter Try.func8, Try.ntmps8
  go_wp2_with fail
  refine (dRead_nil _).mono ?_
  rintro e w1 ⟨rfl, rfl⟩
  go_wp2_with fail
  refine (filled_any _ 1).mono ?_
  rintro e w1 ⟨rfl, hO1, hB1⟩
  go_wp2_with fail
  refine (dWrite_nil _ _ _ _).mono ?_
  rintro e w2 ⟨rfl, rfl⟩
  go_wp2_with fail
  refine (dMany_nil _).mono ?_
  rintro e w2 ⟨rfl, rfl⟩
  go_wp2_with fail
  refine (dPeek_nil _).mono ?_
  rintro e w2 ⟨rfl, rfl⟩
  have HB1 := Lib.hid hB1
  clear hO1 hB1
  rcases hg with h5 | ⟨h5, hg⟩ | ⟨h5, hg, hm⟩
  · have hi : (500 : Int) < (n : Int) := by omega
    go_wp2_with fail
    refine (diskLives _).mono ?_
    rintro e w3 ⟨rfl, hB3⟩
    go_wp2
    go_ret
    exact ⟨rfl, HB1.out.trans (hB3.mono HB1.out.size)⟩
  · rw [hg] at HG
    clear hg
    go_wp2_with fail
    refine (HG.out _ HB1.out).mono ?_
    rintro e w2 ⟨rfl, rfl⟩
    go_wp2_with fail
    refine (diskLives _).mono ?_
    rintro e w3 ⟨rfl, hB3⟩
    go_wp2
    go_ret
    exact ⟨rfl, HB1.out.trans (hB3.mono HB1.out.size)⟩
  · rw [hg] at HG
    clear hg
    go_wp2_with fail
    refine (HG.out _ HB1.out).mono ?_
    rintro e w2 ⟨rfl, rfl⟩
    have HN := Lib.hid (dNew_bad w1 A n c m hm)
    rcases hm with hm | ⟨hm, hm2⟩
    all_goals
      go_wp2_with fail
      refine HN.out.mono ?_
      rintro e w2 ⟨rfl, rfl⟩
      go_wp2_with fail
      refine (diskLives _).mono ?_
      rintro e w3 ⟨rfl, hB3⟩
      go_wp2
      go_ret
      exact ⟨rfl, HB1.out.trans (hB3.mono HB1.out.size)⟩
end Go.Proofs.Ytcbfaahnhdmagaa
