/- Slots: what they are in memory; New. -/
import Derived.Test.YtcbfaahnhdmagaaDoorSlF
import Derived.Test.YtcbfaahnhdmagaaDoorBtsB
namespace Go.Proofs.YtcbfaahnhdmagaaDoor
open Go.RowKit

/-- Slots: a disk of 8 sectors a slot, and which are in use. -/
structure SlAt (w : World) (S : Nat → Prop) (gs gd gl gb g gw : Nat) (l : List Bool) (a many : Nat) (bs : List UInt8) (f : Nat → Bool) : Prop where
  top : Bk w gs 56 #[.pointer (some ⟨gd, 0, none⟩), .pointer (some ⟨g, 0, none⟩)]
  disk : DiskIs w S gd gl gb l a (many * 8) bs
  set : SetIs w g gw f many
  ns : ¬ S gs ∧ gs ≠ gd ∧ gs ≠ gb ∧ gs ≠ g ∧ gs ≠ gw
  ng : ¬ S g ∧ ¬ S gw ∧ g ≠ gd ∧ g ≠ gb ∧ gw ≠ gd ∧ gw ≠ gb
/-- Their blocks. -/
def SlB (S : Nat → Prop) (gs gd gb g gw : Nat) : Nat → Prop := fun k => S k ∨ k = gd ∨ k = gb ∨ k = gs ∨ k = g ∨ k = gw

set_option maxRecDepth 100000 in
set_option maxHeartbeats 2000000 in
theorem slNew {w : World} {B : Nat} {A : Option Addr} {c : Nat} {l : List Bool} (hA : RdB w B A l) (hB : B ≤ w.heap.size) (hl : l.length ≤ 140737488351232) (many : Nat) (hm : many ≤ 128) :
    Calls Tryd.prog 23 #[.int .i64 many, .slice A l.length c] w fun e w' => ∃ S gs gd gl gb g gw, e = .returned (.tuple #[.pointer (some ⟨gs, 0, none⟩), .int .i64 0]) ∧ SlAt w' S gs gd gl gb g gw l 0 many (List.replicate (512 * (many * 8)) 0) (fun _ => false) ∧ (∀ k, SlB S gs gd gb g gw k → w.heap.size ≤ k) ∧ Below w.heap.size w w' := by
  have HD := Lib.hid (dNew_any (c := c) hA hB hl (many * 8) (by omega))
  have HN : Hid (∀ W : World, Calls Tryd.prog 10 #[.int .i64 many] W fun e w' => ∃ g gw, e = .returned (.pointer (some ⟨g, 0, none⟩)) ∧ SetIs w' g gw (fun _ => false) many ∧ Below W.heap.size W w' ∧ W.heap.size ≤ g ∧ W.heap.size ≤ gw) := fun W => by
    have := isNew W (many : Int)
    rwa [show newSize (many : Int) = many by unfold newSize; omega] at this
  have hmi : (many : Int) ≤ 128 := by omega
  have hm0 : ¬ (128 : Int) < many := by omega
  have hm8 : ((many * 8 : Nat) : Int) = (many : Int) * 8 := by omega
  rw [hm8] at HD
  clear hA hm8
  go_enter Tryd.func23, Tryd.ntmps23
  go_wp2_with (first
    | (go_at_call 44; refine HD.out.mono ?_; rintro x w1 ⟨S, gd, gl, gb, rfl, hD, hS, hB1⟩)
    | (go_at_call 10; refine (HN.out _).mono ?_; rintro x w2 ⟨g, gw, rfl, hS2, hB2, b1, b2⟩))
  go_ret2
  have hlt := hD.lt
  have hD2 := hD.below0 hB2
  have hz1 := hB1.size
  have hz2 := hB2.size
  have hlt2 := hS2.lt
  have hSl : ∀ k, S k → k < w1.heap.size := fun k hk => hlt k (.inl hk)
  have hdl := hlt gd (.inr (.inl rfl))
  have hbl := hlt gb (.inr (.inr rfl))
  have hd0 := hS gd (.inr (.inl rfl))
  have hb0 := hS gb (.inr (.inr rfl))
  have hF : Fr (fun _ => False) w2 (w2.alloc (.cells #[.pointer (some ⟨gd, 0, none⟩), .pointer (some ⟨g, 0, none⟩)] 56)) := (Fr.refl _ w2).alloc _
  have hBB : Below w.heap.size w w2 := hB1.trans (hB2.mono hz1)
  refine ⟨S, w2.heap.size, gd, gl, gb, g, gw, rfl, ⟨Bk.new _ _ _, ?_, hS2.fr hF id id, ⟨fun h => ?_, by omega, by omega, by omega, by omega⟩, ⟨fun h => ?_, fun h => ?_, by omega, by omega, by omega, by omega⟩⟩, ?_, hF.below hBB.size (fun _ _ => id) |> hBB.trans⟩
  · exact hD2.fr hF fun _ _ => id
  · have := hSl _ h; omega
  · have := hSl _ h; omega
  · have := hSl _ h; omega
  · intro k hk
    rcases hk with hk | rfl | rfl | rfl | rfl | rfl
    · exact hS k (.inl hk)
    · exact hd0
    · exact hb0
    · omega
    · omega
    · omega
end Go.Proofs.YtcbfaahnhdmagaaDoor
