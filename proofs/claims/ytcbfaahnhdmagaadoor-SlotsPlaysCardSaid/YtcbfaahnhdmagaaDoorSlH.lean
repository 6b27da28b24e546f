/- Slots: set, In, Used, Slots, Drop; of slots that aren't there too. -/
import Derived.Test.YtcbfaahnhdmagaaDoorSlG
namespace Go.Proofs.YtcbfaahnhdmagaaDoor
open Go.RowKit

section
variable {w w' : World} {S : Nat → Prop} {gs gd gl gb g gw a many : Nat} {l : List Bool} {bs : List UInt8} {f : Nat → Bool}
theorem SlAt.lt (h : SlAt w S gs gd gl gb g gw l a many bs f) : ∀ k, SlB S gs gd gb g gw k → k < w.heap.size := fun k hk => by
  have hd := DiskAt.lt h.disk
  rcases hk with hk | rfl | rfl | rfl | rfl | rfl
  · exact hd k (.inl hk)
  · exact hd _ (.inr (.inl rfl))
  · exact hd _ (.inr (.inr rfl))
  · exact h.top.lt
  · exact h.set.lt.1
  · exact h.set.lt.2
theorem SlAt.fr {R : Nat → Prop} (h : SlAt w S gs gd gl gb g gw l a many bs f) (hf : Fr R w w') (hR : ∀ k, SlB S gs gd gb g gw k → ¬ R k) : SlAt w' S gs gd gl gb g gw l a many bs f :=
  ⟨h.top.fr hf (hR _ (.inr (.inr (.inr (.inl rfl))))), DiskAt.fr h.disk hf (fun k hk => hR k (by rcases hk with h | h | h <;> simp [SlB, h])), h.set.fr hf (hR _ (.inr (.inr (.inr (.inr (.inl rfl)))))) (hR _ (.inr (.inr (.inr (.inr (.inr rfl)))))), h.ns, h.ng⟩
theorem SlAt.below0 (h : SlAt w S gs gd gl gb g gw l a many bs f) (hb : Below w.heap.size w w') : SlAt w' S gs gd gl gb g gw l a many bs f :=
  h.fr (Fr.of_below (S := fun k => w.heap.size ≤ k) hb fun _ _ h => h) fun k hk hn => by have := h.lt k hk; omega
theorem SlAt.drewN (h : SlAt w S gs gd gl gb g gw l a many bs f) (n : Nat) : SlAt (w.drewN n) S gs gd gl gb g gw l a many bs f := h.fr ((Fr.refl (fun _ => False) w).drewN n) fun _ _ => id

theorem slSet (h : SlAt w S gs gd gl gb g gw l a many bs f) : Calls Tryd.prog 45 #[.pointer (some ⟨gs, 0, none⟩)] w fun e w' => e = .returned (.pointer (some ⟨g, 0, none⟩)) ∧ w = w' := by
  have h1 : w.cell? ⟨gs, 1, none⟩ = some (.pointer (some ⟨g, 0, none⟩)) := h.top.cell 1
  clear h
  go_enter Tryd.func45, Tryd.ntmps45
  go_wp2
  go_ret
  exact ⟨rfl, rfl⟩
theorem slIn (h : SlAt w S gs gd gl gb g gw l a many bs f) (n : Int) : Calls Tryd.prog 32 #[.pointer (some ⟨gs, 0, none⟩), .int .i64 n] w fun e w' => e = .returned (.bool (mayB many n && f n.toNat)) ∧ w = w' := by
  have H1 := Lib.hid (slSet h)
  have H2 := Lib.hid (isHas h.set n)
  clear h
  generalize (mayB many n && f n.toNat) = b at *
  go_enter Tryd.func32, Tryd.ntmps32
  go_wp2_with (first
    | (go_at_call 45; refine H1.out.mono ?_; rintro x w2 ⟨rfl, rfl⟩)
    | (go_at_call 13; refine H2.out.mono ?_; rintro x w2 ⟨rfl, rfl⟩))
  go_ret
  exact ⟨rfl, rfl⟩
theorem slUsed (h : SlAt w S gs gd gl gb g gw l a many bs f) : Calls Tryd.prog 29 #[.pointer (some ⟨gs, 0, none⟩)] w fun e w' => e = .returned (.int .i64 (cntB f many)) ∧ w = w' := by
  have H1 := Lib.hid (slSet h)
  have H2 := Lib.hid (isLen h.set)
  clear h
  go_enter Tryd.func29, Tryd.ntmps29
  go_wp2_with (first
    | (go_at_call 45; refine H1.out.mono ?_; rintro x w2 ⟨rfl, rfl⟩)
    | (go_at_call 15; refine H2.out.mono ?_; rintro x w2 ⟨rfl, rfl⟩))
  go_ret
  exact ⟨rfl, rfl⟩
theorem slSlots (h : SlAt w S gs gd gl gb g gw l a many bs f) : Calls Tryd.prog 33 #[.pointer (some ⟨gs, 0, none⟩)] w fun e w' => e = .returned (.int .i64 many) ∧ w = w' := by
  have H1 := Lib.hid (slSet h)
  have H2 := Lib.hid (isSize h.set)
  clear h
  go_enter Tryd.func33, Tryd.ntmps33
  go_wp2_with (first
    | (go_at_call 45; refine H1.out.mono ?_; rintro x w2 ⟨rfl, rfl⟩)
    | (go_at_call 17; refine H2.out.mono ?_; rintro x w2 ⟨rfl, rfl⟩))
  go_ret
  exact ⟨rfl, rfl⟩
end
theorem nSet (w : World) : Calls Tryd.prog 45 #[.pointer none] w fun e w' => e = .returned (.pointer none) ∧ w = w' := by
  go_enter Tryd.func45, Tryd.ntmps45
  go_wp2
  go_ret
  exact ⟨rfl, rfl⟩
end Go.Proofs.YtcbfaahnhdmagaaDoor
