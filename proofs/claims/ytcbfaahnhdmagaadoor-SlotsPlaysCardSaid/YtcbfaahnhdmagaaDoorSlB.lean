/- Contracts of package luck, second part, and of its reference. -/
import Derived.Test.YtcbfaahnhdmagaaDoorLuckA
namespace Go.Proofs.YtcbfaahnhdmagaaDoor
open Go.RowKit

set_option maxHeartbeats 400000 in
theorem asked_any {w : World} {S : Nat → Prop} {g : Nat} {l : List Bool} {a f : Nat} (h : LuckAt w S g l a f) :
    Calls Tryd.prog 35 #[.pointer (some ⟨g, 0, none⟩)] w fun e w' => e = .returned (.int .i64 a) ∧ w = w' := by
  obtain ⟨v, hb, _, _⟩ := h.rep
  have h1 := hb.cell 1
  simp only [List.getElem?_toArray, List.getElem?_cons_zero, List.getElem?_cons_succ] at h1
  clear hb h
  go_enter Tryd.func35, Tryd.ntmps35
  go_wp2
  go_ret
  exact ⟨rfl, rfl⟩

set_option maxHeartbeats 400000 in
theorem failed_any {w : World} {S : Nat → Prop} {g : Nat} {l : List Bool} {a f : Nat} (h : LuckAt w S g l a f) :
    Calls Tryd.prog 27 #[.pointer (some ⟨g, 0, none⟩)] w fun e w' => e = .returned (.int .i64 f) ∧ w = w' := by
  obtain ⟨v, hb, _, _⟩ := h.rep
  have h1 := hb.cell 2
  simp only [List.getElem?_toArray, List.getElem?_cons_zero, List.getElem?_cons_succ] at h1
  clear hb h
  go_enter Tryd.func27, Tryd.ntmps27
  go_wp2
  go_ret
  exact ⟨rfl, rfl⟩

theorem asked_nil (w : World) : Calls Tryd.prog 35 #[.pointer none] w fun e w' => e = .returned (.int .i64 0) ∧ w = w' := by
  go_enter Tryd.func35, Tryd.ntmps35
  go_wp2
  go_ret
  exact ⟨rfl, rfl⟩
theorem failed_nil (w : World) : Calls Tryd.prog 27 #[.pointer none] w fun e w' => e = .returned (.int .i64 0) ∧ w = w' := by
  go_enter Tryd.func27, Tryd.ntmps27
  go_wp2
  go_ret
  exact ⟨rfl, rfl⟩
theorem LuckAt.drewN {w : World} {S : Nat → Prop} {g : Nat} {l : List Bool} {a f : Nat} (h : LuckAt w S g l a f) (n : Nat) : LuckAt (w.drewN n) S g l a f := h.keep (Nat.le_refl _) fun _ _ => rfl

set_option maxHeartbeats 400000 in
/-- luck.New: a new block, and one for the choices. -/
theorem luckNew_any {w : World} {B : Nat} {A : Option Addr} {c : Nat} {l : List Bool} (hA : RdB w B A l) (hB : B ≤ w.heap.size) (hl : l.length ≤ 140737488351232) :
    Calls Tryd.prog 55 #[.slice A l.length c] w fun e w' => ∃ g, e = .returned (.pointer (some ⟨g, 0, none⟩)) ∧ LuckAt w' (fun k => w.heap.size ≤ k ∧ k < w'.heap.size) g l 0 0 ∧ Below w.heap.size w w' := by
  rcases A with _ | ad
  · have h0 : l = [] := by
      rcases l with _ | ⟨b, r⟩
      · rfl
      · obtain ⟨ad, e, _⟩ := hA.at_ (k := 0) (by simp)
        cases e
    subst h0
    go_enter Tryd.func55, Tryd.ntmps55
    go_wp2_with (go_at_call 60; refine (cloneB_none _ _ _).mono ?_; rintro e w' ⟨rfl, rfl⟩)
    go_ret
    refine ⟨w.heap.size, rfl, ⟨fun k hk => hk.2, by simp, .slice none 0 0, ?_, ?_, ?_⟩, (Below.refl _ _).alloc (Nat.le_refl _) _⟩
    · exact Bk.new _ _ _
    · exact World.ownsRow_nil _ _ _ _
    · simp [Value.ownBlock]
  · go_enter Tryd.func55, Tryd.ntmps55
    go_wp2_with (go_at_call 60; refine (cloneB_some _ ad c B l hA hB hl).mono ?_; rintro e w1 ⟨v, rfl, ho, hb⟩; obtain ⟨A1, c1, rfl⟩ := owns_form ho)
    go_ret
    have hz : w.heap.size ≤ w1.heap.size := hb.size
    refine ⟨w1.heap.size, rfl, ⟨fun k hk => hk.2, ⟨hz, by simp⟩, .slice A1 l.length c1, Bk.new _ _ _, owns_weaken (ho.alloc _) (Nat.zero_le _), ?_⟩, hb.alloc hz _⟩
    intro k hk
    have := World.ownsRow.lt ho k hk
    exact ⟨this.1, by simp; omega⟩

set_option maxHeartbeats 400000 in
theorem refFails_any {w : World} {B : Nat} {A : Option Addr} {c : Nat} {l : List Bool} (hA : RdB w B A l) (a : Nat) :
    Calls Tryd.prog 61 #[.slice A l.length c, .int .i64 a] w fun e w' => e = .returned (.bool (l[a]?.getD false)) ∧ w = w' := by
  rcases Nat.lt_or_ge a l.length with hlt | hge
  · obtain ⟨ad, rfl, _, hc⟩ := hA.at_ hlt
    generalize l[a]?.getD false = b at *
    clear hA
    go_enter Tryd.func61, Tryd.ntmps61
    go_wp2
    go_ret
    exact ⟨rfl, rfl⟩
  · rw [show l[a]?.getD false = false from by simp [hge]]
    clear hA
    go_enter Tryd.func61, Tryd.ntmps61
    go_wp2
    go_ret
    exact ⟨rfl, rfl⟩

theorem failed_succ (l : List Bool) (k : Nat) : failed l (k + 1) = failed l k + if l[k]?.getD false then 1 else 0 := by
  unfold failed
  rcases Nat.lt_or_ge k l.length with hlt | hge
  · rw [List.take_succ_eq_append_getElem hlt, List.filter_append, List.length_append]
    simp [hlt]
    cases l[k] <;> rfl
  · rw [List.take_of_length_le (by omega), List.take_of_length_le (by omega)]
    simp [hge]
theorem failed_le (l : List Bool) (k : Nat) : failed l k ≤ k := by
  unfold failed
  exact Nat.le_trans (List.length_filter_le _ _) (List.length_take_le _ _)

end Go.Proofs.YtcbfaahnhdmagaaDoor
