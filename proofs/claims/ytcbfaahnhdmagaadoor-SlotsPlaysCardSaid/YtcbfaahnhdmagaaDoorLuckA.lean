/- Contracts of package luck and of slices.Clone over bools: what a call answers, what it turns. No condition but bounds on lengths. -/
import Derived.Test.YtcbfaahnhdmagaaDoorProg
import Derived.Test.YtcbfaahnhdmagaaDoorGy
import Derived.BigQuiet
import Derived.Deep.QuietTactic
namespace Go.Proofs.YtcbfaahnhdmagaaDoor
open Go.RowKit

theorem bool_info : (Tryd.prog.info? 4).map (fun i => (i.zero, i.size, i.bytes)) = some (some (.bool false), 1, 1) := by kernel_rfl

/-- A slice of bools. -/
def RdB (w : World) (B : Nat) (A : Option Addr) (l : List Bool) : Prop := Rd w B A (l.map Value.bool)
theorem RdB.at_ {w : World} {B : Nat} {A : Option Addr} {l : List Bool} (h : RdB w B A l) {k : Nat} (hk : k < l.length) :
    ∃ ad, A = some ad ∧ ad.block < B ∧ w.cell? (ad.add k) = some (.bool (l[k]?.getD false)) := by
  obtain ⟨ad, e, hb, hc⟩ := h k (.bool (l[k]?.getD false)) (by simp [hk])
  exact ⟨ad, e, hb, hc⟩

theorem RdB.below {w w' : World} {B : Nat} {A : Option Addr} {l : List Bool} (h : RdB w B A l) (hb : Below B w w') : RdB w' B A l := Rd.below h hb

theorem oneB (l : List Bool) : ∀ u ∈ l.map Value.bool, u.oneCell' = true := by
  intro u hu
  obtain ⟨b, _, rfl⟩ := List.mem_map.1 hu
  rfl

set_option maxHeartbeats 400000 in
theorem cloneB_none (w : World) (n c : Nat) : Calls Tryd.prog 60 #[.slice none n c] w fun e w' => e = .returned (.slice none 0 0) ∧ w = w' := by
  have hnil := fun (w : World) (a : Option Addr) (n c n' c' : Nat) => Lib.run_eql_slice_nil (P := Tryd.prog) w _ _ a n c n' c' Tryd.underlying35
  go_enter Tryd.func60, Tryd.ntmps60
  go_wp2
  go_ret
  exact ⟨rfl, rfl⟩

set_option maxHeartbeats 400000 in
theorem cloneB_some (w : World) (ad : Addr) (c B : Nat) (l : List Bool) (hr : RdB w B (some ad) l) (hB : B ≤ w.heap.size) (hn : l.length ≤ 140737488351232) :
    Calls Tryd.prog 60 #[.slice (some ad) l.length c] w fun e w' => ∃ v, e = .returned v ∧ w'.ownsRow w.heap.size 4 1 v l.length (l.map Value.bool) ∧ Below w.heap.size w w' := by
  have hnil := fun (w : World) (a : Option Addr) (n c n' c' : Nat) => Lib.run_eql_slice_nil (P := Tryd.prog) w _ _ a n c n' c' Tryd.underlying35
  obtain ⟨i0, hi0, hz0, hz1, hz2⟩ := info_parts bool_info
  have h1 := Lib.hid (oneB l)
  have HR := Lib.hid hr
  clear hr
  go_enter Tryd.func60, Tryd.ntmps60
  have HO := Lib.hid (World.ownsRow_made (base := w.heap.size) (e := 4) (size := 1) w #[] 0 (Nat.le_refl _) (by decide) rfl)
  have HR2 := Lib.hid (HR.out.below' ((Below.refl w.heap.size w).alloc (Nat.le_refl _) (.cells #[] 4)) hB)
  go_wp2_with (at_builtin; refine wpList_append_rd rfl (.tmp 5) (.tmp 6) 35 rfl w.heap.size 4 i0 (.bool false) 1 Tryd.underlying35 hi0 hz0 hz1 hz2 rfl (.slice (some ⟨w.heap.size, 0, none⟩) 0 0) 0 [] rfl HO.out B (some ad) l.length c (l.map Value.bool) rfl (by simp) HR2.out h1.out (by simp [maxLen]; omega) (by simp; omega) (by simp) ?_; intro v1 w1 hown hg hat)
  go_wp2
  go_ret
  exact ⟨v1, rfl, by simpa using hown, ((Below.refl _ _).alloc (Nat.le_refl _) _).grown hg (by simp) (fun k hk => by simp [Value.ownBlock] at hk; omega)⟩

/-- Luck at block g: its choices, how many were asked for, and failed; its blocks lie in S. -/
structure LuckAt (w : World) (S : Nat → Prop) (g : Nat) (l : List Bool) (a f : Nat) : Prop where
  lt : ∀ k, S k → k < w.heap.size
  self : S g
  rep : ∃ v, Bk w g 89 #[v, .int .i64 a, .int .i64 f] ∧ w.ownsRow 0 4 1 v l.length (l.map Value.bool) ∧ ∀ k, v.ownBlock = some k → S k

theorem LuckAt.keep {w w' : World} {S : Nat → Prop} {g : Nat} {l : List Bool} {a f : Nat} (h : LuckAt w S g l a f) (hs : w.heap.size ≤ w'.heap.size) (hk : ∀ k, S k → w'.heap[k]? = w.heap[k]?) : LuckAt w' S g l a f := by
  obtain ⟨v, hb, ho, hv⟩ := h.rep
  exact ⟨fun k hS => Nat.lt_of_lt_of_le (h.lt k hS) hs, h.self, v, hb.same (hk g h.self), owns_same ho (fun k e => hk k (hv k e)), hv⟩
theorem LuckAt.fr {w w' : World} {S R : Nat → Prop} {g : Nat} {l : List Bool} {a f : Nat} (h : LuckAt w S g l a f) (hf : Fr R w w') (hR : ∀ k, S k → ¬ R k) : LuckAt w' S g l a f :=
  h.keep hf.size fun k hk => hf.block k (h.lt k hk) (hR k hk)

/-- How many of the first a choices fail. -/
def failed (l : List Bool) (a : Nat) : Nat := ((l.take a).filter (·)).length

set_option maxHeartbeats 400000 in
theorem fails_hit (w : World) (g : Nat) (ad : Addr) (n c a f : Nat) (ha : a < n) (hn : n ≤ 1000000) (hf : f ≤ 1000000) (T : TypeId)
    (hb : Bk w g T #[.slice (some ad) n c, .int .i64 a, .int .i64 f]) (hc : w.cell? (ad.add a) = some (.bool true)) (hne : ad.block ≠ g) :
    Calls Tryd.prog 57 #[.pointer (some ⟨g, 0, none⟩)] w fun e w' => e = .returned (.bool true) ∧ w' = (w.setCell ⟨g, 1, none⟩ (.int .i64 (a + 1))).setCell ⟨g, 2, none⟩ (.int .i64 (f + 1)) := by
  have h0 := hb.cell 0
  have h1 := hb.cell 1
  have h2 := hb.cell 2
  have f1 := hb.free 1
  have f2 := hb.free 2
  have hne' : (ad.add a).block ≠ g := by rw [block_add]; exact hne
  simp only [List.getElem?_toArray, List.getElem?_cons_zero, List.getElem?_cons_succ] at h0 h1 h2
  have hc1 : (w.setCell ⟨g, 1, none⟩ (.int .i64 (a + 1))).cell? (ad.add a) = some (.bool true) := (World.cell?_setCell_other _ _ _ _ (fun e => hne' (by rw [← e]))).trans hc
  clear hb hc hne hne'
  go_enter Tryd.func57, Tryd.ntmps57
  go_wp2
  go_ret
  exact ⟨rfl, rfl⟩

set_option maxHeartbeats 400000 in
theorem fails_miss (w : World) (g : Nat) (ad : Addr) (n c a f : Nat) (ha : a < n) (hn : n ≤ 1000000) (T : TypeId)
    (hb : Bk w g T #[.slice (some ad) n c, .int .i64 a, .int .i64 f]) (hc : w.cell? (ad.add a) = some (.bool false)) (hne : ad.block ≠ g) :
    Calls Tryd.prog 57 #[.pointer (some ⟨g, 0, none⟩)] w fun e w' => e = .returned (.bool false) ∧ w' = w.setCell ⟨g, 1, none⟩ (.int .i64 (a + 1)) := by
  have h0 := hb.cell 0
  have h1 := hb.cell 1
  have f1 := hb.free 1
  have hne' : (ad.add a).block ≠ g := by rw [block_add]; exact hne
  simp only [List.getElem?_toArray, List.getElem?_cons_zero, List.getElem?_cons_succ] at h0 h1
  have hc1 : (w.setCell ⟨g, 1, none⟩ (.int .i64 (a + 1))).cell? (ad.add a) = some (.bool false) := (World.cell?_setCell_other _ _ _ _ (fun e => hne' (by rw [← e]))).trans hc
  clear hb hc hne hne'
  go_enter Tryd.func57, Tryd.ntmps57
  go_wp2
  go_ret
  exact ⟨rfl, rfl⟩

set_option maxHeartbeats 400000 in
theorem fails_past (w : World) (g : Nat) (A : Option Addr) (n c a f : Nat) (ha : n ≤ a) (hn : a ≤ 1000000) (T : TypeId)
    (hb : Bk w g T #[.slice A n c, .int .i64 a, .int .i64 f]) :
    Calls Tryd.prog 57 #[.pointer (some ⟨g, 0, none⟩)] w fun e w' => e = .returned (.bool false) ∧ w' = w.setCell ⟨g, 1, none⟩ (.int .i64 (a + 1)) := by
  have h0 := hb.cell 0
  have h1 := hb.cell 1
  have f1 := hb.free 1
  simp only [List.getElem?_toArray, List.getElem?_cons_zero, List.getElem?_cons_succ] at h0 h1
  clear hb
  go_enter Tryd.func57, Tryd.ntmps57
  go_wp2
  go_ret
  exact ⟨rfl, rfl⟩

set_option maxHeartbeats 400000 in
theorem fails_nil (w : World) : Calls Tryd.prog 57 #[.pointer none] w fun e w' => e = .returned (.bool false) ∧ w = w' := by
  go_enter Tryd.func57, Tryd.ntmps57
  go_wp2
  go_ret
  exact ⟨rfl, rfl⟩

theorem fails_any {w : World} {S : Nat → Prop} {g : Nat} {l : List Bool} {a f : Nat} (h : LuckAt w S g l a f) (hl : l.length ≤ 1000000) (ha : a ≤ 1000000) (hf : f ≤ 1000000) :
    Calls Tryd.prog 57 #[.pointer (some ⟨g, 0, none⟩)] w fun e w' => e = .returned (.bool (l[a]?.getD false)) ∧
      LuckAt w' S g l (a + 1) (f + if l[a]?.getD false then 1 else 0) ∧ Fr (· = g) w w' := by
  obtain ⟨v, hb, ho, hv⟩ := h.rep
  have hne := owns_ne ho hb (by decide)
  obtain ⟨A, c, rfl⟩ := owns_form ho
  have hlt := h.lt
  have fin : ∀ (q : Nat) (w' : World), Bk w' g 89 #[.slice A l.length c, .int .i64 (a + 1 : Nat), .int .i64 q] → Fr (· = g) w w' → LuckAt w' S g l (a + 1) q ∧ Fr (· = g) w w' := fun q w' hb' hf' =>
    ⟨⟨fun k hS => Nat.lt_of_lt_of_le (h.lt k hS) hf'.size, h.self, _, hb', owns_same ho (fun k e => hf'.block k (h.lt k (hv k e)) (fun e' => hne (by rw [e, e']))), hv⟩, hf'⟩
  have hset : ∀ u, Fr (· = g) w (w.setCell ⟨g, 1, none⟩ u) := fun u => (Fr.refl _ w).set ⟨g, 1, none⟩ u fun _ => rfl
  rcases Nat.lt_or_ge a l.length with hlt | hge
  · have hA : RdB w w.heap.size A l := Rd.of_own ho
    obtain ⟨ad, rfl, _, hc⟩ := hA.at_ hlt
    have hne' : ad.block ≠ g := fun e => hne (by simp [Value.ownBlock, e])
    cases hx : l[a]?.getD false
    · rw [hx] at hc
      refine (fails_miss w g ad l.length c a f hlt hl _ hb hc hne').mono ?_
      rintro e w' ⟨rfl, rfl⟩
      exact ⟨rfl, fin f _ (by simpa using hb.set 1 (.int .i64 (a + 1 : Nat))) (hset _)⟩
    · rw [hx] at hc
      refine (fails_hit w g ad l.length c a f hlt hl hf _ hb hc hne').mono ?_
      rintro e w' ⟨rfl, rfl⟩
      exact ⟨rfl, fin (f + 1) _ (by simpa using (hb.set 1 (.int .i64 (a + 1 : Nat))).set 2 (.int .i64 (f + 1 : Nat))) ((hset _).set ⟨g, 2, none⟩ _ fun _ => rfl)⟩
  · have hx : l[a]?.getD false = false := by simp [hge]
    rw [hx]
    refine (fails_past w g A l.length c a f hge ha _ hb).mono ?_
    rintro e w' ⟨rfl, rfl⟩
    exact ⟨rfl, fin f _ (by simpa using hb.set 1 (.int .i64 (a + 1 : Nat))) (hset _)⟩
end Go.Proofs.YtcbfaahnhdmagaaDoor
