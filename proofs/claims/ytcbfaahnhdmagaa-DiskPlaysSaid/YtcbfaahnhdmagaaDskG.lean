/- Words for gunnylaw08.DiskFails and DiskPlays: a slice apart from the disk; six slices in an array. -/
import Derived.Test.YtcbfaahnhdmagaaDskF
namespace Go.Proofs.Ytcbfaahnhdmagaa
open Go.RowKit

/-- Bytes below block B, in no block of X. -/
structure YAt (w : World) (B : Nat) (X : Nat → Prop) (A : Option Addr) (l : List UInt8) : Prop where
  rd : RdY w B A l
  le : B ≤ w.heap.size
  apart : ∀ ad, A = some ad → 0 < l.length → ¬ X ad.block
theorem YAt.fr {w w' : World} {B : Nat} {X R : Nat → Prop} {A : Option Addr} {l : List UInt8} (h : YAt w B X A l) (hf : Fr R w w') (hR : ∀ k, R k → X k ∨ B ≤ k) : YAt w' B X A l := by
  refine ⟨?_, Nat.le_trans h.le hf.size, h.apart⟩
  intro k u hu
  obtain ⟨ad, e, hb, hc⟩ := h.rd k u hu
  have hl : 0 < l.length := by have := (List.getElem?_eq_some_iff.1 hu).1; simp at this; omega
  refine ⟨ad, e, hb, (hf.cell (by rw [block_add]; have := h.le; omega) ?_).trans hc⟩
  rw [block_add]
  intro hr
  rcases hR _ hr with h1 | h1
  · exact h.apart ad e hl h1
  · omega
theorem YAt.more {w : World} {B B' : Nat} {X : Nat → Prop} {A : Option Addr} {l : List UInt8} (h : YAt w B X A l) (hB : B ≤ B') (hl : B' ≤ w.heap.size) : YAt w B' X A l := ⟨h.rd.more hB, hl, h.apart⟩
theorem YAt.own {w : World} {base : Nat} {X : Nat → Prop} {A : Option Addr} {n c : Nat} {l : List UInt8} (h : OwnY w base (.slice A n c) l) (hX : ∀ k, X k → k < base) : YAt w w.heap.size X A l := by
  refine ⟨h.rd, Nat.le_refl _, fun ad e hl hx => ?_⟩
  obtain ⟨g, rfl, hg, _⟩ := h.at_ hl
  injection e with e
  subst e
  have : g < base := hX _ hx
  omega

/-- Six slices of bytes in an array. -/
def slCells (F : Nat → Option Addr × Nat) (k : Nat) : Array Value := ((List.range 6).map fun i => if i < k then Value.slice (F i).1 512 (F i).2 else .slice none 0 0).toArray
structure WasAt (w : World) (B : Nat) (X : Nat → Prop) (gw : Nat) (wl : Nat → List UInt8) (F : Nat → Option Addr × Nat) (k : Nat) : Prop where
  arr : Bk w gw 42 (slCells F k)
  lt : gw < B
  apart : ¬ X gw
  ys : ∀ i, i < k → YAt w B X (F i).1 (wl i) ∧ (wl i).length = 512
  ne : ∀ i, i < k → ∀ ad, (F i).1 = some ad → ad.block ≠ gw
theorem WasAt.fr {w w' : World} {B : Nat} {X R : Nat → Prop} {gw k : Nat} {wl : Nat → List UInt8} {F : Nat → Option Addr × Nat} (h : WasAt w B X gw wl F k) (hf : Fr R w w') (hR : ∀ k, R k → X k ∨ B ≤ k) : WasAt w' B X gw wl F k :=
  ⟨h.arr.fr hf fun hr => by
    rcases hR _ hr with h1 | h1
    · exact h.apart h1
    · have := h.lt; omega, h.lt, h.apart, fun i hi => ⟨(h.ys i hi).1.fr hf hR, (h.ys i hi).2⟩, h.ne⟩
theorem WasAt.more {w : World} {B B' : Nat} {X : Nat → Prop} {gw k : Nat} {wl : Nat → List UInt8} {F : Nat → Option Addr × Nat} (h : WasAt w B X gw wl F k) (hB : B ≤ B') (hl : B' ≤ w.heap.size) : WasAt w B' X gw wl F k :=
  ⟨h.arr, by have := h.lt; omega, h.apart, fun i hi => ⟨(h.ys i hi).1.more hB hl, (h.ys i hi).2⟩, h.ne⟩
theorem slCells_get (F : Nat → Option Addr × Nat) {k i : Nat} (hk : k ≤ 6) (hi : i < k) : (slCells F k)[i]? = some (.slice (F i).1 512 (F i).2) := by
  simp [slCells, show i < 6 by omega, hi]
theorem slCells_nil (F : Nat → Option Addr × Nat) {k i : Nat} (hi : i < 6) (hk : k ≤ i) : (slCells F k)[i]? = some (.slice none 0 0) := by
  simp [slCells, hi, show ¬ i < k by omega]
def updF {α : Type} (F : Nat → α) (k : Nat) (v : α) : Nat → α := fun i => if i = k then v else F i
theorem slCells_next (F : Nat → Option Addr × Nat) {k : Nat} (hk : k < 6) (A : Option Addr) (c : Nat) : (slCells F k).setIfInBounds k (.slice A 512 c) = slCells (updF F k (A, c)) (k + 1) := by
  apply Array.ext'
  simp only [slCells, List.setIfInBounds_toArray]
  apply List.ext_getElem?
  intro i
  rw [List.getElem?_set]
  simp only [List.length_map, List.length_range, List.getElem?_map, updF]
  by_cases hi : i < 6
  · rw [List.getElem?_range hi]
    by_cases h1 : k = i
    · subst h1; simp [hk]
    · rw [if_neg h1]
      simp only [Option.map_some, if_neg (Ne.symm h1)]
      by_cases h2 : i < k
      · simp [h2, show i < k + 1 by omega]
      · simp [h2, show ¬ i < k + 1 by omega]
  · have e : (List.range 6)[i]? = none := by simp; omega
    rw [e]
    by_cases h1 : k = i
    · omega
    · simp [h1]
theorem slCells_upd (F : Nat → Option Addr × Nat) {k : Nat} (hk : k < 6) (A : Option Addr) (c : Nat) : (slCells F 6).setIfInBounds k (.slice A 512 c) = slCells (updF F k (A, c)) 6 := by
  apply Array.ext'
  simp only [slCells, List.setIfInBounds_toArray]
  apply List.ext_getElem?
  intro i
  rw [List.getElem?_set]
  simp only [List.length_map, List.length_range, List.getElem?_map, updF]
  by_cases hi : i < 6
  · rw [List.getElem?_range hi]
    by_cases h1 : k = i
    · subst h1; simp [hk]
    · rw [if_neg h1]
      simp [if_neg (Ne.symm h1), hi]
  · have e : (List.range 6)[i]? = none := by simp; omega
    rw [e]
    by_cases h1 : k = i
    · omega
    · simp [h1]
/-- One more slice laid. -/
theorem WasAt.next {w : World} {B : Nat} {X : Nat → Prop} {gw k : Nat} {wl : Nat → List UInt8} {F : Nat → Option Addr × Nat} (h : WasAt w B X gw wl F k) (hk : k < 6) {A : Option Addr} {c : Nat} {l : List UInt8} (hy : YAt w B X A l) (hl : l.length = 512) (hb : ∀ ad, A = some ad → ad.block ≠ gw) (hw : wl k = l) :
    WasAt (w.setCell ⟨gw, k, none⟩ (.slice A 512 c)) B X gw wl (updF F k (A, c)) (k + 1) := by
  have hs : ∀ {A' : Option Addr} {l' : List UInt8}, YAt w B X A' l' → (∀ ad, A' = some ad → ad.block ≠ gw) → YAt (w.setCell ⟨gw, k, none⟩ (.slice A 512 c)) B X A' l' := fun {A' l'} h1 h2 => by
    refine ⟨?_, by simpa [World.setCell] using h1.le, h1.apart⟩
    intro j u hu
    obtain ⟨ad, e, hb', hc⟩ := h1.rd j u hu
    refine ⟨ad, e, hb', (World.cell?_setCell_other _ _ _ _ (fun e2 => h2 ad e ?_)).trans hc⟩
    rw [← block_add ad j, ← e2]
  refine ⟨?_, h.lt, h.apart, fun i hi => ?_, fun i hi ad e => ?_⟩
  · have := h.arr.set k (.slice A 512 c)
    rwa [slCells_next F hk] at this
  · unfold updF
    by_cases e : i = k
    · subst e
      rw [if_pos rfl, hw]
      exact ⟨hs hy hb, hl⟩
    · rw [if_neg e]
      exact ⟨hs (h.ys i (by omega)).1 (h.ne i (by omega)), (h.ys i (by omega)).2⟩
  · unfold updF at e
    by_cases e2 : i = k
    · subst e2
      rw [if_pos rfl] at e
      exact hb ad e
    · rw [if_neg e2] at e
      exact h.ne i (by omega) ad e
theorem WasAt.put {w : World} {B : Nat} {X : Nat → Prop} {gw k : Nat} {wl : Nat → List UInt8} {F : Nat → Option Addr × Nat} (h : WasAt w B X gw wl F 6) (hk : k < 6) {A : Option Addr} {c : Nat} {l : List UInt8} (hy : YAt w B X A l) (hl : l.length = 512) (hb : ∀ ad, A = some ad → ad.block ≠ gw) :
    WasAt (w.setCell ⟨gw, k, none⟩ (.slice A 512 c)) B X gw (updF wl k l) (updF F k (A, c)) 6 := by
  have hs : ∀ {A' : Option Addr} {l' : List UInt8}, YAt w B X A' l' → (∀ ad, A' = some ad → ad.block ≠ gw) → YAt (w.setCell ⟨gw, k, none⟩ (.slice A 512 c)) B X A' l' := fun {A' l'} h1 h2 => by
    refine ⟨?_, by simpa [World.setCell] using h1.le, h1.apart⟩
    intro j u hu
    obtain ⟨ad, e, hb', hc⟩ := h1.rd j u hu
    refine ⟨ad, e, hb', (World.cell?_setCell_other _ _ _ _ (fun e2 => h2 ad e ?_)).trans hc⟩
    rw [← block_add ad j, ← e2]
  refine ⟨?_, h.lt, h.apart, fun i hi => ?_, fun i hi ad e => ?_⟩
  · have := h.arr.set k (.slice A 512 c)
    rwa [slCells_upd F hk] at this
  · unfold updF
    by_cases e : i = k
    · subst e
      rw [if_pos rfl, if_pos rfl]
      exact ⟨hs hy hb, hl⟩
    · rw [if_neg e, if_neg e]
      exact ⟨hs (h.ys i hi).1 (h.ne i hi), (h.ys i hi).2⟩
  · unfold updF at e
    by_cases e2 : i = k
    · subst e2
      rw [if_pos rfl] at e
      exact hb ad e
    · rw [if_neg e2] at e
      exact h.ne i (by omega) ad e

section
variable {w0 w w' : World} {S : Nat → Prop} {gd gl gb : Nat} {l : List Bool} {a m : Nat} {bs : List UInt8}
/-- What turned lies apart from the disk. -/
theorem DkRun.far {R : Nat → Prop} (h : DkRun w0 w S gd gl gb l a m bs) (hf : Fr R w w') (hR : ∀ k, R k → w0.heap.size ≤ k ∧ ¬ (S k ∨ k = gd ∨ k = gb)) : DkRun w0 w' S gd gl gb l a m bs :=
  ⟨DiskAt.fr h.is_ hf fun k hk hr => (hR k hr).2 hk, h.new, h.below.trans (hf.below h.below.size fun k hk hr => by have := (hR k hr).1; omega)⟩
theorem DkRun.farNew (h : DkRun w0 w S gd gl gb l a m bs) {w1 : World} {R : Nat → Prop} (hb : Below w.heap.size w w1) (hf : Fr R w1 w') (hR : ∀ k, R k → w.heap.size ≤ k) : DkRun w0 w' S gd gl gb l a m bs :=
  (h.below0 hb).far hf fun k hk => ⟨Nat.le_trans h.below.size (hR k hk), fun hx => by have := h.is_.lt k hx; have := hR k hk; omega⟩
/-- Write, of a disk of the call's own. -/
theorem dWrite_run (hR : DkRun w0 w S gd gl gb l a m bs) (hl : l.length ≤ 1000000) (ha : a ≤ 1000000) {A : Option Addr} {B c : Nat} {b : List UInt8} (hA : RdY w B A b) (hB : B ≤ w.heap.size) (hne : ∀ ad, A = some ad → 0 < b.length → ad.block ≠ gl) (n : Int) :
    Calls Try.prog 20 #[.pointer (some ⟨gd, 0, none⟩), .int .i64 n, .slice A b.length c] w fun e w' => e = .returned (.int .i64 (wErr l a m n b.length)) ∧ DkRun w0 w' S gd gl gb l (askW m n b.length a) m (bsW l a m bs n b) ∧ Fr (fun k => k = gl ∨ k = gb) w w' :=
  (dWrite_all hR.is_ hl ha hA hB hne n).mono fun _ _ ⟨h1, h2, h3⟩ => ⟨h1, hR.step h2 h3, h3⟩
/-- .. of bytes that were just filled. -/
theorem dWrite_fill {w1 : World} {x : UInt8} (hR : DkRun w0 w S gd gl gb l a m bs) (hl : l.length ≤ 1000000) (ha : a ≤ 1000000) (hB : Below w.heap.size w w1) (hO : OwnY w1 w.heap.size (.slice (some ⟨w.heap.size, 0, none⟩) 512 512) (List.replicate 512 x)) (n : Int) :
    Calls Try.prog 20 #[.pointer (some ⟨gd, 0, none⟩), .int .i64 n, .slice (some ⟨w.heap.size, 0, none⟩) 512 512] w1 fun e w' => e = .returned (.int .i64 (wErr l a m n 512)) ∧ DkRun w0 w' S gd gl gb l (askW m n 512 a) m (bsW l a m bs n (List.replicate 512 x)) ∧ Fr (fun k => (k = gl ∨ k = gb) ∨ w.heap.size ≤ k) w w' := by
  have hgl := hR.is_.lt gl (.inl hR.is_.self)
  have := dWrite_run (c := 512) (hR.below0 hB) hl ha hO.rd (Nat.le_refl _) (fun ad e _ => by injection e with e; subst e; show ¬ w.heap.size = gl; omega) n
  rw [List.length_replicate] at this
  refine this.mono fun _ _ ⟨h1, h2, h3⟩ => ⟨h1, h2, ?_⟩
  exact (Fr.of_below (S := fun k => (k = gl ∨ k = gb) ∨ w.heap.size ≤ k) hB fun _ _ h => .inr h).trans h3 fun _ _ h => .inl h
end
end Go.Proofs.Ytcbfaahnhdmagaa
