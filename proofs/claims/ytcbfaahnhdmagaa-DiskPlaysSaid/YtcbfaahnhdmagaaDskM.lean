/- The walk of gunnylaw08.DiskPlays: what its loop holds. -/
import Derived.Test.YtcbfaahnhdmagaaDskL
import Derived.Test.YtcbfaahnhdmagaaDskH
import Derived.Deep.CutBlock
namespace Go.Proofs.Ytcbfaahnhdmagaa
open Go.RowKit

theorem sec_zero (m k : Nat) (h : k < m) : sec (List.replicate (512 * m) 0) k = List.replicate 512 0 := by
  unfold sec
  rw [List.drop_replicate, List.take_replicate]
  congr 1
  omega
/-- A block of another type turns. -/
theorem RefL.apart {w w' : World} {base g : Nat} {v : Value} {rs : List Wr} {cs : Array Value} (h : RefL w base v rs) (hb : Bk w g 52 cs) (hF : Fr (· = g) w w') : RefL w' base v rs :=
  ⟨owns_same h.row fun k hk => hF.block k (World.ownsRow.lt h.row k hk).2 (fun e => owns_ne h.row hb (by decide) (e ▸ hk)), fun r hr => ⟨owns_same (h.ys r hr).1 fun k hk => hF.block k (World.ownsRow.lt (h.ys r hr).1 k hk).2 (fun e => owns_ne (h.ys r hr).1 hb (by decide) (e ▸ hk)), (h.ys r hr).2⟩⟩
/-- The program's disk, the reference's in a variable, and what was written. -/
structure PlRun (w0 w : World) (S : Nat → Prop) (gd gl gb gx base : Nat) (A : Option Addr) (c : Nat) (l : List Bool) (a m : Nat) (bs : List UInt8) (AL : Option Addr) (cL : Nat) (rs : List Wr) : Prop where
  dk : DkRun w0 w S gd gl gb l a m bs
  var : Bk w gx 52 #[.int .i64 m, .slice A l.length c, .int .i64 a, .slice AL rs.length cL]
  ref : RefL w base (.slice AL rs.length cL) rs
  sec : SecIs m rs bs
  gx0 : w0.heap.size ≤ gx
  gxX : ¬ DkX S gd gb gx
  lo : ∀ k, DkX S gd gb k ∨ k = gx → k < base
  hi : base ≤ w.heap.size
section
variable {w0 w w' : World} {S : Nat → Prop} {gd gl gb gx base : Nat} {A : Option Addr} {c : Nat} {l : List Bool} {a m : Nat} {bs : List UInt8} {AL : Option Addr} {cL : Nat} {rs : List Wr}
theorem PlRun.below0 (h : PlRun w0 w S gd gl gb gx base A c l a m bs AL cL rs) (hb : Below w.heap.size w w') : PlRun w0 w' S gd gl gb gx base A c l a m bs AL cL rs :=
  ⟨h.dk.below0 hb, h.var.below' hb, h.ref.below hb, h.sec, h.gx0, h.gxX, h.lo, Nat.le_trans h.hi hb.size⟩
theorem PlRun.drewN (h : PlRun w0 w S gd gl gb gx base A c l a m bs AL cL rs) (n : Nat) : PlRun w0 (w.drewN n) S gd gl gb gx base A c l a m bs AL cL rs :=
  ⟨h.dk.drewN n, h.var, h.ref.fr ((Fr.refl (fun _ => False) w).drewN n) (fun _ _ _ => id), h.sec, h.gx0, h.gxX, h.lo, h.hi⟩
theorem PlRun.start {A : Option Addr} {c : Nat} (h : DkRun w0 w S gd gl gb l 0 m (List.replicate (512 * m) 0)) :
    PlRun w0 (w.alloc (.cells #[.int .i64 m, .slice A l.length c, .int .i64 (0 : Nat), .slice none 0 0] 52)) S gd gl gb w.heap.size (w.heap.size + 1) A c l 0 m (List.replicate (512 * m) 0) none 0 [] := by
  refine ⟨h.below0 ((Below.refl _ _).alloc (Nat.le_refl _) _), Bk.new _ _ _, RefL.nil _ _, fun k hk => (sec_zero m k hk).symm, h.below.size, fun hx => by have := h.is_.lt _ hx; omega, fun k hk => ?_, by simp⟩
  rcases hk with hk | rfl
  · have := h.is_.lt k hk; omega
  · omega
/-- The variable is set anew, behind a call of both disks. -/
theorem PlRun.next {w1 w2 : World} {a' : Nat} {bs' : List UInt8} {AL' : Option Addr} {cL' : Nat} {rs' : List Wr} (h : PlRun w0 w S gd gl gb gx base A c l a m bs AL cL rs) (h1 : Below w.heap.size w w1) (hR : RefL w1 base (.slice AL' rs'.length cL') rs') (hD : DkRun w0 w2 S gd gl gb l a' m bs') (hF : Fr (fun k => k = gl ∨ k = gb) w1 w2) (hs : SecIs m rs' bs') :
    PlRun w0 ((((w2.setCell ⟨gx, 0, none⟩ (.int .i64 m)).setCell ⟨gx, 1, none⟩ (.slice A l.length c)).setCell ⟨gx, 2, none⟩ (.int .i64 a')).setCell ⟨gx, 3, none⟩ (.slice AL' rs'.length cL')) S gd gl gb gx base A c l a' m bs' AL' cL' rs' := by
  have hgl : gl < base := h.lo gl (.inl (.inl h.dk.is_.self))
  have hgb : gb < base := h.lo gb (.inl (.inr (.inr rfl)))
  have hgx : gx < base := h.lo gx (.inr rfl)
  have hnl : gx ≠ gl := fun e => h.gxX (e ▸ .inl h.dk.is_.self)
  have hnb : gx ≠ gb := fun e => h.gxX (e ▸ .inr (.inr rfl))
  have hv : Bk w2 gx 52 #[.int .i64 m, .slice A l.length c, .int .i64 a, .slice AL rs.length cL] := (h.var.below' h1).fr hF fun e => e.elim hnl hnb
  refine ⟨hD.far (fr_set4 w2 gx _ _ _ _) (fun k hk => by subst hk; exact ⟨h.gx0, h.gxX⟩), hv.set4 _ _ _ _, (hR.fr hF (fun k h1 _ h3 => by omega)).fr (fr_set4 w2 gx _ _ _ _) (fun k h1 _ h3 => by omega), hs, h.gx0, h.gxX, h.lo, ?_⟩
  have e : ((((w2.setCell ⟨gx, 0, none⟩ (.int .i64 m)).setCell ⟨gx, 1, none⟩ (.slice A l.length c)).setCell ⟨gx, 2, none⟩ (.int .i64 a')).setCell ⟨gx, 3, none⟩ (.slice AL' rs'.length cL')).heap.size = w2.heap.size := by simp [World.setCell]
  rw [e]
  exact Nat.le_trans h.hi (Nat.le_trans h1.size hF.size)
theorem PlRun.next2 {w1 w2 : World} {a' : Nat} {bs' : List UInt8} {AL' : Option Addr} {cL' : Nat} {rs' : List Wr} (h : PlRun w0 w S gd gl gb gx base A c l a m bs AL cL rs) (h1 : Below w.heap.size w w1) (hR : RefL w1 base (.slice AL' rs'.length cL') rs') (hD : DkRun w0 w2 S gd gl gb l a' m bs')
    (hF : Fr (fun k => k = gl ∨ k = gb) ((((w1.setCell ⟨gx, 0, none⟩ (.int .i64 m)).setCell ⟨gx, 1, none⟩ (.slice A l.length c)).setCell ⟨gx, 2, none⟩ (.int .i64 a')).setCell ⟨gx, 3, none⟩ (.slice AL' rs'.length cL')) w2) (hs : SecIs m rs' bs') :
    PlRun w0 w2 S gd gl gb gx base A c l a' m bs' AL' cL' rs' := by
  have hgl : gl < base := h.lo gl (.inl (.inl h.dk.is_.self))
  have hgb : gb < base := h.lo gb (.inl (.inr (.inr rfl)))
  have hgx : gx < base := h.lo gx (.inr rfl)
  have hnl : gx ≠ gl := fun e => h.gxX (e ▸ .inl h.dk.is_.self)
  have hnb : gx ≠ gb := fun e => h.gxX (e ▸ .inr (.inr rfl))
  have hs1 := hF.size
  have e : ((((w1.setCell ⟨gx, 0, none⟩ (.int .i64 m)).setCell ⟨gx, 1, none⟩ (.slice A l.length c)).setCell ⟨gx, 2, none⟩ (.int .i64 a')).setCell ⟨gx, 3, none⟩ (.slice AL' rs'.length cL')).heap.size = w1.heap.size := by simp [World.setCell]
  rw [e] at hs1
  exact ⟨hD, ((h.var.below' h1).set4 _ _ _ _).fr hF fun e => e.elim hnl hnb, (hR.fr (fr_set4 w1 gx _ _ _ _) (fun k h1 _ h3 => by omega)).fr hF (fun k h1 _ h3 => by omega), hs, h.gx0, h.gxX, h.lo, Nat.le_trans h.hi (Nat.le_trans h1.size hs1)⟩
theorem PlRun.setX (h : PlRun w0 w S gd gl gb gx base A c l a m bs AL cL rs) {w1 : World} (h1 : Below w.heap.size w w1) (v0 v1 v2 v3 : Value) : DkRun w0 ((((w1.setCell ⟨gx, 0, none⟩ v0).setCell ⟨gx, 1, none⟩ v1).setCell ⟨gx, 2, none⟩ v2).setCell ⟨gx, 3, none⟩ v3) S gd gl gb l a m bs :=
  (h.dk.below0 h1).far (fr_set4 w1 gx _ _ _ _) (fun k hk => by subst hk; exact ⟨h.gx0, h.gxX⟩)
end
end Go.Proofs.Ytcbfaahnhdmagaa
