/- Contracts of package disk: what a disk is in memory; New, Many, sector. -/
import Derived.Test.YtcbfaahnhdmagaaDoorSlB
import Derived.Test.YtcbfaahnhdmagaaDoorByt
import Derived.Test.YtcbfaahnhdmagaaDoorGyRow
import Derived.Deep.OwnRows
import Derived.Deep.RegionWith
import Derived.Laws.CopyOwn
import Derived.Handy
import Derived.Deep.DeepCutAuto
import Derived.Deep.RegionHeld3
namespace Go.Proofs.YtcbfaahnhdmagaaDoor
open Go.RowKit

theorem off_z (g k : Nat) : ((⟨g, 0, none⟩ : Addr).add k) = ⟨g, k, none⟩ := by unfold Addr.add; split <;> simp_all
theorem off_p (g o k : Nat) : ((⟨g, o, none⟩ : Addr).add k) = ⟨g, o + k, none⟩ := by unfold Addr.add; split <;> simp_all
/-- A row of bytes, known whole. -/
def RowY (w : World) (g : Nat) (l : List UInt8) : Prop := Bk w g 5 (l.map bv).toArray
theorem RowY.rd {w : World} {g : Nat} {l : List UInt8} (h : RowY w g l) (o : Nat) : RdY w w.heap.size (some ⟨g, o, none⟩) (l.drop o) := by
  intro k u hu
  refine ⟨_, rfl, Bk.lt h, ?_⟩
  rw [off_p, Bk.cell h]
  rw [List.map_drop, List.getElem?_drop] at hu
  simpa using hu
theorem RowY.own {w : World} {g : Nat} {l : List UInt8} (h : RowY w g l) (hl : l.length ≤ maxLen) {base : Nat} (hb : base ≤ g) : OwnY w base (.slice (some ⟨g, 0, none⟩) l.length l.length) l := by
  refine ⟨by simp, .inr ⟨g, l.length, (l.map bv).toArray, rfl, hb, h, Nat.le_refl _, hl, by simp, by rw [Nat.mul_one, ← List.length_map (f := bv), List.take_length]⟩⟩

/-- A disk: its luck, its bytes. -/
structure DiskAt (w : World) (S : Nat → Prop) (gd gl gb : Nat) (l : List Bool) (a f m : Nat) (bs : List UInt8) : Prop where
  luck : LuckAt w S gl l a f
  top : Bk w gd 59 #[.pointer (some ⟨gl, 0, none⟩), .slice (some ⟨gb, 0, none⟩) bs.length bs.length]
  row : RowY w gb bs
  len : bs.length = 512 * m
  le : m ≤ 1024
  sd : ¬ S gd
  sb : ¬ S gb

section
variable {w w' : World} {S : Nat → Prop} {gd gl gb : Nat} {l : List Bool} {a f m : Nat} {bs : List UInt8}
theorem DiskAt.ne (h : DiskAt w S gd gl gb l a f m bs) : gd ≠ gb := Bk.ne h.top h.row (by decide)
theorem DiskAt.fr {R : Nat → Prop} (h : DiskAt w S gd gl gb l a f m bs) (hf : Fr R w w') (hR : ∀ k, S k ∨ k = gd ∨ k = gb → ¬ R k) : DiskAt w' S gd gl gb l a f m bs :=
  ⟨h.luck.fr hf fun k hk => hR k (.inl hk), h.top.fr hf (hR _ (.inr (.inl rfl))), Bk.fr h.row hf (hR _ (.inr (.inr rfl))), h.len, h.le, h.sd, h.sb⟩
theorem DiskAt.drewN (h : DiskAt w S gd gl gb l a f m bs) (n : Nat) : DiskAt (w.drewN n) S gd gl gb l a f m bs := h.fr ((Fr.refl (fun _ => False) w).drewN n) fun _ _ => id
theorem DiskAt.lt (h : DiskAt w S gd gl gb l a f m bs) : ∀ k, S k ∨ k = gd ∨ k = gb → k < w.heap.size := fun k hk => by
  rcases hk with hk | rfl | rfl
  · exact h.luck.lt k hk
  · exact h.top.lt
  · exact Bk.lt h.row
theorem DiskAt.below0 (h : DiskAt w S gd gl gb l a f m bs) (hb : Below w.heap.size w w') : DiskAt w' S gd gl gb l a f m bs := h.fr (Fr.of_below (S := fun k => w.heap.size ≤ k) hb fun _ _ h => h) fun k hk hn => by have := h.lt k hk; omega

set_option maxHeartbeats 1000000 in
theorem dMany_any (h : DiskAt w S gd gl gb l a f m bs) : Calls Tryd.prog 37 #[.pointer (some ⟨gd, 0, none⟩)] w fun e w' => e = .returned (.int .i64 m) ∧ w = w' := by
  have h1 : w.cell? ⟨gd, 1, none⟩ = some (.slice (some ⟨gb, 0, none⟩) bs.length bs.length) := Bk.cell h.top 1
  have hl := h.len
  have hm := h.le
  have hq : ((bs.length : Nat) : Int) / 512 = (m : Int) := by omega
  have hb : ((bs.length : Nat) : Int) ≤ 524288 := by omega
  generalize bs.length = N at *
  clear h hl
  go_enter Tryd.func37, Tryd.ntmps37
  go_wp2
  go_ret
  exact ⟨rfl, rfl⟩
theorem dMany_nil (w : World) : Calls Tryd.prog 37 #[.pointer none] w fun e w' => e = .returned (.int .i64 0) ∧ w = w' := by
  go_enter Tryd.func37, Tryd.ntmps37
  go_wp2
  go_ret
  exact ⟨rfl, rfl⟩
set_option maxHeartbeats 1000000 in
theorem dSector_in (h : DiskAt w S gd gl gb l a f m bs) {n : Nat} (hn : n < m) : Calls Tryd.prog 56 #[.pointer (some ⟨gd, 0, none⟩), .int .i64 n] w fun e w' => e = .returned (.slice (some ⟨gb, n * 512, none⟩) 512 (bs.length - n * 512)) ∧ w = w' := by
  have HM := Lib.hid (dMany_any h)
  have h1 : w.cell? ⟨gd, 1, none⟩ = some (.slice (some ⟨gb, 0, none⟩) bs.length bs.length) := Bk.cell h.top 1
  have hl : (n + 1) * 512 ≤ bs.length := by have := h.len; omega
  have hm := h.le
  have hb : bs.length ≤ 524288 := by have := h.len; omega
  have hli : ((n : Int) + 1) * 512 ≤ (bs.length : Int) := by omega
  generalize bs.length = N at *
  clear h
  go_enter Tryd.func56, Tryd.ntmps56
  go_wp2_with (go_at_call 37; refine HM.out.mono ?_; rintro e w2 ⟨rfl, rfl⟩)
  go_ret
  have e : (n + 1) * 512 - n * 512 = 512 := by omega
  refine ⟨?_, rfl⟩
  show Ending.returned (.slice _ ((n + 1) * 512 - n * 512) _) = _
  rw [e]
set_option maxHeartbeats 1000000 in
theorem dSector_out (h : DiskAt w S gd gl gb l a f m bs) {n : Int} (hn : n < 0 ∨ (0 ≤ n ∧ (m : Int) ≤ n)) : Calls Tryd.prog 56 #[.pointer (some ⟨gd, 0, none⟩), .int .i64 n] w fun e w' => e = .returned (.slice none 0 0) ∧ w = w' := by
  have HM := Lib.hid (dMany_any h)
  clear h
  rcases hn with hn | ⟨hn, hn2⟩
  all_goals
    go_enter Tryd.func56, Tryd.ntmps56
    go_wp2_with (go_at_call 37; refine HM.out.mono ?_; rintro e w2 ⟨rfl, rfl⟩)
    go_ret
    exact ⟨rfl, rfl⟩
theorem dSector_nil (w : World) : Calls Tryd.prog 56 #[.pointer none, .int .i64 0] w fun e w' => e = .returned (.slice none 0 0) ∧ w = w' := by
  go_enter Tryd.func56, Tryd.ntmps56
  go_wp2_with (go_at_call 37; refine (dMany_nil _).mono ?_; rintro e w2 ⟨rfl, rfl⟩)
  go_ret
  exact ⟨rfl, rfl⟩
end
end Go.Proofs.YtcbfaahnhdmagaaDoor
