/- Read, Write, Peek of any number, by what a disk is. -/
import Derived.Test.YtcbfaahnhdmagaaDoorSlD
namespace Go.Proofs.YtcbfaahnhdmagaaDoor
open Go.RowKit

def inD (m : Nat) (n : Int) : Bool := decide (0 ≤ n) && decide (n < m)
theorem inD_yes {m : Nat} {n : Int} (h : inD m n = true) : ∃ k : Nat, n = k ∧ k < m := by
  simp only [inD, Bool.and_eq_true, decide_eq_true_eq] at h
  exact ⟨n.toNat, by omega, by omega⟩
theorem inD_no {m : Nat} {n : Int} (h : inD m n = false) : n < 0 ∨ (0 ≤ n ∧ (m : Int) ≤ n) := by
  simp only [inD, Bool.and_eq_false_iff, decide_eq_false_iff_not] at h
  omega
def rErr (l : List Bool) (a m : Nat) (n : Int) : Nat := if inD m n then (if l[a]?.getD false then 12 else 0) else 2
def wErr (l : List Bool) (a m : Nat) (n : Int) (k : Nat) : Nat := if inD m n then (if k = 512 then (if l[a]?.getD false then 12 else 0) else 1) else 2
def askR (m : Nat) (n : Int) (a : Nat) : Nat := if inD m n then a + 1 else a
def askW (m : Nat) (n : Int) (k a : Nat) : Nat := if inD m n then (if k = 512 then a + 1 else a) else a
def pkL (m : Nat) (bs : List UInt8) (n : Int) : List UInt8 := if inD m n then sec bs n.toNat else []
def rdL (l : List Bool) (a m : Nat) (bs : List UInt8) (n : Int) : List UInt8 := if rErr l a m n = 0 then sec bs n.toNat else []
def bsW (l : List Bool) (a m : Nat) (bs : List UInt8) (n : Int) (b : List UInt8) : List UInt8 := if wErr l a m n b.length = 0 then putS bs n.toNat b else bs
/-- A disk whose luck failed as its choices say. -/
def DiskIs (w : World) (S : Nat → Prop) (gd gl gb : Nat) (l : List Bool) (a m : Nat) (bs : List UInt8) : Prop := DiskAt w S gd gl gb l a (failed l a) m bs

section
variable {w w' : World} {S : Nat → Prop} {gd gl gb : Nat} {l : List Bool} {a m : Nat} {bs : List UInt8}
theorem DiskIs.hit (h : DiskAt w S gd gl gb l (a + 1) (failed l a + 1) m bs) (hx : l[a]?.getD false = true) : DiskIs w S gd gl gb l (a + 1) m bs := by
  unfold DiskIs
  rw [failed_succ, hx]
  exact h
theorem DiskIs.miss (h : DiskAt w S gd gl gb l (a + 1) (failed l a) m bs) (hx : l[a]?.getD false = false) : DiskIs w S gd gl gb l (a + 1) m bs := by
  unfold DiskIs
  rw [failed_succ, hx]
  exact h
theorem dPeek_all (h : DiskIs w S gd gl gb l a m bs) (n : Int) : Calls Tryd.prog 48 #[.pointer (some ⟨gd, 0, none⟩), .int .i64 n] w fun e w' => ∃ A' c', e = .returned (.slice A' (pkL m bs n).length c') ∧ OwnY w' w.heap.size (.slice A' (pkL m bs n).length c') (pkL m bs n) ∧ Below w.heap.size w w' := by
  cases hi : inD m n
  · rw [show pkL m bs n = [] by unfold pkL; rw [hi]; rfl]
    refine (dPeek_out h (inD_no hi)).mono ?_
    rintro e w' ⟨rfl, rfl⟩
    exact ⟨none, 0, rfl, OwnY.nil _ _, Below.refl _ _⟩
  · obtain ⟨k, rfl, hk⟩ := inD_yes hi
    have e1 : pkL m bs (k : Int) = sec bs k := by unfold pkL; rw [hi]; rfl
    rw [e1, sec_len h.len hk]
    exact dPeek_in h hk
theorem dRead_all (h : DiskIs w S gd gl gb l a m bs) (hl : l.length ≤ 1000000) (ha : a ≤ 1000000) (n : Int) : Calls Tryd.prog 47 #[.pointer (some ⟨gd, 0, none⟩), .int .i64 n] w fun e w' => ∃ A' c', e = .returned (.tuple #[.slice A' (rdL l a m bs n).length c', .int .i64 (rErr l a m n)]) ∧ OwnY w' w.heap.size (.slice A' (rdL l a m bs n).length c') (rdL l a m bs n) ∧ DiskIs w' S gd gl gb l (askR m n a) m bs ∧ Fr (· = gl) w w' := by
  have hf := failed_le l a
  cases hi : inD m n
  · have e1 : rErr l a m n = 2 := by unfold rErr; rw [hi]; rfl
    rw [show rdL l a m bs n = [] by unfold rdL; rw [e1]; rfl, e1, show askR m n a = a by unfold askR; rw [hi]; rfl]
    refine (dRead_out h (inD_no hi)).mono ?_
    rintro e w' ⟨rfl, rfl⟩
    exact ⟨none, 0, rfl, OwnY.nil _ _, h, Fr.refl _ _⟩
  · obtain ⟨k, rfl, hk⟩ := inD_yes hi
    rw [show askR m (k : Int) a = a + 1 by unfold askR; rw [hi]; rfl]
    cases hx : l[a]?.getD false
    · have e1 : rErr l a m (k : Int) = 0 := by unfold rErr; rw [hi, hx]; rfl
      have e2 : rdL l a m bs (k : Int) = sec bs k := by unfold rdL; rw [e1]; rfl
      rw [e1, e2, sec_len h.len hk]
      refine (dRead_ok h hl ha (by omega) hk hx).mono ?_
      rintro e w' ⟨A', c', rfl, h1, h2, h3⟩
      exact ⟨A', c', rfl, h1, DiskIs.miss h2 hx, h3⟩
    · have e1 : rErr l a m (k : Int) = 12 := by unfold rErr; rw [hi, hx]; rfl
      rw [show rdL l a m bs (k : Int) = [] by unfold rdL; rw [e1]; rfl, e1]
      refine (dRead_fail h hl ha (by omega) hk hx).mono ?_
      rintro e w' ⟨rfl, h1, h2⟩
      exact ⟨none, 0, rfl, OwnY.nil _ _, DiskIs.hit h1 hx, h2⟩
theorem dWrite_all (h : DiskIs w S gd gl gb l a m bs) (hl : l.length ≤ 1000000) (ha : a ≤ 1000000) {A : Option Addr} {B c : Nat} {b : List UInt8} (hA : RdY w B A b) (hB : B ≤ w.heap.size) (hne : ∀ ad, A = some ad → 0 < b.length → ad.block ≠ gl) (n : Int) :
    Calls Tryd.prog 46 #[.pointer (some ⟨gd, 0, none⟩), .int .i64 n, .slice A b.length c] w fun e w' => e = .returned (.int .i64 (wErr l a m n b.length)) ∧ DiskIs w' S gd gl gb l (askW m n b.length a) m (bsW l a m bs n b) ∧ Fr (fun k => k = gl ∨ k = gb) w w' := by
  have hf := failed_le l a
  cases hi : inD m n
  · have e1 : wErr l a m n b.length = 2 := by unfold wErr; rw [hi]; rfl
    rw [e1, show bsW l a m bs n b = bs by unfold bsW; rw [e1]; rfl, show askW m n b.length a = a by unfold askW; rw [hi]; rfl]
    refine (dWrite_out h (inD_no hi)).mono ?_
    rintro e w' ⟨rfl, rfl⟩
    exact ⟨rfl, h, Fr.refl _ _⟩
  · obtain ⟨k, rfl, hk⟩ := inD_yes hi
    by_cases hb : b.length = 512
    · have ea : askW m (k : Int) b.length a = a + 1 := by unfold askW; rw [hi, if_pos hb]; rfl
      cases hx : l[a]?.getD false
      · have e1 : wErr l a m (k : Int) b.length = 0 := by unfold wErr; rw [hi, hx, if_pos hb]; rfl
        have e2 : bsW l a m bs (k : Int) b = putS bs k b := by unfold bsW; rw [e1]; rfl
        rw [ea, e1, e2, hb]
        refine (dWrite_ok h hl ha (by omega) hA hB hb (fun ad e => hne ad e (by omega)) hk hx).mono ?_
        rintro e w' ⟨rfl, h1, h2⟩
        exact ⟨rfl, DiskIs.miss h1 hx, h2⟩
      · have e1 : wErr l a m (k : Int) b.length = 12 := by unfold wErr; rw [hi, hx, if_pos hb]; rfl
        rw [ea, e1, show bsW l a m bs (k : Int) b = bs by unfold bsW; rw [e1]; rfl, hb]
        refine (dWrite_fail h hl ha (by omega) hk hx).mono ?_
        rintro e w' ⟨rfl, h1, h2⟩
        exact ⟨rfl, DiskIs.hit h1 hx, h2.mono fun _ _ h => .inl h⟩
    · have e1 : wErr l a m (k : Int) b.length = 1 := by unfold wErr; rw [hi, if_neg hb]; rfl
      rw [e1, show bsW l a m bs (k : Int) b = bs by unfold bsW; rw [e1]; rfl, show askW m (k : Int) b.length a = a by unfold askW; rw [hi, if_neg hb]; rfl]
      refine (dWrite_len h hk hb).mono ?_
      rintro e w' ⟨rfl, rfl⟩
      exact ⟨rfl, h, Fr.refl _ _⟩
end
end Go.Proofs.YtcbfaahnhdmagaaDoor
