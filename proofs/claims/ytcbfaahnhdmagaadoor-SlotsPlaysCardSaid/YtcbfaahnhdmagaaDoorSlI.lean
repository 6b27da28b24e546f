/- Slots: Put. -/
import Derived.Test.YtcbfaahnhdmagaaDoorSlH
namespace Go.Proofs.YtcbfaahnhdmagaaDoor
open Go.RowKit

/-- A sector of a page. -/
def secP (p : List UInt8) (i : Nat) : List UInt8 := (p.drop (i * 512)).take 512
theorem secP_len {p : List UInt8} (h : p.length = 4096) {i : Nat} (hi : i < 8) : (secP p i).length = 512 := by
  unfold secP
  simp
  omega
/-- The bytes with the first k sectors of a page written at a slot. -/
def wrP (bs : List UInt8) (n : Nat) (p : List UInt8) : Nat → List UInt8
  | 0 => bs
  | k + 1 => putS (wrP bs n p k) (n * 8 + k) (secP p k)
theorem wrP_len {bs p : List UInt8} {m n : Nat} (h : bs.length = 512 * (m * 8)) (hn : n < m) (hp : p.length = 4096) {k : Nat} (hk : k ≤ 8) : (wrP bs n p k).length = 512 * (m * 8) := by
  induction k with
  | zero => exact h
  | succ k ih => exact putS_len (ih (by omega)) (by omega) (secP_len hp (by omega))
/-- How many of eight accesses are asked for, and whether one fails. -/
def ask8 (l : List Bool) (a : Nat) : Nat → Option Nat
  | 0 => none
  | k + 1 => match ask8 l a k with
    | some j => some j
    | none => if l[a + k]?.getD false then some k else none

section
variable {w w' : World} {S : Nat → Prop} {gs gd gl gb g gw a many : Nat} {l : List Bool} {bs : List UInt8} {f : Nat → Bool}
/-- What a Put may touch. -/
def SlW (gl gb g gw : Nat) : Nat → Prop := fun k => k = gl ∨ k = gb ∨ k = g ∨ k = gw
theorem SlAt.write {a' : Nat} {bs' : List UInt8} (h : SlAt w S gs gd gl gb g gw l a many bs f) (hD : DiskIs w' S gd gl gb l a' (many * 8) bs') (hF : Fr (fun k => k = gl ∨ k = gb) w w') : SlAt w' S gs gd gl gb g gw l a' many bs' f := by
  have hS := DiskAt.self h.disk
  obtain ⟨n1, n2, n3, n4, n5⟩ := h.ns
  obtain ⟨m1, m2, m3, m4, m5, m6⟩ := h.ng
  have h1 : ¬ (gs = gl ∨ gs = gb) := fun hh => hh.elim (fun e => n1 (e ▸ hS)) n3
  have h2 : ¬ (g = gl ∨ g = gb) := fun hh => hh.elim (fun e => m1 (e ▸ hS)) m4
  have h3 : ¬ (gw = gl ∨ gw = gb) := fun hh => hh.elim (fun e => m2 (e ▸ hS)) m6
  exact ⟨h.top.fr hF h1, hD, h.set.fr hF h2 h3, h.ns, h.ng⟩
theorem secP_rd {B : Nat} {A : Option Addr} {p : List UInt8} {ad : Addr} (hA : RdY w B A p) (he : A = some ad) (i : Nat) : RdY w B (some (ad.add (i * 512))) (secP p i) := by
  subst he
  intro k u hu
  unfold secP at hu
  rw [List.map_take, List.getElem?_take, List.map_drop, List.getElem?_drop] at hu
  split at hu
  · obtain ⟨ad', e, hb, hc⟩ := hA (i * 512 + k) u hu
    injection e with e
    subst e
    refine ⟨_, rfl, by rw [block_add]; exact hb, ?_⟩
    rw [add_add']
    exact hc
  · cases hu
end
end Go.Proofs.YtcbfaahnhdmagaaDoor
