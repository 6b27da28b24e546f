/- Numbers that aren't there; Take, on both sides, whatever is next. -/
import Derived.Test.YteifdbfaclpcdaaREntF
import Derived.Test.YteifdbfaclpcdaaREntB
namespace Go.Proofs.YteifdbfaclpcdaaR
open Go.RowKit

theorem zNext (w : World) : Calls Try.prog 32 #[.pointer none] w fun x w' => x = .returned (.tuple #[.int .i64 0, .bool false]) ∧ w = w' := by
  go_enter Try.func32, Try.ntmps32
  go_wp2
  go_ret2
  exact ⟨rfl, rfl⟩
theorem zTake (w : World) : Calls Try.prog 33 #[.pointer none] w fun x w' => x = .returned (.tuple #[.int .i64 0, .int .i64 11]) ∧ w = w' := by
  go_enter Try.func33, Try.ntmps33
  go_wp2_with (go_at_call 32; refine (zNext _).mono ?_; rintro x w2 ⟨rfl, rfl⟩)
  go_ret2
  exact ⟨rfl, rfl⟩
theorem zIn (w : World) (k : Int) : Calls Try.prog 34 #[.pointer none, .int .i64 k] w fun x w' => x = .returned (.bool false) ∧ w = w' := by
  go_enter Try.func34, Try.ntmps34
  go_wp2
  go_ret
  exact ⟨rfl, rfl⟩
theorem zLen (w : World) : Calls Try.prog 36 #[.pointer none] w fun x w' => x = .returned (.int .i64 0) ∧ w = w' := by
  go_enter Try.func36, Try.ntmps36
  go_wp2
  go_ret
  exact ⟨rfl, rfl⟩
set_option maxHeartbeats 1000000 in
theorem zDrop {w : World} {B c : Nat} {A : Option Addr} {z : Int} (hA : RdI w B A [z]) : Calls Try.prog 35 #[.pointer none, .slice A 1 c] w fun x w' => x = .returned (.int .i64 0) ∧ w = w' := by
  obtain ⟨ad, rfl, _, hc⟩ := hA.at_ (k := 0) (by simp)
  have hc0 : w.cell? (ad.add 0) = some (.int .i64 z) := hc
  have ea : ad.add 0 = ad := by
    cases ad
    unfold Addr.add
    split <;> simp_all
  have hc1 : w.cell? ad = some (.int .i64 z) := by
    rw [ea] at hc
    simpa using hc
  clear ea
  clear hc hA
  go_enter Try.func35, Try.ntmps35
  go_wp2
  go_loop [5, 7, 10] (fun m _ j => ∃ k : Nat, k ≤ 1 ∧ j = .int .i64 k ∧ m = .int .i64 0) (fun _ _ j => 1 - (intOf j).toNat)
  case atStart => exact ⟨0, Nat.zero_le _, rfl, rfl⟩
  case round =>
    obtain ⟨k, hk, rfl, rfl⟩ := hrel
    rcases (show k = 0 ∨ k = 1 by omega) with rfl | rfl
    · go_wp2_with (go_at_call 34; refine (zIn _ _).mono ?_; rintro x w2 ⟨rfl, rfl⟩)
      exact ⟨⟨1, by omega, by go_num, rfl⟩, by simp [intOf]⟩
    · go_wp2
      go_ret
      exact ⟨rfl, rfl⟩

/-- What is in use behind a Take, and what was told last. -/
def tkF (f : Nat → Bool) (last : Nat) : Nat → Bool := match nextOf f last with | 0 => f | k + 1 => updB f k true
def tkL (f : Nat → Bool) (last : Nat) : Nat := match nextOf f last with | 0 => last | k + 1 => k + 1
def tkE (n : Nat) : Int := if 0 < n then 0 else 11
theorem tk_none {f : Nat → Bool} {last : Nat} (h : nextOf f last = 0) : tkF f last = f ∧ tkL f last = last := by
  unfold tkF tkL
  rw [h]
  exact ⟨rfl, rfl⟩
theorem tk_some {f : Nat → Bool} {last k : Nat} (h : nextOf f last = k + 1) : tkF f last = updB f k true ∧ tkL f last = k + 1 := by
  unfold tkF tkL
  rw [h]
  exact ⟨rfl, rfl⟩
set_option maxRecDepth 100000 in
theorem eTake_all {w : World} {e g gw last : Nat} {f : Nat → Bool} (h : EntAt w e g gw f last) :
    Calls Try.prog 33 #[.pointer (some ⟨e, 0, none⟩)] w fun x w' => x = .returned (.tuple #[.int .i64 (nextOf f last), .int .i64 (tkE (nextOf f last))]) ∧ EntAt w' e g gw (tkF f last) (tkL f last) ∧ Fr (fun b => b = e ∨ b = g ∨ b = gw) w w' := by
  rcases hn : nextOf f last with _ | k
  · rw [(tk_none hn).1, (tk_none hn).2]
    refine (eTake_none h hn).mono ?_
    rintro x w' ⟨rfl, rfl⟩
    exact ⟨rfl, h, Fr.refl _ _⟩
  · rw [(tk_some hn).1, (tk_some hn).2]
    refine (eTake_some h hn).mono ?_
    rintro x w' ⟨rfl, h1, h2⟩
    exact ⟨by rw [tkE, if_pos (by omega)]; rfl, h1, h2⟩
set_option maxRecDepth 100000 in
theorem refTake_all (w : World) (f : Nat → Bool) (last : Nat) (hl : last ≤ 512) :
    Calls Try.prog 39 #[.agg (refCells (refOf f) last)] w fun x w' => x = .returned (.tuple #[.agg (refCells (refOf (tkF f last)) (tkL f last)), .int .i64 (nextOf f last)]) ∧ Below w.heap.size w w' := by
  rcases hn : nextOf f last with _ | k
  · rw [(tk_none hn).1, (tk_none hn).2]
    refine (refTake_none w f last hl hn).mono ?_
    rintro x w' ⟨rfl, h2⟩
    exact ⟨rfl, h2⟩
  · rw [(tk_some hn).1, (tk_some hn).2]
    refine (refTake_some w f last k hl hn).mono ?_
    rintro x w' ⟨rfl, h2⟩
    exact ⟨rfl, h2⟩

/-- Numbers and the reference's, both the law's own. -/
structure EpRun (w0 w : World) (e g gw z : Nat) (f : Nat → Bool) (last : Nat) : Prop where
  ent : EntAt w e g gw f last
  bk : Bk w z 62 (refCells (refOf f) last)
  ne : z ≠ e ∧ z ≠ g ∧ z ≠ gw
  b : w0.heap.size ≤ e ∧ w0.heap.size ≤ g ∧ w0.heap.size ≤ gw ∧ w0.heap.size ≤ z
  below : Below w0.heap.size w0 w
theorem EpRun.below' {w0 w w' : World} {e g gw z last : Nat} {f : Nat → Bool} (h : EpRun w0 w e g gw z f last) (hb : Below w.heap.size w w') : EpRun w0 w' e g gw z f last :=
  have hF : Fr (fun k => w.heap.size ≤ k) w w' := Fr.of_below hb fun _ _ h => h
  have h1 := h.ent.top.lt; have h2 := h.ent.set.lt; have h3 := h.bk.lt
  ⟨h.ent.fr hF (fun h => by omega) (fun h => by omega) (fun h => by omega), h.bk.below' hb, h.ne, h.b, h.below.trans (hb.mono h.below.size)⟩
theorem EpRun.step {w0 w w' : World} {e g gw z last last' : Nat} {f f' : Nat → Bool} (h : EpRun w0 w e g gw z f last) (_hE : EntAt w' e g gw f' last') (hF : Fr (fun b => b = e ∨ b = g ∨ b = gw) w w') :
    Bk w' z 62 (refCells (refOf f) last) ∧ Below w0.heap.size w0 w' :=
  ⟨h.bk.fr hF fun hh => by have := h.ne; omega, h.below.trans (hF.below h.below.size fun k hk hh => by have := h.b; omega)⟩
end Go.Proofs.YteifdbfaclpcdaaR
