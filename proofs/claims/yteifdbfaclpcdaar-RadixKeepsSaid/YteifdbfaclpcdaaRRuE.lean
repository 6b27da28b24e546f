/- Radix: Get; a tree with what it has. -/
import Derived.Test.YteifdbfaclpcdaaRRuD
namespace Go.Proofs.YteifdbfaclpcdaaR.Ru
open Go.RowKit

/-- A thing. -/
def VOk (v : Value) : Prop := ∃ n : Int, v = .int .u64 n
def vZero : Value := .int .u64 0
theorem vZero_ok : VOk vZero := ⟨0, rfl⟩

/-- A tree, and what it has. -/
structure RxAt (w : World) (base g : Nat) (ex : Nat → Nat → Bool) (nd : Nat → Nat → Nat) (f : Nat → Option Value) (many : Nat) : Prop where
  tr : TrM w base g ex nd (kids ex) f many (cntN ex)
  full : Full ex f
  lt : ∀ k, f k ≠ none → k < 65536
  ok : ∀ k v, f k = some v → VOk v
/-- What a key has. -/
def getF (f : Nat → Option Value) (key : Int) : Option Value := if 0 ≤ key then f key.toNat else none
theorem getF_nat (f : Nat → Option Value) (k : Nat) : getF f (k : Int) = f k := by
  unfold getF
  rw [if_pos (by omega), Int.toNat_natCast]

section
variable {w w' : World} {base g many : Nat} {ex : Nat → Nat → Bool} {nd : Nat → Nat → Nat} {f : Nat → Option Value} {S : Nat → Prop}
theorem RxAt.fr (h : RxAt w base g ex nd f many) (hf : Fr S w w') (hS : ∀ b, b < w.heap.size → S b → ∀ t cs, Bk w b t cs → t ≠ 102 ∧ t ≠ 109 ∧ t ≠ 40) : RxAt w' base g ex nd f many :=
  ⟨h.tr.fr hf hS, h.full, h.lt, h.ok⟩
theorem RxAt.below0 (h : RxAt w base g ex nd f many) (hb : Below w.heap.size w w') : RxAt w' base g ex nd f many := ⟨h.tr.below0 hb, h.full, h.lt, h.ok⟩
theorem PathIs.hit {key : Int} {ps : Nat → Option Addr} {b : Bool} (h : PathIs ex nd key ps b) (hR : RxAt w base g ex nd f many) :
    (b = false ∧ getF f key = none) ∨ (b = true ∧ ∃ (k : Nat) (v : Value), key = k ∧ k < 65536 ∧ f k = some v ∧ VOk v ∧ (∀ l, l ≤ 4 → ex l (k / rxD l) = true) ∧ ∀ i, i ≤ 3 → ps i = some ⟨nd i (k / rxD i), 0, none⟩) := by
  have hall : ∀ k, f k ≠ none → ∀ l, l ≤ 4 → ex l (k / rxD l) = true := fun k hk l hl => (hR.full l _ hl).2 ⟨k, hk, rfl⟩
  cases hb : b
  · refine .inl ⟨rfl, ?_⟩
    unfold getF
    split
    · cases hf : f key.toNat with
      | none => rfl
      | some v =>
        have hk : f key.toNat ≠ none := by rw [hf]; simp
        have := h.ok.2 ⟨key.toNat, by omega, hR.lt _ hk, hall _ hk⟩
        rw [hb] at this
        cases this
    · rfl
  · subst hb
    obtain ⟨k, rfl, hk, hx⟩ := h.ok.1 rfl
    have h4 := hx 4 (by omega)
    rw [rxD_4, Nat.div_one, hR.full.key] at h4
    obtain ⟨v, hv⟩ := Option.isSome_iff_exists.1 h4
    exact .inr ⟨rfl, k, v, rfl, hk, hv, hR.ok k v hv, hx, fun i hi => by have := h.way rfl i hi; rwa [Int.toNat_natCast] at this⟩

set_option maxRecDepth 100000 in
set_option maxHeartbeats 1000000 in
theorem rGet (h : RxAt w base g ex nd f many) (key : Int) :
    Calls Try.prog 43 #[.pointer (some ⟨g, 0, none⟩), .int .i64 key] w fun e w' => e = .returned (.tuple #[(getF f key).getD vZero, .bool (getF f key).isSome]) ∧ Below w.heap.size w w' := by
  have HP := Lib.hid (rPath h.tr key)
  have HR := Lib.hid h
  clear h
  go_enter Try.func43, Try.ntmps43
  go_wp2_with fail
  refine HP.out.mono ?_
  rintro e w1 ⟨ps, b, rfl, hI, hB1⟩
  have HB1 := Lib.hid hB1
  rcases hI.hit HR.out with ⟨rfl, hn⟩ | ⟨rfl, k, v, rfl, hk, hv, hok, hx, hps⟩
  · have HN := Lib.hid hn
    clear hI hB1 hn
    go_wp2_with fail
    go_returns
    refine ⟨?_, HB1.out.trans (((Below.refl _ _).alloc (Nat.le_refl _) _).mono HB1.out.size)⟩
    rw [HN.out]
    rfl
  · have HT := Lib.hid (HR.out.below0 hB1).tr
    have hp3 := hx 3 (by omega)
    have hp4 := hx 4 (by omega)
    have hd := HT.out.hsC hp3 (by omega : k / rxD 4 % 16 < 16)
    rw [rxD_digit (by omega), hp4] at hd
    unfold ptrIf at hd
    rw [if_pos rfl] at hd
    have hvb := HT.out.val k v (by rw [rxD_4, Nat.div_one] at hp4; exact hp4) hv
    have e4 : k / rxD 4 = k := by rw [rxD_4, Nat.div_one]
    rw [e4] at hd
    have hps3 := hps 3 (by omega)
    have HA := Lib.hid (fun W => rxAt W (key := k) (by omega : 3 ≤ 3))
    rw [e4] at HA
    have h16 : k % 16 < 16 := by omega
    have HN : Hid (getF f (k : Int) = some v) := by
      show _ = _
      rw [getF_nat, hv]
    have hl3 := (HT.out.node 3 _ (by omega) hp3).lt
    have hlv := hvb.lt
    generalize nd 3 (k / rxD 3) = b3 at *
    generalize nd 4 k = bv at *
    generalize k % 16 = dg at *
    have b5 : (dg : Int) < 16 := by omega
    have b6 : (0 : Int) ≤ dg := by omega
    obtain ⟨n, rfl⟩ := hok
    have hc0 : w1.cell? ⟨bv, 0, none⟩ = some (.int .u64 n) := hvb.cell 0
    clear hI hB1 hx hps hvb hv hp3 hp4
    go_wp2_with fail
    go_quiet ((go_at_call 60; exact Calls.quiet_of_same (HA.out _)))
    go_wp2
    go_ret2
    refine ⟨?_, HB1.out.trans ((((Fr.refl (fun _ => False) w1).alloc _).drewN _).below0.mono HB1.out.size)⟩
    rw [HN.out]
    rfl
end
end Go.Proofs.YteifdbfaclpcdaaR.Ru
