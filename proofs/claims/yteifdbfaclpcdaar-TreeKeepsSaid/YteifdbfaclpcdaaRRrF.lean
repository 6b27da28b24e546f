/- Radix: Set: what a step makes of a tree. -/
import Derived.Test.YteifdbfaclpcdaaRRrE
namespace Go.Proofs.YteifdbfaclpcdaaR.Rr
open Go.RowKit

/-- A tree on its way: what was there stays, or is new. -/
structure SetMid (w0 w : World) (base g : Nat) (ex0 : Nat → Nat → Bool) (nd0 : Nat → Nat → Nat) (ex : Nat → Nat → Bool) (nd : Nat → Nat → Nat) (f : Nat → Option Value) (many bx : Nat) (v : Value) : Prop where
  tr : TrM w base g ex nd (kids ex) f many (cntN ex)
  box : Bk w bx 83 v.cells
  up : ∀ l q, l ≤ 3 → ex (l + 1) q = true → ex l (q / 16) = true
  bnd : ∀ l p, l ≤ 4 → ex l p = true → p < 16 ^ l
  old : ∀ l p, l ≤ 3 → ex l p = true → (ex0 l p = true ∧ nd l p = nd0 l p) ∨ w0.heap.size ≤ nd l p
  fr : Fr (TrS g ex0 nd0) w0 w

section
variable {w0 w w' : World} {base g many bx : Nat} {ex0 ex : Nat → Nat → Bool} {nd0 nd : Nat → Nat → Nat} {f : Nat → Option Value} {v : Value}
theorem SetMid.drewN (h : SetMid w0 w base g ex0 nd0 ex nd f many bx v) (n : Nat) : SetMid w0 (w.drewN n) base g ex0 nd0 ex nd f many bx v :=
  ⟨h.tr.drewN n, h.box.drewN n, h.up, h.bnd, h.old, h.fr.drewN n⟩
theorem SetMid.mine (h : SetMid w0 w base g ex0 nd0 ex nd f many bx v) {l p : Nat} (hl : l ≤ 3) (hp : ex l p = true) (hlt : nd l p < w0.heap.size) : TrS g ex0 nd0 (nd l p) := by
  rcases h.old l p hl hp with ⟨h1, h2⟩ | h1
  · exact .inr ⟨l, p, hl, h1, h2⟩
  · omega
theorem dnOf_ne {l' p' l q b : Nat} (h : ¬(l' = l ∧ p' = q / 16)) (d : Nat) (hd : d < 16) : dnOf (setE ex (l + 1) q true) (setN nd (l + 1) q b) l' p' d = dnOf ex nd l' p' d := by
  unfold dnOf
  have : ¬(l' + 1 = l + 1 ∧ 16 * p' + d = q) := fun hh => h ⟨by omega, by omega⟩
  rw [setE_ne this, setN_ne this]
theorem hsOf_ne {l' p' l q b : Nat} (h : ¬(l' = l ∧ p' = q / 16)) (d : Nat) (hd : d < 16) : hsOf (setE ex (l + 1) q true) (setN nd (l + 1) q b) l' p' d = hsOf ex nd l' p' d := by
  unfold hsOf
  have : ¬(l' + 1 = l + 1 ∧ 16 * p' + d = q) := fun hh => h ⟨by omega, by omega⟩
  rw [setE_ne this, setN_ne this]
/-- A node that goes on as it did. -/
theorem SetMid.keep (h : SetMid w0 w base g ex0 nd0 ex nd f many bx v) {l q : Nat} (hl : l ≤ 2) (hq : ex (l + 1) q = true) :
    SetMid w0 (w.setCell ⟨nd l (q / 16), q % 16, none⟩ (.pointer (some ⟨nd (l + 1) q, 0, none⟩))) base g ex0 nd0 ex nd f many bx v := by
  have hp := h.up l q (by omega) hq
  have hF : Fr (fun b => b = nd l (q / 16)) w (w.setCell ⟨nd l (q / 16), q % 16, none⟩ (.pointer (some ⟨nd (l + 1) q, 0, none⟩))) := (Fr.refl _ w).set _ _ fun _ => rfl
  have hn := h.tr.node l _ (by omega) hp
  obtain ⟨cs, hb⟩ := hn.ty
  refine ⟨⟨h.tr.top.fr hF (fun e => h.tr.nd_ne (by omega) hp e.symm), fun l' p' hl' hp' => ?_, fun k u hk hu => (h.tr.val k u hk hu).fr hF fun e => (h.tr.val_ne hk hu).2 l _ (by omega) hp e, h.tr.apart, h.tr.lo, h.tr.loN⟩, h.box.fr hF fun e => h.box.ne hb (by decide) e, h.up, h.bnd, h.old, ?_⟩
  · by_cases e : nd l' p' = nd l (q / 16)
    · obtain ⟨rfl, rfl⟩ := h.tr.apart _ _ _ _ hl' (by omega) hp' hp e
      refine (hn.setDn (d := q % 16) (by omega) (.pointer (some ⟨nd (l' + 1) q, 0, none⟩))).congr (fun d hd => ?_) fun d hd => rfl
      by_cases e2 : d = q % 16
      · rw [if_pos e2]
        unfold dnOf
        rw [if_neg (by omega), show 16 * (q / 16) + d = q by omega, hq]
        rfl
      · rw [if_neg e2]
    · exact (h.tr.node l' p' hl' hp').fr hF e
  · exact h.fr.set _ _ fun hlt => h.mine (by omega) hp hlt
/-- A node that goes on anew. -/
theorem SetMid.grow (h : SetMid w0 w base g ex0 nd0 ex nd f many bx v) {l q b : Nat} {w2 : World} (hl : l ≤ 2) (hp : ex l (q / 16) = true) (hq : ex (l + 1) q = false) (hqb : q < 16 ^ (l + 1))
    (hb : w.heap.size ≤ b) (hN : Node w2 b (fun _ => .pointer none) (fun _ => .pointer none) 0)
    (hT : Bk w2 g 133 #[ptrIf (ex 0 0) (nd 0 0), .int .i64 many, .int .i64 (cntN ex + 1 : Nat)]) (hF : Fr (fun k => k = g) (w.setCell ⟨nd l (q / 16), 32, none⟩ (.int .i64 (kids ex l (q / 16) + 1 : Nat))) w2) :
    SetMid w0 (w2.setCell ⟨nd l (q / 16), q % 16, none⟩ (.pointer (some ⟨b, 0, none⟩))) base g ex0 nd0 (setE ex (l + 1) q true) (setN nd (l + 1) q b) f many bx v := by
  have hn := h.tr.node l _ (by omega) hp
  obtain ⟨cs, hbk⟩ := hn.ty
  have hlt := hbk.lt
  have hng := h.tr.nd_ne (by omega) hp
  have hF0 : Fr (fun k => k = g ∨ k = nd l (q / 16)) w w2 := ((Fr.refl (fun k => k = nd l (q / 16)) w).set ⟨nd l (q / 16), 32, none⟩ (.int .i64 (kids ex l (q / 16) + 1 : Nat)) fun _ => rfl).mono (S' := fun k => k = g ∨ k = nd l (q / 16)) (fun _ _ e => .inr e) |>.trans hF fun _ _ e => .inl e
  have hF1 : Fr (fun k => k = nd l (q / 16)) w2 (w2.setCell ⟨nd l (q / 16), q % 16, none⟩ (.pointer (some ⟨b, 0, none⟩))) := (Fr.refl _ w2).set _ _ fun _ => rfl
  have hF2 : Fr (fun k => k = g ∨ k = nd l (q / 16)) w (w2.setCell ⟨nd l (q / 16), q % 16, none⟩ (.pointer (some ⟨b, 0, none⟩))) := hF0.trans hF1 fun _ _ e => .inr e
  have hbne : ∀ l' p', l' ≤ 3 → ex l' p' = true → nd l' p' ≠ b := fun l' p' hl' hp' e => by
    have := (h.tr.node l' p' hl' hp').lt
    omega
  have hcnt := cntN_up (ex := ex) (l := l + 1) (by omega) hqb hq
  refine ⟨⟨?_, fun l' p' hl' hp' => ?_, fun k u hk hu => ?_, fun l1 p1 l2 p2 hl1 hl2 h1 h2 he => ?_, h.tr.lo, fun l' p' hl' hp' => ?_⟩, ?_, fun l' q' hl' hq' => ?_, fun l' p' hl' hp' => ?_, fun l' p' hl' hp' => ?_, ?_⟩
  · rw [hcnt, setE_ne (by omega), setN_ne (by omega)]
    exact hT.far (fun e => hng e.symm) _
  · by_cases e1 : l' = l + 1 ∧ p' = q
    · obtain ⟨rfl, rfl⟩ := e1
      rw [setN_same]
      have hz : ∀ d, d < 16 → setE ex (l + 1) p' true (l + 1 + 1) (16 * p' + d) = false := fun d hd => by
        rw [setE_ne (by omega)]
        cases hx : ex (l + 1 + 1) (16 * p' + d)
        · rfl
        · have := h.up (l + 1) _ (by omega) hx
          rw [show (16 * p' + d) / 16 = p' by omega, hq] at this
          cases this
      have hk0 : kids (setE ex (l + 1) p' true) (l + 1) p' = 0 := by
        rcases Nat.eq_zero_or_pos (kids (setE ex (l + 1) p' true) (l + 1) p') with h0 | h0
        · exact h0
        · obtain ⟨d, hd, hx⟩ := kids_pos.1 h0
          rw [hz d hd] at hx
          cases hx
      rw [hk0]
      refine (hN.far (p := ⟨nd l (p' / 16), p' % 16, none⟩) (fun e => hbne l _ (by omega) hp e.symm) _).congr (fun d hd => ?_) fun d hd => ?_
      · unfold dnOf
        rw [hz d hd]
        split <;> rfl
      · unfold hsOf
        rw [hz d hd]
        split <;> rfl
    · rw [setE_ne e1] at hp'
      rw [setN_ne e1]
      by_cases e : nd l' p' = nd l (q / 16)
      · obtain ⟨rfl, rfl⟩ := h.tr.apart _ _ _ _ hl' (by omega) hp' hp e
        rw [kids_up hq]
        have hn2 := ((hn.setMany (kids ex l' (q / 16) + 1 : Nat)).fr hF (fun e => hng e)).setDn (d := q % 16) (by omega) (.pointer (some ⟨b, 0, none⟩))
        refine hn2.congr (fun d hd => ?_) fun d hd => ?_
        · by_cases e2 : d = q % 16
          · rw [if_pos e2]
            unfold dnOf
            rw [if_neg (by omega), show 16 * (q / 16) + d = q by omega, setE_same, setN_same]
            rfl
          · rw [if_neg e2]
            unfold dnOf
            have : ¬(l' + 1 = l' + 1 ∧ 16 * (q / 16) + d = q) := by omega
            rw [setE_ne this, setN_ne this]
        · unfold hsOf
          rw [if_neg (by omega), if_neg (by omega)]
      · have e3 : ¬(l' = l ∧ p' = q / 16) := fun hh => e (by rw [hh.1, hh.2])
        rw [kids_ne (by omega)]
        exact ((h.tr.node l' p' hl' hp').fr hF2 (fun hh => hh.elim (h.tr.nd_ne hl' hp') e)).congr (fun d hd => dnOf_ne e3 d hd) fun d hd => hsOf_ne e3 d hd
  · rw [setE_ne (by omega)] at hk
    rw [setN_ne (by omega)]
    have := h.tr.val_ne hk hu
    exact (h.tr.val k u hk hu).fr hF2 fun hh => hh.elim this.1 (this.2 l _ (by omega) hp)
  · by_cases e1 : l1 = l + 1 ∧ p1 = q
    · by_cases e2 : l2 = l + 1 ∧ p2 = q
      · exact ⟨by rw [e1.1, e2.1], by rw [e1.2, e2.2]⟩
      · rw [setE_ne e2] at h2
        rw [e1.1, e1.2, setN_same, setN_ne e2] at he
        exact absurd he.symm (hbne l2 p2 hl2 h2)
    · rw [setE_ne e1] at h1
      by_cases e2 : l2 = l + 1 ∧ p2 = q
      · rw [e2.1, e2.2, setN_same, setN_ne e1] at he
        exact absurd he (hbne l1 p1 hl1 h1)
      · rw [setE_ne e2] at h2
        rw [setN_ne e1, setN_ne e2] at he
        exact h.tr.apart _ _ _ _ hl1 hl2 h1 h2 he
  · by_cases e1 : l' = l + 1 ∧ p' = q
    · rw [e1.1, e1.2, setN_same]
      have := h.tr.lo
      have := h.tr.top.lt
      omega
    · rw [setE_ne e1] at hp'
      rw [setN_ne e1]
      exact h.tr.loN l' p' hl' hp'
  · exact h.box.fr hF2 fun hh => hh.elim (fun e => h.box.ne h.tr.top (by decide) e) (fun e => h.box.ne hbk (by decide) e)
  · by_cases e1 : l' + 1 = l + 1 ∧ q' = q
    · obtain ⟨e2, rfl⟩ := e1
      obtain rfl : l' = l := by omega
      rw [setE_ne (by omega)]
      exact hp
    · rw [setE_ne e1] at hq'
      have := h.up l' q' hl' hq'
      by_cases e2 : l' = l + 1 ∧ q' / 16 = q
      · rw [e2.1, e2.2, setE_same]
      · rw [setE_ne e2]
        exact this
  · by_cases e1 : l' = l + 1 ∧ p' = q
    · rw [e1.1, e1.2]
      exact hqb
    · rw [setE_ne e1] at hp'
      exact h.bnd l' p' hl' hp'
  · by_cases e1 : l' = l + 1 ∧ p' = q
    · rw [e1.1, e1.2, setN_same]
      have := h.fr.size
      exact .inr (by omega)
    · rw [setE_ne e1] at hp'
      rw [setN_ne e1]
      exact h.old l' p' hl' hp'
  · exact h.fr.trans hF2 fun k hk e => by
      rcases e with rfl | rfl
      · exact .inl rfl
      · exact h.mine (by omega) hp hk
end
end Go.Proofs.YteifdbfaclpcdaaR.Rr
