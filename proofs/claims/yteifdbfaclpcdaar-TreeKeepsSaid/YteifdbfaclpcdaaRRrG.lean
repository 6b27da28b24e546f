/- Radix: Set: the tree's head, and the end. -/
import Derived.Test.YteifdbfaclpcdaaRRrF
namespace Go.Proofs.YteifdbfaclpcdaaR.Rr
open Go.RowKit

section
variable {w0 w w' : World} {base g many bx : Nat} {ex0 ex : Nat → Nat → Bool} {nd0 nd : Nat → Nat → Nat} {f : Nat → Option Value} {v : Value}
theorem SetMid.keepRoot (h : SetMid w0 w base g ex0 nd0 ex nd f many bx v) (h0 : ex 0 0 = true) :
    SetMid w0 (w.setCell ⟨g, 0, none⟩ (.pointer (some ⟨nd 0 0, 0, none⟩))) base g ex0 nd0 ex nd f many bx v := by
  have hF : Fr (fun b => b = g) w (w.setCell ⟨g, 0, none⟩ (.pointer (some ⟨nd 0 0, 0, none⟩))) := (Fr.refl _ w).set _ _ fun _ => rfl
  have hT := h.tr.top.set 0 (.pointer (some ⟨nd 0 0, 0, none⟩))
  refine ⟨⟨?_, fun l' p' hl' hp' => (h.tr.node l' p' hl' hp').fr hF (h.tr.nd_ne hl' hp'), fun k u hk hu => (h.tr.val k u hk hu).fr hF (h.tr.val_ne hk hu).1, h.tr.apart, h.tr.lo, h.tr.loN⟩, h.box.fr hF fun e => h.box.ne h.tr.top (by decide) e, h.up, h.bnd, h.old, h.fr.set _ _ fun _ => .inl rfl⟩
  rw [h0]
  rw [h0] at hT
  simpa [ptrIf] using hT
theorem SetMid.growRoot (h : SetMid w0 w base g ex0 nd0 ex nd f many bx v) {b : Nat} {w2 : World} (hall : ∀ l p, l ≤ 4 → ex l p = false)
    (hb : w.heap.size ≤ b) (hN : Node w2 b (fun _ => .pointer none) (fun _ => .pointer none) 0)
    (hT : Bk w2 g 133 #[.pointer none, .int .i64 many, .int .i64 (cntN ex + 1 : Nat)]) (hF : Fr (fun k => k = g) w w2) :
    SetMid w0 (w2.setCell ⟨g, 0, none⟩ (.pointer (some ⟨b, 0, none⟩))) base g ex0 nd0 (setE ex 0 0 true) (setN nd 0 0 b) f many bx v := by
  have hF1 : Fr (fun k => k = g) w2 (w2.setCell ⟨g, 0, none⟩ (.pointer (some ⟨b, 0, none⟩))) := (Fr.refl _ w2).set _ _ fun _ => rfl
  have hF2 : Fr (fun k => k = g) w (w2.setCell ⟨g, 0, none⟩ (.pointer (some ⟨b, 0, none⟩))) := hF.trans hF1 fun _ _ e => e
  have hcnt := cntN_up (ex := ex) (l := 0) (p := 0) (by omega) (by omega) (hall 0 0 (by omega))
  have hgb : g ≠ b := fun e => by
    have := h.tr.top.lt
    omega
  have hone : ∀ l p, l ≤ 4 → setE ex 0 0 true l p = true → l = 0 ∧ p = 0 := fun l p hl hx => by
    by_cases e : l = 0 ∧ p = 0
    · exact e
    · rw [setE_ne e, hall l p hl] at hx
      cases hx
  refine ⟨⟨?_, fun l' p' hl' hp' => ?_, fun k u hk hu => ?_, fun l1 p1 l2 p2 hl1 hl2 h1 h2 he => ?_, h.tr.lo, fun l' p' hl' hp' => ?_⟩, ?_, fun l' q' hl' hq' => ?_, fun l' p' hl' hp' => ?_, fun l' p' hl' hp' => ?_, ?_⟩
  · rw [hcnt, setE_same, setN_same]
    have := hT.set 0 (.pointer (some ⟨b, 0, none⟩))
    simpa [ptrIf] using this
  · obtain ⟨rfl, rfl⟩ := hone l' p' (by omega) hp'
    rw [setN_same]
    have hz : ∀ d, d < 16 → setE ex 0 0 true (0 + 1) (16 * 0 + d) = false := fun d hd => by
      rw [setE_ne (by omega)]
      exact hall _ _ (by omega)
    have hk0 : kids (setE ex 0 0 true) 0 0 = 0 := by
      rcases Nat.eq_zero_or_pos (kids (setE ex 0 0 true) 0 0) with h0 | h0
      · exact h0
      · obtain ⟨d, hd, hx⟩ := kids_pos.1 h0
        rw [hz d hd] at hx
        cases hx
    rw [hk0]
    refine (hN.far (p := ⟨g, 0, none⟩) (fun e => hgb e.symm) _).congr (fun d hd => ?_) fun d hd => ?_
    · unfold dnOf
      rw [hz d hd]
      split <;> rfl
    · unfold hsOf
      rw [hz d hd]
      split <;> rfl
  · have := hone 4 k (by omega) hk
    omega
  · have e1 := hone l1 p1 (by omega) h1
    have e2 := hone l2 p2 (by omega) h2
    omega
  · obtain ⟨rfl, rfl⟩ := hone l' p' (by omega) hp'
    rw [setN_same]
    have := h.tr.lo
    have := h.tr.top.lt
    omega
  · exact h.box.fr hF2 fun e => h.box.ne h.tr.top (by decide) e
  · have := hone (l' + 1) q' (by omega) hq'
    omega
  · obtain ⟨rfl, rfl⟩ := hone l' p' hl' hp'
    omega
  · obtain ⟨rfl, rfl⟩ := hone l' p' (by omega) hp'
    rw [setN_same]
    have := h.fr.size
    exact .inr (by omega)
  · exact h.fr.trans hF2 fun k hk e => .inl e

/-- What Set leaves. -/
def SetPost (w0 : World) (base g : Nat) (ex0 : Nat → Nat → Bool) (nd0 : Nat → Nat → Nat) (f : Nat → Option Value) (many key : Nat) (v : Value) (w' : World) : Prop :=
  ∃ ex nd, RxAt w' base g ex nd (updF f key (some v)) (many + if f key = none then 1 else 0) ∧ Fr (TrS g ex0 nd0) w0 w'

theorem SetMid.fin (h : SetMid w0 w base g ex0 nd0 ex nd f many bx v) {key m2 : Nat} (hk : key < 65536) (hex : ex = addP ex0 key 3) (hfull : Full ex0 f) (hlt : ∀ k, f k ≠ none → k < 65536) (hok : ∀ k u, f k = some u → VOk u) (hv : VOk v)
    (hm2 : m2 = many + if f key = none then 1 else 0) (hn : Node w' (nd 3 (key / 16)) (dnOf ex nd 3 (key / 16)) (fun i => if i = key % 16 then .pointer (some ⟨bx, 0, none⟩) else hsOf ex nd 3 (key / 16) i) (kids (setE ex 4 key true) 3 (key / 16)))
    (hT : Bk w' g 133 #[ptrIf (ex 0 0) (nd 0 0), .int .i64 m2, .int .i64 (cntN ex)]) (hF : Fr (fun k => k = g ∨ k = nd 3 (key / 16)) w w') : SetPost w0 base g ex0 nd0 f many key v w' := by
  have hp : ex 3 (key / 16) = true := by
    rw [hex]
    exact addP_has (by omega)
  have hkey : key / rxD 4 = key := by rw [rxD_4, Nat.div_one]
  have hfull2 : Full (setE ex 4 key true) (updF f key (some v)) := by
    have := hfull.add key v
    rw [addP_step, hkey, ← hex] at this
    exact this
  obtain ⟨cs, hbk⟩ := (h.tr.node 3 _ (by omega) hp).ty
  refine ⟨setE ex 4 key true, setN nd 4 key bx, ⟨⟨?_, fun l' p' hl' hp' => ?_, fun k u hk' hu => ?_, fun l1 p1 l2 p2 hl1 hl2 h1 h2 he => ?_, h.tr.lo, fun l' p' hl' hp' => ?_⟩, hfull2, fun k hk' => ?_, fun k u hu => ?_⟩, ?_⟩
  · rw [cntN_4, setE_ne (by omega), setN_ne (by omega), ← hm2]
    exact hT
  · rw [setE_ne (by omega)] at hp'
    rw [setN_ne (by omega)]
    by_cases e : nd l' p' = nd 3 (key / 16)
    · obtain ⟨rfl, rfl⟩ := h.tr.apart _ _ _ _ hl' (by omega) hp' hp e
      refine hn.congr (fun d hd => ?_) fun d hd => ?_
      · unfold dnOf
        rw [if_pos rfl, if_pos rfl]
      · unfold hsOf
        rw [if_pos rfl]
        by_cases e2 : d = key % 16
        · rw [if_pos e2, show 16 * (key / 16) + d = key by omega, setE_same, setN_same]
          rfl
        · rw [if_neg e2, if_pos rfl, setE_ne (by omega), setN_ne (by omega)]
    · have e3 : ¬(l' = 3 ∧ p' = key / 16) := fun hh => e (by rw [hh.1, hh.2])
      rw [kids_ne (by omega)]
      refine ((h.tr.node l' p' hl' hp').fr hF (fun hh => hh.elim (h.tr.nd_ne hl' hp') e)).congr (fun d hd => dnOf_ne e3 d hd) fun d hd => hsOf_ne e3 d hd
  · unfold updF at hu
    by_cases e : k = key
    · subst e
      rw [if_pos rfl] at hu
      injection hu with hu
      rw [setN_same, ← hu]
      exact h.box.fr hF fun hh => hh.elim (fun e => h.box.ne h.tr.top (by decide) e) (fun e => h.box.ne hbk (by decide) e)
    · rw [if_neg e] at hu
      rw [setE_ne (fun hh => e hh.2)] at hk'
      rw [setN_ne (fun hh => e hh.2)]
      have := h.tr.val_ne hk' hu
      exact (h.tr.val k u hk' hu).fr hF fun hh => hh.elim this.1 (this.2 3 _ (by omega) hp)
  · rw [setE_ne (by omega)] at h1 h2
    rw [setN_ne (by omega), setN_ne (by omega)] at he
    exact h.tr.apart _ _ _ _ hl1 hl2 h1 h2 he
  · rw [setE_ne (by omega)] at hp'
    rw [setN_ne (by omega)]
    exact h.tr.loN l' p' hl' hp'
  · unfold updF at hk'
    split at hk'
    · omega
    · exact hlt k hk'
  · unfold updF at hu
    split at hu
    · injection hu with hu
      exact hu ▸ hv
    · exact hok k u hu
  · exact h.fr.trans hF fun k hk e => by
      rcases e with rfl | rfl
      · exact .inl rfl
      · exact h.mine (by omega) hp hk
end
end Go.Proofs.YteifdbfaclpcdaaR.Rr
