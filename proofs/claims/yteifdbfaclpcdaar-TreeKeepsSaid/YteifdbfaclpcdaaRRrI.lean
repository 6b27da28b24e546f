/- Radix: Drop: what its steps make of a tree. -/
import Derived.Test.YteifdbfaclpcdaaRRrH
namespace Go.Proofs.YteifdbfaclpcdaaR.Rr
open Go.RowKit

section
variable {w0 w w' : World} {base g many nodes : Nat} {ex ex0 ex1 : Nat → Nat → Bool} {nd mn : Nat → Nat → Nat} {f : Nat → Option Value}
theorem TrM.congr (h : TrM w base g ex nd mn f many nodes) {mn' : Nat → Nat → Nat} (he : ∀ l p, l ≤ 4 → ex1 l p = ex l p) (hm : ∀ l p, l ≤ 3 → mn' l p = mn l p) : TrM w base g ex1 nd mn' f many nodes := by
  refine ⟨by rw [he 0 0 (by omega)]; exact h.top, fun l p hl hp => ?_, fun k v hk hv => h.val k v (by rwa [he 4 k (by omega)] at hk) hv, fun l p l' p' hl hl' hp hp' => h.apart l p l' p' hl hl' (by rwa [he l p (by omega)] at hp) (by rwa [he l' p' (by omega)] at hp'), h.lo, fun l p hl hp => h.loN l p hl (by rwa [he l p (by omega)] at hp)⟩
  rw [he l p (by omega)] at hp
  rw [hm l p hl]
  refine (h.node l p hl hp).congr (fun d hd => ?_) fun d hd => ?_
  · unfold dnOf
    rw [he _ _ (by omega)]
  · unfold hsOf
    rw [he _ _ (by omega)]
theorem kids_congr {l p : Nat} (hl : l ≤ 3) (he : ∀ l p, l ≤ 4 → ex1 l p = ex l p) : kids ex1 l p = kids ex l p := countP_same fun d _ => he _ _ (by omega)
theorem dnOf_off {l' p' l q : Nat} (h : ¬(l' = l ∧ p' = q / 16)) (d : Nat) (hd : d < 16) : dnOf (setE ex (l + 1) q false) nd l' p' d = dnOf ex nd l' p' d := by
  unfold dnOf
  have : ¬(l' + 1 = l + 1 ∧ 16 * p' + d = q) := fun hh => h ⟨by omega, by omega⟩
  rw [setE_ne this]
theorem hsOf_off {l' p' l q : Nat} (h : ¬(l' = l ∧ p' = q / 16)) (d : Nat) (hd : d < 16) : hsOf (setE ex (l + 1) q false) nd l' p' d = hsOf ex nd l' p' d := by
  unfold hsOf
  have : ¬(l' + 1 = l + 1 ∧ 16 * p' + d = q) := fun hh => h ⟨by omega, by omega⟩
  rw [setE_ne this]

variable {key l : Nat}
/-- A tree on its way: the node of so many digits of a key counts one too many. -/
structure DropMid (w0 w : World) (base g : Nat) (ex0 : Nat → Nat → Bool) (nd : Nat → Nat → Nat) (f : Nat → Option Value) (many key l : Nat) : Prop where
  tr : TrM w base g (rmP ex0 key l) nd (fun l' p' => kids (rmP ex0 key l) l' p' + if l' = l ∧ p' = key / rxD l then 1 else 0) (updF f key none) many (cntN (rmP ex0 key l))
  ho : ∀ k, f k ≠ none → k ≠ key → k / rxD (l + 1) ≠ key / rxD (l + 1)
  fr : Fr (TrS g ex0 nd) w0 w
theorem rmP_sub {j p : Nat} (h : rmP ex0 key j l p = true) : ex0 l p = true := by
  unfold rmP at h
  simp only [Bool.and_eq_true] at h
  exact h.1
theorem DropMid.mine (_h : DropMid w0 w base g ex0 nd f many key l) {l' p' : Nat} (hl : l' ≤ 3) (hp : rmP ex0 key l l' p' = true) : TrS g ex0 nd (nd l' p') := .inr ⟨l', p', hl, rmP_sub hp, rfl⟩

theorem DropMid.start (h : RxAt w base g ex0 nd f (many + 1)) {v : Value} (hv : f key = some v) (hF : Fr (TrS g ex0 nd) w0 w) :
    DropMid w0 ((w.setCell ⟨nd 3 (key / 16), 16 + key % 16, none⟩ (.pointer none)).setCell ⟨g, 1, none⟩ (.int .i64 many)) base g ex0 nd f many key 3 := by
  have hkey : key / rxD 4 = key := by rw [rxD_4, Nat.div_one]
  have h4 : ∀ l p, l ≤ 4 → rmP ex0 key 4 l p = ex0 l p := fun l p hl => rmP_old hl
  have ht := h.tr.congr (ex1 := rmP ex0 key 4) (mn' := kids (rmP ex0 key 4)) h4 fun l p hl => kids_congr hl h4
  have hc : cntN (rmP ex0 key 4) = cntN ex0 := cntN_congr fun l p hl => h4 l p (by omega)
  have hx4 : ex0 4 key = true := by rw [h.full.key, hv]; rfl
  have hx : rmP ex0 key 4 4 key = true := by rw [h4 _ _ (by omega)]; exact hx4
  have hp0 : ex0 3 (key / 16) = true := h.full.up (by omega) hx4
  have hp : rmP ex0 key 4 3 (key / 16) = true := by rw [h4 _ _ (by omega)]; exact hp0
  have hstep : rmP ex0 key 3 = setE (rmP ex0 key 4) (3 + 1) key false := by
    rw [rmP_step, hkey]
  have hn := ht.node 3 _ (by omega) hp
  obtain ⟨cs, hbk⟩ := hn.ty
  have hng := ht.nd_ne (by omega) hp
  have hF2 : Fr (fun k => k = g ∨ k = nd 3 (key / 16)) w ((w.setCell ⟨nd 3 (key / 16), 16 + key % 16, none⟩ (.pointer none)).setCell ⟨g, 1, none⟩ (.int .i64 many)) := ((Fr.refl _ w).set _ _ fun _ => .inr rfl).set _ _ fun _ => .inl rfl
  have e3 : key / rxD 3 = key / 16 := by rw [rxD_3]
  refine ⟨?_, fun k hk hne => by rw [rxD_4, Nat.div_one, Nat.div_one]; exact hne, hF.trans hF2 fun k hk e => ?_⟩
  · rw [hstep, e3]
    refine ⟨?_, fun l' p' hl' hp' => ?_, fun k u hk hu => ?_, fun l1 p1 l2 p2 hl1 hl2 h1 h2 he => ?_, ht.lo, fun l' p' hl' hp' => ?_⟩
    · rw [cntN_4, setE_ne (by omega), hc]
      have h1 := (ht.top.far (p := ⟨nd 3 (key / 16), 16 + key % 16, none⟩) (fun e => hng e.symm) (.pointer none)).set 1 (.int .i64 many)
      simpa using h1
    · rw [setE_ne (by omega)] at hp'
      by_cases e : nd l' p' = nd 3 (key / 16)
      · obtain ⟨rfl, rfl⟩ := ht.apart _ _ _ _ hl' (by omega) hp' hp e
        rw [if_pos ⟨rfl, rfl⟩, ← kids_down (l := 3) hx]
        refine ((hn.setHs (d := key % 16) (by omega) (.pointer none)).far (p := ⟨g, 1, none⟩) hng _).congr (fun d hd => ?_) fun d hd => ?_
        · unfold dnOf
          rw [if_pos rfl, if_pos rfl]
        · unfold hsOf
          rw [if_pos rfl]
          by_cases e2 : d = key % 16
          · rw [if_pos e2, show 16 * (key / 16) + d = key by omega, setE_same]
            rfl
          · rw [if_neg e2, if_pos rfl, setE_ne (by omega)]
      · have e3 : ¬(l' = 3 ∧ p' = key / 16) := fun hh => e (by rw [hh.1, hh.2])
        rw [if_neg e3, Nat.add_zero, kids_ne (by omega)]
        exact ((ht.node l' p' hl' hp').fr hF2 (fun hh => hh.elim (ht.nd_ne hl' hp') e)).congr (fun d hd => dnOf_off e3 d hd) fun d hd => hsOf_off e3 d hd
    · unfold updF at hu
      by_cases e : k = key
      · rw [if_pos e] at hu
        cases hu
      · rw [if_neg e] at hu
        rw [setE_ne (fun hh => e hh.2)] at hk
        have := ht.val_ne hk hu
        exact (ht.val k u hk hu).fr hF2 fun hh => hh.elim this.1 (this.2 3 _ (by omega) hp)
    · rw [setE_ne (by omega)] at h1 h2
      exact ht.apart _ _ _ _ hl1 hl2 h1 h2 he
    · rw [setE_ne (by omega)] at hp'
      exact ht.loN l' p' hl' hp'
  · rcases e with rfl | rfl
    · exact .inl rfl
    · exact .inr ⟨3, _, by omega, hp0, rfl⟩

/-- The node counts right again. -/
theorem DropMid.count (h : DropMid w0 w base g ex0 nd f many key l) (hl : l ≤ 3) (hp0 : ex0 l (key / rxD l) = true) :
    TrM (w.setCell ⟨nd l (key / rxD l), 32, none⟩ (.int .i64 (kids (rmP ex0 key l) l (key / rxD l)))) base g (rmP ex0 key l) nd (kids (rmP ex0 key l)) (updF f key none) many (cntN (rmP ex0 key l)) ∧
      Fr (TrS g ex0 nd) w0 (w.setCell ⟨nd l (key / rxD l), 32, none⟩ (.int .i64 (kids (rmP ex0 key l) l (key / rxD l)))) := by
  have hp : rmP ex0 key l l (key / rxD l) = true := by rw [rmP_old (Nat.le_refl _)]; exact hp0
  have hF : Fr (fun k => k = nd l (key / rxD l)) w (w.setCell ⟨nd l (key / rxD l), 32, none⟩ (.int .i64 (kids (rmP ex0 key l) l (key / rxD l)))) := (Fr.refl _ w).set _ _ fun _ => rfl
  refine ⟨⟨h.tr.top.fr hF (fun e => h.tr.nd_ne hl hp e.symm), fun l' p' hl' hp' => ?_, fun k u hk hu => (h.tr.val k u hk hu).fr hF ((h.tr.val_ne hk hu).2 l _ hl hp), h.tr.apart, h.tr.lo, h.tr.loN⟩, h.fr.trans hF fun k hk e => e ▸ h.mine hl hp⟩
  have hn := h.tr.node l' p' hl' hp'
  by_cases e : nd l' p' = nd l (key / rxD l)
  · obtain ⟨rfl, rfl⟩ := h.tr.apart _ _ _ _ hl' hl hp' hp e
    exact hn.setMany _
  · have e3 : ¬(l' = l ∧ p' = key / rxD l) := fun hh => e (by rw [hh.1, hh.2])
    have hn2 := hn.fr hF e
    simp only [if_neg e3, Nat.add_zero] at hn2
    exact hn2
/-- It stays. -/
theorem DropMid.stop (h : DropMid w0 w base g ex0 nd f many key l) (hfull : Full ex0 f) (hlt : ∀ k, f k ≠ none → k < 65536) (hok : ∀ k u, f k = some u → VOk u) (hl : l ≤ 3) (hp0 : ex0 l (key / rxD l) = true) (hk : kids (rmP ex0 key l) l (key / rxD l) ≠ 0) :
    RxAt (w.setCell ⟨nd l (key / rxD l), 32, none⟩ (.int .i64 (kids (rmP ex0 key l) l (key / rxD l)))) base g (rmP ex0 key l) nd (updF f key none) many := by
  refine ⟨(h.count hl hp0).1, hfull.rm hl h.ho hk, fun k hk' => ?_, fun k u hu => ?_⟩
  · unfold updF at hk'
    split at hk'
    · exact absurd rfl hk'
    · exact hlt k hk'
  · unfold updF at hu
    split at hu
    · cases hu
    · exact hok k u hu
/-- It goes, and the one above counts one too many. -/
theorem DropMid.down (h : DropMid w0 w base g ex0 nd f many key (l + 1)) (hfull : Full ex0 f) (hl : l ≤ 2) {n : Nat} (hkey : ex0 (l + 1) (key / rxD (l + 1)) = true) (hk : kids (rmP ex0 key (l + 1)) (l + 1) (key / rxD (l + 1)) = 0) (hn : cntN (rmP ex0 key (l + 1)) = n + 1) (hqb : key < 65536)
    (hw : w' = ((((w.setCell ⟨nd (l + 1) (key / rxD (l + 1)), 32, none⟩ (.int .i64 (0 : Nat))).setCell ⟨g, 2, none⟩ (.int .i64 n)).drewN 1).setCell ⟨nd l (key / rxD l), key / rxD (l + 1) % 16, none⟩ (.pointer none))) :
    DropMid w0 w' base g ex0 nd f many key l := by
  obtain ⟨ht, hF⟩ := h.count (by omega) hkey
  rw [hk] at ht hF
  have hx : rmP ex0 key (l + 1) (l + 1) (key / rxD (l + 1)) = true := by rw [rmP_old (Nat.le_refl _)]; exact hkey
  have hpq : key / rxD (l + 1) / 16 = key / rxD l := rxD_div (by omega) key
  have hp0 : ex0 l (key / rxD l) = true := by rw [← hpq]; exact hfull.up (by omega) hkey
  have hp : rmP ex0 key (l + 1) l (key / rxD l) = true := by rw [rmP_old (by omega)]; exact hp0
  have hstep : rmP ex0 key l = setE (rmP ex0 key (l + 1)) (l + 1) (key / rxD (l + 1)) false := rmP_step
  have hng := ht.nd_ne (by omega) hp
  have hcnt := cntN_down (ex := rmP ex0 key (l + 1)) (l := l + 1) (by omega) (rxD_lt (by omega) hqb) hx
  have hF2 : Fr (fun k => k = g ∨ k = nd l (key / rxD l)) (w.setCell ⟨nd (l + 1) (key / rxD (l + 1)), 32, none⟩ (.int .i64 (0 : Nat))) w' := by
    rw [hw]
    exact ((((Fr.refl _ _).set _ _ fun _ => .inl rfl).drewN 1).set _ _ fun _ => .inr rfl)
  have hn1 := ht.node l _ (by omega) hp
  refine ⟨?_, hfull.rm_none (by omega) h.ho hk, hF.trans hF2 fun k _ e => ?_⟩
  · rw [hstep]
    refine ⟨?_, fun l' p' hl' hp' => ?_, fun k u hk hu => ?_, fun l1 p1 l2 p2 hl1 hl2 h1 h2 he => ?_, ht.lo, fun l' p' hl' hp' => ?_⟩
    · rw [setE_ne (by omega), show cntN (setE (rmP ex0 key (l + 1)) (l + 1) (key / rxD (l + 1)) false) = n by omega, hw]
      have h1 := ((ht.top.set 2 (.int .i64 n)).drewN 1).far (p := ⟨nd l (key / rxD l), key / rxD (l + 1) % 16, none⟩) (fun e => hng e.symm) (.pointer none)
      simpa using h1
    · have e1 : ¬(l' = l + 1 ∧ p' = key / rxD (l + 1)) := fun hh => by
        rw [hh.1, hh.2, setE_same] at hp'
        cases hp'
      rw [setE_ne e1] at hp'
      by_cases e : nd l' p' = nd l (key / rxD l)
      · obtain ⟨rfl, rfl⟩ := ht.apart _ _ _ _ hl' (by omega) hp' hp e
        have hkd := kids_down (ex := rmP ex0 key (l' + 1)) (l := l') hx
        rw [hpq] at hkd
        simp only [and_self, if_true]
        rw [← hkd, hw]
        refine (((hn1.far (p := ⟨g, 2, none⟩) hng _).fr (S := fun _ => False) ((Fr.refl _ _).drewN 1) id).setDn (d := key / rxD (l' + 1) % 16) (by omega) (.pointer none)).congr (fun d hd => ?_) fun d hd => ?_
        · by_cases e2 : d = key / rxD (l' + 1) % 16
          · rw [if_pos e2]
            unfold dnOf
            rw [if_neg (by omega), e2, rxD_digit (by omega), setE_same]
            rfl
          · rw [if_neg e2]
            unfold dnOf
            have : ¬(l' + 1 = l' + 1 ∧ 16 * (key / rxD l') + d = key / rxD (l' + 1)) := fun hh => e2 (by have := rxD_digit (l := l') (by omega) key; omega)
            rw [setE_ne this]
        · unfold hsOf
          rw [if_neg (by omega), if_neg (by omega)]
      · have e3 : ¬(l' = l ∧ p' = key / rxD l) := fun hh => e (by rw [hh.1, hh.2])
        have e4 : ¬(l' = l ∧ p' = key / rxD (l + 1) / 16) := by rw [hpq]; exact e3
        rw [if_neg e3, Nat.add_zero, kids_ne (by omega)]
        exact ((ht.node l' p' hl' hp').fr hF2 (fun hh => hh.elim (ht.nd_ne hl' hp') e)).congr (fun d hd => dnOf_off e4 d hd) fun d hd => hsOf_off e4 d hd
    · rw [setE_ne (by omega)] at hk
      have := ht.val_ne hk hu
      exact (ht.val k u hk hu).fr hF2 fun hh => hh.elim this.1 (this.2 l _ (by omega) hp)
    · have e1 : ∀ {l1 p1}, setE (rmP ex0 key (l + 1)) (l + 1) (key / rxD (l + 1)) false l1 p1 = true → rmP ex0 key (l + 1) l1 p1 = true := fun {l1 p1} hh => by
        by_cases e : l1 = l + 1 ∧ p1 = key / rxD (l + 1)
        · rw [e.1, e.2, setE_same] at hh
          cases hh
        · rwa [setE_ne e] at hh
      exact ht.apart _ _ _ _ hl1 hl2 (e1 h1) (e1 h2) he
    · have e1 : ¬(l' = l + 1 ∧ p' = key / rxD (l + 1)) := fun hh => by
        rw [hh.1, hh.2, setE_same] at hp'
        cases hp'
      rw [setE_ne e1] at hp'
      exact ht.loN l' p' hl' hp'
  · rcases e with rfl | rfl
    · exact .inl rfl
    · exact .inr ⟨l, _, by omega, hp0, rfl⟩
/-- All goes. -/
theorem DropMid.last (h : DropMid w0 w base g ex0 nd f many key 0) (hfull : Full ex0 f) (hlt : ∀ k, f k ≠ none → k < 65536) {n : Nat} (hkey : key < 65536) (hx0 : ex0 0 (key / rxD 0) = true) (hk : kids (rmP ex0 key 0) 0 (key / rxD 0) = 0) (hn : cntN (rmP ex0 key 0) = n + 1)
    (hw : w' = ((w.setCell ⟨nd 0 (key / rxD 0), 32, none⟩ (.int .i64 (0 : Nat))).setCell ⟨g, 2, none⟩ (.int .i64 n)).setCell ⟨g, 0, none⟩ (.pointer none)) :
    RxAt w' base g (fun _ _ => false) nd (updF f key none) many ∧ Fr (TrS g ex0 nd) w0 w' := by
  obtain ⟨ht, hF⟩ := h.count (by omega) hx0
  rw [hk] at ht hF
  obtain ⟨hnone, hall⟩ := hfull.rm_all (hfull.rm_none (by omega) h.ho hk) hlt hkey
  have hfe : updF f key none = fun _ => none := funext hnone
  have hx : rmP ex0 key 0 0 (key / rxD 0) = true := by rw [rmP_old (Nat.le_refl _)]; exact hx0
  have hcnt := cntN_down (ex := rmP ex0 key 0) (l := 0) (by omega) (rxD_lt (by omega) hkey) hx
  have hz : cntN (setE (rmP ex0 key 0) 0 (key / rxD 0) false) = cntN (fun _ _ => false) := cntN_congr fun l p hl => by
    by_cases e : l = 0 ∧ p = key / rxD 0
    · rw [e.1, e.2, setE_same]
    · rw [setE_ne e]
      cases hr : rmP ex0 key 0 l p
      · rfl
      · have h1 := hall l p (by omega)
        rw [rmP_sub hr, Bool.true_and] at h1
        have h2 : p = key / rxD l := by simpa using h1
        unfold rmP at hr
        rcases Nat.eq_zero_or_pos l with rfl | h3
        · exact absurd ⟨rfl, h2⟩ e
        · rw [h2] at hr
          simp at hr
          omega
  have hz0 : cntN (fun _ _ => false) = 0 := by decide +kernel
  have hn0 : n = 0 := by omega
  subst hn0
  have hF2 : Fr (fun k => k = g) (w.setCell ⟨nd 0 (key / rxD 0), 32, none⟩ (.int .i64 (0 : Nat))) w' := by
    rw [hw]
    exact ((Fr.refl (fun k => k = g) _).set ⟨g, 2, none⟩ _ fun _ => rfl).set ⟨g, 0, none⟩ _ fun _ => rfl
  refine ⟨⟨⟨?_, fun l' p' hl' hp' => (by cases hp'), fun k u hk hu => (by cases hk), fun l1 p1 l2 p2 hl1 hl2 h1 h2 he => (by cases h1), ht.lo, fun l' p' hl' hp' => (by cases hp')⟩, ?_, fun k hk' => ?_, fun k u hu => ?_⟩, hF.trans hF2 fun k _ e => .inl e⟩
  · rw [hz0, hw]
    have h1 := (ht.top.set 2 (.int .i64 (0 : Nat))).set 0 (.pointer none)
    simpa [ptrIf] using h1
  · rw [hfe]
    exact Full.nil
  · rw [hfe] at hk'
    exact absurd rfl hk'
  · rw [hfe] at hu
    cases hu
end
end Go.Proofs.YteifdbfaclpcdaaR.Rr
