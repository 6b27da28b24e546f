/- Radix: how many nodes there are, as the document counts them. Nothing of the program stands here. -/
import Derived.Test.YteifdbfaclpcdaaRRxL
namespace Go.Proofs.YteifdbfaclpcdaaR

/-- How many beginnings of a key, shorter than so many digits, are new. -/
def partN (ex : Nat → Nat → Bool) (k d : Nat) : Nat := (List.range d).countP fun l => !ex l (k / rxD l)
theorem partN_zero (ex : Nat → Nat → Bool) (k : Nat) : partN ex k 0 = 0 := rfl
theorem partN_succ (ex : Nat → Nat → Bool) (k d : Nat) : partN ex k (d + 1) = partN ex k d + if ex d (k / rxD d) then 0 else 1 := by
  unfold partN
  rw [List.range_succ, List.countP_append]
  cases h : ex d (k / rxD d) <;> simp [h]
theorem partN_le (ex : Nat → Nat → Bool) (k d : Nat) : partN ex k d ≤ d := by
  have := List.countP_le_length (p := fun l => !ex l (k / rxD l)) (l := List.range d)
  simpa [partN] using this
theorem cntN_congr {ex ex' : Nat → Nat → Bool} (h : ∀ l p, l ≤ 3 → ex l p = ex' l p) : cntN ex = cntN ex' := by
  have hl : ∀ l, l ≤ 3 → rxCntL ex l = rxCntL ex' l := fun l hl => countP_same fun p _ => h l p hl
  unfold cntN
  rw [hl 0 (by omega), hl 1 (by omega), hl 2 (by omega), hl 3 (by omega)]
theorem cntN_set {ex : Nat → Nat → Bool} {l p : Nat} (hl : l ≤ 3) (hp : p < 16 ^ l) : cntN (setE ex l p true) = cntN ex + if ex l p then 0 else 1 := by
  cases h : ex l p
  · simpa using cntN_up hl hp h
  · rw [setE_id h]
    simp
theorem cntN_addP (ex : Nat → Nat → Bool) {k : Nat} (hk : k < 65536) : ∀ j, j ≤ 3 → cntN (addP ex k j) = cntN ex + partN ex k (j + 1)
  | 0, _ => by
    rw [addP_zero, cntN_set (by omega) (rxD_lt (by omega) hk), partN_succ, partN_zero]
    omega
  | j + 1, hj => by
    rw [addP_step, cntN_set hj (rxD_lt (by omega) hk), cntN_addP ex hk j (by omega), partN_succ ex k (j + 1), addP_new (by omega)]
    omega
theorem cntN_add (ex : Nat → Nat → Bool) {k : Nat} (hk : k < 65536) : cntN (addP ex k 4) = cntN ex + partN ex k 4 := by
  rw [addP_step, cntN_4, cntN_addP ex hk 3 (by omega)]

/-- The beginnings of listed keys. -/
def exL (ks : List Nat) : Nat → Nat → Bool := fun l p => ks.any fun k => decide (k / rxD l = p)
theorem exL_nil (l p : Nat) : exL [] l p = false := rfl
theorem exL_snoc (ks : List Nat) (k l p : Nat) (hl : l ≤ 4) : exL (ks ++ [k]) l p = addP (exL ks) k 4 l p := by
  unfold exL addP
  rw [List.any_append, decide_eq_true hl]
  simp [eq_comm]
theorem cntN_exL_snoc (ks : List Nat) {k : Nat} (hk : k < 65536) : cntN (exL (ks ++ [k])) = cntN (exL ks) + partN (exL ks) k 4 := by
  rw [← cntN_add _ hk]
  exact cntN_congr fun l p hl => exL_snoc ks k l p (by omega)
theorem cntN_exL_nil : cntN (exL []) = 0 := by decide +kernel
/-- In a rising list, a key begins as one ahead of it just if it begins as the last one ahead of it. -/
theorem exL_last {ks : List Nat} (hu : ks.Pairwise (· < ·)) {i k : Nat} (h : ks[i]? = some k) (l : Nat) :
    exL (ks.take i) l (k / rxD l) = (if i = 0 then false else decide (k / rxD l = (ks[i - 1]?.getD 0) / rxD l)) := by
  by_cases hi : i = 0
  · subst hi
    simp [exL]
  · rw [if_neg hi]
    obtain ⟨hlt, he⟩ := List.getElem?_eq_some_iff.1 h
    have hj : ks[i - 1]? = some ks[i - 1] := List.getElem?_eq_getElem (by omega)
    rw [hj]
    simp only [Option.getD_some]
    unfold exL
    rw [Bool.eq_iff_iff]
    simp only [List.any_eq_true, decide_eq_true_eq]
    constructor
    · rintro ⟨x, hx, hxe⟩
      obtain ⟨j, hj1⟩ := List.mem_iff_getElem?.1 hx
      rw [List.getElem?_take] at hj1
      split at hj1
      · rename_i hji
        obtain ⟨hj2, hj3⟩ := List.getElem?_eq_some_iff.1 hj1
        have h1 : x ≤ ks[i - 1] := by
          rcases Nat.lt_or_ge j (i - 1) with h2 | h2
          · have := (List.pairwise_iff_getElem.1 hu) j (i - 1) hj2 (by omega) h2
            omega
          · obtain rfl : j = i - 1 := by omega
            omega
        have h2 : ks[i - 1] < k := by
          have := (List.pairwise_iff_getElem.1 hu) (i - 1) i (by omega) hlt (by omega)
          omega
        have h3 := Nat.div_le_div_right (c := rxD l) h1
        have h4 := Nat.div_le_div_right (c := rxD l) (Nat.le_of_lt h2)
        omega
      · cases hj1
    · intro h1
      exact ⟨ks[i - 1], List.mem_iff_getElem?.2 ⟨i - 1, by rw [List.getElem?_take, if_pos (by omega), hj]⟩, h1.symm⟩
theorem Lists.exL {α : Type} {L : List (Nat × α)} {f : Nat → Option α} {ex : Nat → Nat → Bool} (hL : Lists L f) (h : Full ex f) (l p : Nat) (hl : l ≤ 4) : exL (L.map (·.1)) l p = ex l p := by
  unfold Go.Proofs.YteifdbfaclpcdaaR.exL
  rw [Bool.eq_iff_iff, h l p hl]
  simp only [List.any_eq_true, List.mem_map, decide_eq_true_eq]
  constructor
  · rintro ⟨k, ⟨e, he, rfl⟩, h2⟩
    refine ⟨e.1, ?_, h2⟩
    rw [(hL.mem e.1 e.2).1 he]
    simp
  · rintro ⟨k, h1, h2⟩
    cases hf : f k with
    | none => exact absurd hf h1
    | some v => exact ⟨k, ⟨(k, v), (hL.mem k v).2 hf, rfl⟩, h2⟩
theorem Lists.nodes {α : Type} {L : List (Nat × α)} {f : Nat → Option α} {ex : Nat → Nat → Bool} (hL : Lists L f) (h : Full ex f) : cntN (Go.Proofs.YteifdbfaclpcdaaR.exL (L.map (·.1))) = cntN ex :=
  cntN_congr fun l p hl => hL.exL h l p (by omega)
theorem Lists.keys {α : Type} {L : List (Nat × α)} {f : Nat → Option α} (hL : Lists L f) : (L.map (·.1)).Pairwise (· < ·) := List.pairwise_map.2 hL.up
end Go.Proofs.YteifdbfaclpcdaaR
