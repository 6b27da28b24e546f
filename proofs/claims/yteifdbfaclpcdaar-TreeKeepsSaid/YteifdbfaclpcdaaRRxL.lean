/- Radix: plain words: rising lists of keys, which beginnings there are, how many. Nothing of the program stands here. -/
import Derived.Lib.Hide
namespace Go.Proofs.YteifdbfaclpcdaaR

section
variable {α : Type}
/-- Rising by keys. -/
def Rising (L : List (Nat × α)) : Prop := L.Pairwise fun a b => a.1 < b.1
/-- The list has just what f says. -/
structure Lists (L : List (Nat × α)) (f : Nat → Option α) : Prop where
  up : Rising L
  mem : ∀ k v, (k, v) ∈ L ↔ f k = some v
  lt : ∀ k, f k ≠ none → k < 65536

theorem Rising.ext : ∀ {L L' : List (Nat × α)}, Rising L → Rising L' → (∀ e, e ∈ L ↔ e ∈ L') → L = L'
  | [], [], _, _, _ => rfl
  | [], b :: L', _, _, h => absurd ((h b).2 (by simp)) (by simp)
  | a :: L, [], _, _, h => absurd ((h a).1 (by simp)) (by simp)
  | a :: L, b :: L', h1, h2, h => by
    have h1' := List.pairwise_cons.1 h1
    have h2' := List.pairwise_cons.1 h2
    have hab : a = b := by
      have ha := (h a).1 (by simp)
      have hb := (h b).2 (by simp)
      rcases List.mem_cons.1 ha with e | ha
      · exact e
      · rcases List.mem_cons.1 hb with e | hb
        · exact e.symm
        · have x1 := h1'.1 b hb
          have x2 := h2'.1 a ha
          omega
    subst hab
    congr 1
    refine Rising.ext h1'.2 h2'.2 fun e => ⟨fun he => ?_, fun he => ?_⟩
    · rcases List.mem_cons.1 ((h e).1 (List.mem_cons_of_mem _ he)) with e1 | e1
      · subst e1
        have := h1'.1 e he
        omega
      · exact e1
    · rcases List.mem_cons.1 ((h e).2 (List.mem_cons_of_mem _ he)) with e1 | e1
      · subst e1
        have := h2'.1 e he
        omega
      · exact e1
theorem Lists.ext {L L' : List (Nat × α)} {f : Nat → Option α} (h : Lists L f) (h' : Lists L' f) : L = L' :=
  h.up.ext h'.up fun e => by
    obtain ⟨k, v⟩ := e
    rw [h.mem, h'.mem]
theorem Lists.nil : Lists ([] : List (Nat × α)) fun _ => none := ⟨List.Pairwise.nil, fun _ _ => by simp, fun _ h => absurd rfl h⟩

/-- Where a key is, or belongs. -/
structure AtIs (L : List (Nat × α)) (key : Int) (n : Nat) (b : Bool) : Prop where
  le : n ≤ L.length
  below : ∀ j e, j < n → L[j]? = some e → (e.1 : Int) < key
  here : ∀ e, L[n]? = some e → key ≤ e.1 ∧ b = decide ((e.1 : Int) = key)
  out : L[n]? = none → b = false

theorem AtIs.take {L : List (Nat × α)} {key : Int} {n : Nat} {b : Bool} (h : AtIs L key n b) : ∀ e ∈ L.take n, (e.1 : Int) < key := by
  intro e he
  obtain ⟨j, hj⟩ := List.mem_iff_getElem?.1 he
  rw [List.getElem?_take] at hj
  split at hj
  · exact h.below j e (by assumption) hj
  · cases hj
theorem Rising.drop {L : List (Nat × α)} (h : Rising L) (n : Nat) : Rising (L.drop n) := List.Pairwise.sublist (List.drop_sublist n L) h
theorem Rising.take {L : List (Nat × α)} (h : Rising L) (n : Nat) : Rising (L.take n) := List.Pairwise.sublist (List.take_sublist n L) h
theorem AtIs.drop {L : List (Nat × α)} {key : Int} {n : Nat} {b : Bool} (h : AtIs L key n b) (hu : Rising L) : ∀ e ∈ L.drop n, key ≤ (e.1 : Int) := by
  intro e he
  rcases hd : L.drop n with _ | ⟨x, r⟩
  · rw [hd] at he
    simp at he
  · have hx : L[n]? = some x := by
      have := congrArg (·[0]?) hd
      simpa using this
    have hk := (h.here x hx).1
    have hr := hu.drop n
    rw [hd] at hr he
    rcases List.mem_cons.1 he with rfl | he
    · exact hk
    · have := (List.pairwise_cons.1 hr).1 e he
      omega
theorem AtIs.drop1 {L : List (Nat × α)} {key : Int} {n : Nat} {b : Bool} (h : AtIs L key n b) (hu : Rising L) : ∀ e ∈ L.drop (n + 1), key < (e.1 : Int) := by
  intro e he
  rcases hd : L.drop n with _ | ⟨x, r⟩
  · have : L.drop (n + 1) = [] := by
      rw [List.drop_eq_nil_iff] at hd ⊢
      omega
    rw [this] at he
    simp at he
  · have hx : L[n]? = some x := by
      have := congrArg (·[0]?) hd
      simpa using this
    have hk := (h.here x hx).1
    have hr := hu.drop n
    have e1 : L.drop (n + 1) = r := by
      rw [show n + 1 = n + 1 from rfl, ← List.drop_drop, hd]
      rfl
    rw [hd] at hr
    rw [e1] at he
    have := (List.pairwise_cons.1 hr).1 e he
    omega
/-- f with key otherwise. -/
def updF (f : Nat → Option α) (key : Nat) (x : Option α) : Nat → Option α := fun k => if k = key then x else f k
theorem mem_split {L : List (Nat × α)} (n : Nat) (e : Nat × α) : e ∈ L ↔ e ∈ L.take n ∨ e ∈ L.drop n := by
  conv => lhs; rw [← List.take_append_drop n L]
  exact List.mem_append
theorem drop_cons {L : List (Nat × α)} {n : Nat} {e : Nat × α} (h : L[n]? = some e) : L.drop n = e :: L.drop (n + 1) := by
  obtain ⟨h1, h2⟩ := List.getElem?_eq_some_iff.1 h
  rw [List.drop_eq_getElem_cons h1, h2]
theorem AtIs.hit {L : List (Nat × α)} {f : Nat → Option α} {key : Nat} {n : Nat} {b : Bool} (h : AtIs L (key : Int) n b) (hL : Lists L f) :
    (b = true ∧ ∃ v, L[n]? = some (key, v) ∧ f key = some v) ∨ (b = false ∧ f key = none) := by
  rcases hn : L[n]? with _ | ⟨k, v⟩
  · refine .inr ⟨h.out hn, ?_⟩
    cases hf : f key with
    | none => rfl
    | some v =>
      have hm := (hL.mem key v).2 hf
      have h1 : L.drop n = [] := List.drop_eq_nil_iff.2 (List.getElem?_eq_none_iff.1 hn)
      rcases (mem_split n _).1 hm with h2 | h2
      · have := h.take _ h2
        simp at this
      · rw [h1] at h2
        simp at h2
  · obtain ⟨h1, h2⟩ := h.here _ hn
    by_cases hk : k = key
    · subst hk
      exact .inl ⟨by simpa using h2, v, rfl, (hL.mem _ _).1 (List.mem_of_getElem? hn)⟩
    · refine .inr ⟨by rw [h2]; simp; omega, ?_⟩
      simp only at h1
      cases hf : f key with
      | none => rfl
      | some u =>
        have hm := (hL.mem key u).2 hf
        rcases (mem_split n _).1 hm with h3 | h3
        · have := h.take _ h3
          simp at this
        · rw [drop_cons hn] at h3
          rcases List.mem_cons.1 h3 with h4 | h4
          · cases h4
            exact absurd rfl hk
          · have h5 := hL.up.drop n
            rw [drop_cons hn] at h5
            have := (List.pairwise_cons.1 h5).1 _ h4
            simp at this
            omega
/-- Set, by the list. -/
theorem Lists.set {L : List (Nat × α)} {f : Nat → Option α} {key : Nat} {n m : Nat} {b : Bool} (hL : Lists L f) (h : AtIs L (key : Int) n b) (hk : key < 65536) (v : α) (hm : m = if b then n + 1 else n) :
    Lists (L.take n ++ (key, v) :: L.drop m) (updF f key (some v)) := by
  have hlo := h.take
  have hhi : ∀ e ∈ L.drop m, (key : Int) < (e.1 : Int) := by
    intro e he
    rcases h.hit hL with ⟨hb, v', hv, _⟩ | ⟨hb, hf⟩
    · rw [hb] at hm
      exact h.drop1 hL.up e (by rwa [hm] at he)
    · rw [hb] at hm
      have he' : e ∈ L.drop n := by rwa [hm] at he
      have h1 := h.drop hL.up e he'
      have h2 : f e.1 ≠ none := by
        rw [(hL.mem e.1 e.2).1 (List.mem_of_mem_drop he')]
        simp
      have h3 : e.1 ≠ key := fun e1 => h2 (e1 ▸ hf)
      omega
  refine ⟨?_, fun k u => ?_, fun k hk' => ?_⟩
  · refine List.pairwise_append.2 ⟨hL.up.take n, List.pairwise_cons.2 ⟨fun e he => ?_, hL.up.drop m⟩, fun a ha c hc => ?_⟩
    · have := hhi e he
      simp only
      omega
    · have h1 := hlo a ha
      rcases List.mem_cons.1 hc with rfl | hc
      · simp only
        omega
      · have := hhi c hc
        omega
  · unfold updF
    rw [List.mem_append, List.mem_cons]
    constructor
    · rintro (h1 | h1 | h1)
      · have := hlo _ h1
        simp only at this
        rw [if_neg (by omega)]
        exact (hL.mem k u).1 (List.mem_of_mem_take h1)
      · cases h1
        simp
      · have := hhi _ h1
        simp only at this
        rw [if_neg (by omega)]
        exact (hL.mem k u).1 (List.mem_of_mem_drop h1)
    · intro h1
      split at h1
      · subst k
        cases h1
        exact .inr (.inl rfl)
      · rename_i hne
        have hmem := (hL.mem k u).2 h1
        rcases (mem_split n _).1 hmem with h2 | h2
        · exact .inl h2
        · refine .inr (.inr ?_)
          rcases h.hit hL with ⟨hb, v', hv, _⟩ | ⟨hb, hf⟩
          · rw [hb, if_pos rfl] at hm
            rw [drop_cons hv] at h2
            rcases List.mem_cons.1 h2 with h3 | h3
            · cases h3
              exact absurd rfl hne
            · rw [hm]
              exact h3
          · rw [hb, if_neg (by simp)] at hm
            rw [hm]
            exact h2
  · unfold updF at hk'
    split at hk'
    · omega
    · exact hL.lt k hk'
theorem Lists.set_length {L : List (Nat × α)} {f : Nat → Option α} {key : Nat} {n m : Nat} {b : Bool} (hL : Lists L f) (h : AtIs L (key : Int) n b) (v : α) (hm : m = if b then n + 1 else n) :
    (L.take n ++ (key, v) :: L.drop m).length = L.length + (if f key = none then 1 else 0) := by
  have hle := h.le
  rcases h.hit hL with ⟨hb, v', hv, hf⟩ | ⟨hb, hf⟩
  · have := (List.getElem?_eq_some_iff.1 hv).1
    rw [hb, if_pos rfl] at hm
    rw [hm, hf]
    simp
    omega
  · rw [hb, if_neg (by simp)] at hm
    rw [hm, hf]
    simp
    omega
/-- Drop, by the list. -/
theorem Lists.dropK {L : List (Nat × α)} {f : Nat → Option α} {key : Nat} {n : Nat} (hL : Lists L f) (h : AtIs L (key : Int) n true) :
    Lists (L.take n ++ L.drop (n + 1)) (updF f key none) := by
  have hlo := h.take
  have hhi := h.drop1 hL.up
  refine ⟨?_, fun k u => ?_, fun k hk' => ?_⟩
  · refine List.pairwise_append.2 ⟨hL.up.take n, hL.up.drop _, fun a ha c hc => ?_⟩
    have h1 := hlo a ha
    have := hhi c hc
    omega
  · unfold updF
    rw [List.mem_append]
    constructor
    · rintro (h1 | h1)
      · have := hlo _ h1
        simp only at this
        rw [if_neg (by omega)]
        exact (hL.mem k u).1 (List.mem_of_mem_take h1)
      · have := hhi _ h1
        simp only at this
        rw [if_neg (by omega)]
        exact (hL.mem k u).1 (List.mem_of_mem_drop h1)
    · intro h1
      split at h1
      · cases h1
      · rename_i hne
        have hmem := (hL.mem k u).2 h1
        rcases (mem_split n _).1 hmem with h2 | h2
        · exact .inl h2
        · refine .inr ?_
          rcases h.hit hL with ⟨_, v', hv, _⟩ | ⟨hb, _⟩
          · rw [drop_cons hv] at h2
            rcases List.mem_cons.1 h2 with h3 | h3
            · cases h3
              exact absurd rfl hne
            · exact h3
          · cases hb
  · unfold updF at hk'
    split at hk'
    · exact absurd rfl hk'
    · exact hL.lt k hk'

/-- What f has from a on, so many places long, no key below fr. -/
def seg (f : Nat → Option α) (fr : Int) (a n : Nat) : List (Nat × α) := (List.range' a n).filterMap fun (k : Nat) => if fr ≤ (k : Int) then (f k).map fun v => (k, v) else none
theorem seg_zero (f : Nat → Option α) (fr : Int) (a : Nat) : seg f fr a 0 = [] := rfl
theorem seg_add (f : Nat → Option α) (fr : Int) (a n m : Nat) : seg f fr a (n + m) = seg f fr a n ++ seg f fr (a + n) m := by
  unfold seg
  rw [← List.filterMap_append, List.range'_append_1]
theorem seg_one (f : Nat → Option α) (fr : Int) (a : Nat) : seg f fr a 1 = if fr ≤ (a : Int) then ((f a).map fun v => (a, v)).toList else [] := by
  unfold seg
  by_cases h : fr ≤ (a : Int)
  · cases hf : f a <;> simp [h, hf]
  · simp [h]
theorem seg_none {f : Nat → Option α} {fr : Int} {a n : Nat} (h : ∀ k, a ≤ k → k < a + n → f k = none) : seg f fr a n = [] := by
  unfold seg
  rw [List.filterMap_eq_nil_iff]
  intro k hk
  rw [List.mem_range'_1] at hk
  rw [h k hk.1 hk.2]
  simp
theorem seg_skip {f : Nat → Option α} {fr : Int} {a n : Nat} (h : ((a + n : Nat) : Int) ≤ fr) : seg f fr a n = [] := by
  unfold seg
  rw [List.filterMap_eq_nil_iff]
  intro k hk
  rw [List.mem_range'_1] at hk
  rw [if_neg (by omega)]
theorem mem_seg {f : Nat → Option α} {fr : Int} {a n : Nat} {e : Nat × α} : e ∈ seg f fr a n ↔ a ≤ e.1 ∧ e.1 < a + n ∧ fr ≤ (e.1 : Int) ∧ f e.1 = some e.2 := by
  unfold seg
  rw [List.mem_filterMap]
  constructor
  · rintro ⟨k, hk, h⟩
    rw [List.mem_range'_1] at hk
    split at h
    · cases hf : f k with
      | none => rw [hf] at h; cases h
      | some v =>
        rw [hf] at h
        cases h
        exact ⟨hk.1, hk.2, by assumption, hf⟩
    · cases h
  · rintro ⟨h1, h2, h3, h4⟩
    exact ⟨e.1, by rw [List.mem_range'_1]; exact ⟨h1, h2⟩, by rw [if_pos h3, h4]; rfl⟩
theorem seg_up (f : Nat → Option α) (fr : Int) (a n : Nat) : Rising (seg f fr a n) := by
  induction n generalizing a with
  | zero => exact List.Pairwise.nil
  | succ n ih =>
    rw [Nat.add_comm n 1, seg_add]
    refine List.pairwise_append.2 ⟨?_, ih _, fun x hx y hy => ?_⟩
    · rw [seg_one]
      split
      · cases f a <;> simp
      · simp
    · have h1 := (mem_seg.1 hx).2.1
      have h2 := (mem_seg.1 hy).1
      omega
/-- What is there from a key on: the list behind where it belongs. -/
theorem Lists.from {L : List (Nat × α)} {f : Nat → Option α} {start : Int} {n : Nat} {b : Bool} (hL : Lists L f) (h : AtIs L start n b) : seg f start 0 65536 = L.drop n := by
  refine (seg_up _ _ _ _).ext (hL.up.drop n) fun e => ?_
  rw [mem_seg]
  constructor
  · rintro ⟨-, h2, h3, h4⟩
    rcases (mem_split n e).1 ((hL.mem e.1 e.2).2 h4) with h5 | h5
    · have := h.take e h5
      omega
    · exact h5
  · intro he
    have h1 := (hL.mem e.1 e.2).1 (List.mem_of_mem_drop he)
    have h2 := hL.lt e.1 (by rw [h1]; simp)
    exact ⟨by omega, by omega, h.drop hL.up e he, h1⟩
theorem Lists.all {L : List (Nat × α)} {f : Nat → Option α} {start : Int} (hL : Lists L f) (hs : start ≤ 0) : seg f start 0 65536 = L := by
  refine (seg_up _ _ _ _).ext hL.up fun e => ?_
  rw [mem_seg]
  constructor
  · rintro ⟨-, h2, h3, h4⟩
    exact (hL.mem e.1 e.2).2 h4
  · intro he
    have h1 := (hL.mem e.1 e.2).1 he
    have h2 := hL.lt e.1 (by rw [h1]; simp)
    exact ⟨by omega, by omega, by omega, h1⟩
end

section
variable {β : Type}
/-- Who is told things, one by one, and says whether more are wanted. -/
def feed (go : List β → Bool) : List β → List β → List β × Bool
  | acc, [] => (acc, true)
  | acc, y :: ys => if go (acc ++ [y]) then feed go (acc ++ [y]) ys else (acc ++ [y], false)
theorem feed_nil (go : List β → Bool) (acc : List β) : feed go acc [] = (acc, true) := rfl
theorem feed_one (go : List β → Bool) (acc : List β) (y : β) : feed go acc [y] = (acc ++ [y], go (acc ++ [y])) := by
  unfold feed
  cases h : go (acc ++ [y]) <;> simp [feed]
theorem feed_append (go : List β → Bool) : ∀ (ys acc zs : List β), feed go acc (ys ++ zs) = if (feed go acc ys).2 then feed go (feed go acc ys).1 zs else feed go acc ys
  | [], acc, zs => by simp [feed]
  | y :: ys, acc, zs => by
    rw [List.cons_append]
    cases h : go (acc ++ [y])
    · simp [feed, h]
    · have := feed_append go ys (acc ++ [y]) zs
      simpa [feed, h] using this
theorem feed_on {go : List β → Bool} {ys acc a : List β} (h : feed go acc ys = (a, true)) (zs : List β) : feed go acc (ys ++ zs) = feed go a zs := by
  rw [feed_append, h]
  simp
theorem feed_off {go : List β → Bool} {ys acc a : List β} (h : feed go acc ys = (a, false)) (zs : List β) : feed go acc (ys ++ zs) = (a, false) := by
  rw [feed_append, h]
  simp
/-- At most so many. -/
def tkM (most : Int) (l : List β) : List β := if 0 < most then l.take most.toNat else l
theorem feed_len_aux (most : Int) : ∀ (ys acc : List β), (0 < most → (acc.length : Int) < most) → (feed (fun a => (a.length : Int) != most) acc ys).1 = tkM most (acc ++ ys)
  | [], acc, h => by
    unfold feed tkM
    split
    · have := h (by assumption)
      rw [List.append_nil, List.take_of_length_le (by omega)]
    · simp
  | y :: ys, acc, h => by
    unfold feed
    by_cases he : ((acc ++ [y]).length : Int) = most
    · have e : (((acc ++ [y]).length : Int) != most) = false := by simpa using he
      simp only [e]
      unfold tkM
      have h0 : 0 < most := by simp at he; omega
      rw [if_pos h0, show acc ++ y :: ys = (acc ++ [y]) ++ ys by simp, List.take_append_of_le_length (by omega), List.take_of_length_le (by omega)]
      simp
    · have e : (((acc ++ [y]).length : Int) != most) = true := by simpa using he
      simp only [e, if_true]
      rw [feed_len_aux most ys (acc ++ [y]) (fun h0 => by have := h h0; simp at he ⊢; omega)]
      simp
theorem feed_len (most : Int) (ys : List β) : (feed (fun a => (a.length : Int) != most) [] ys).1 = tkM most ys := by
  rw [feed_len_aux most ys [] (fun h => by simpa using h)]
  rfl
end

/-- How many keys a beginning of so many digits stands for. -/
def rxD (l : Nat) : Nat := 16 ^ (4 - l)
theorem rxD_step {l : Nat} (h : l ≤ 3) : rxD l = 16 * rxD (l + 1) := by
  unfold rxD
  rw [show 4 - l = (4 - (l + 1)) + 1 by omega, Nat.pow_succ, Nat.mul_comm]
theorem rxD_pos (l : Nat) : 0 < rxD l := Nat.pow_pos (by omega)
theorem rxD_4 : rxD 4 = 1 := rfl
theorem rxD_3 : rxD 3 = 16 := rfl
theorem rxD_2 : rxD 2 = 256 := rfl
theorem rxD_1 : rxD 1 = 4096 := rfl
theorem rxD_0 : rxD 0 = 65536 := rfl
theorem rxD_div {l : Nat} (h : l ≤ 3) (k : Nat) : k / rxD (l + 1) / 16 = k / rxD l := by rw [rxD_step h, Nat.div_div_eq_div_mul, Nat.mul_comm]
/-- A key's digit. -/
theorem rxD_digit {l : Nat} (h : l ≤ 3) (k : Nat) : 16 * (k / rxD l) + k / rxD (l + 1) % 16 = k / rxD (l + 1) := by
  rw [← rxD_div h]
  omega
theorem rxD_lt {l k : Nat} (hl : l ≤ 4) (h : k < 65536) : k / rxD l < 16 ^ l := by
  rw [Nat.div_lt_iff_lt_mul (rxD_pos l)]
  unfold rxD
  rw [← Nat.pow_add, show l + (4 - l) = 4 by omega]
  exact h

/-- What beginnings there are, one more, or one less. -/
def setE (ex : Nat → Nat → Bool) (l p : Nat) (b : Bool) : Nat → Nat → Bool := fun l' p' => if l' = l ∧ p' = p then b else ex l' p'
theorem setE_same (ex : Nat → Nat → Bool) (l p : Nat) (b : Bool) : setE ex l p b l p = b := by simp [setE]
theorem setE_ne {ex : Nat → Nat → Bool} {l p l' p' : Nat} {b : Bool} (h : ¬(l' = l ∧ p' = p)) : setE ex l p b l' p' = ex l' p' := by
  unfold setE
  rw [if_neg h]
theorem setE_id {ex : Nat → Nat → Bool} {l p : Nat} {b : Bool} (h : ex l p = b) : setE ex l p b = ex := by
  funext l' p'
  unfold setE
  split
  · rename_i hh
    rw [hh.1, hh.2, h]
  · rfl

theorem countP_one {n i : Nat} {g g' : Nat → Bool} (hi : i < n) (h0 : g i = false) (h1 : g' i = true) (hne : ∀ j, j < n → j ≠ i → g' j = g j) : (List.range n).countP g' = (List.range n).countP g + 1 := by
  induction n with
  | zero => omega
  | succ n ih =>
    rw [List.range_succ, List.countP_append, List.countP_append]
    rcases Nat.lt_or_ge i n with h | h
    · rw [ih h fun j hj hne' => hne j (by omega) hne']
      have : g' n = g n := hne n (by omega) (by omega)
      simp [List.countP_singleton, this]
      omega
    · obtain rfl : i = n := by omega
      have e : (List.range i).countP g' = (List.range i).countP g := by
        refine List.countP_congr fun j hj => ?_
        rw [List.mem_range] at hj
        rw [hne j (by omega) (by omega)]
      rw [e]
      simp [h0, h1]
theorem countP_same {n : Nat} {g g' : Nat → Bool} (h : ∀ j, j < n → g' j = g j) : (List.range n).countP g' = (List.range n).countP g :=
  List.countP_congr fun j hj => by rw [h j (List.mem_range.1 hj)]

/-- How many go on behind a beginning. -/
def kids (ex : Nat → Nat → Bool) (l p : Nat) : Nat := (List.range 16).countP fun d => ex (l + 1) (16 * p + d)
/-- How many beginnings of so many digits there are. -/
def rxCntL (ex : Nat → Nat → Bool) (l : Nat) : Nat := (List.range (16 ^ l)).countP (ex l)
/-- How many nodes. -/
def cntN (ex : Nat → Nat → Bool) : Nat := rxCntL ex 0 + rxCntL ex 1 + rxCntL ex 2 + rxCntL ex 3

theorem rxCntL_ne {ex : Nat → Nat → Bool} {l p l' : Nat} {b : Bool} (h : l' ≠ l) : rxCntL (setE ex l p b) l' = rxCntL ex l' :=
  countP_same fun _ _ => setE_ne fun hh => h hh.1
theorem rxCntL_up {ex : Nat → Nat → Bool} {l p : Nat} (hp : p < 16 ^ l) (h : ex l p = false) : rxCntL (setE ex l p true) l = rxCntL ex l + 1 :=
  countP_one hp h (setE_same _ _ _ _) fun _ _ hne => setE_ne fun hh => hne hh.2
theorem rxCntL_down {ex : Nat → Nat → Bool} {l p : Nat} (hp : p < 16 ^ l) (h : ex l p = true) : rxCntL ex l = rxCntL (setE ex l p false) l + 1 :=
  countP_one hp (setE_same _ _ _ _) h fun _ _ hne => (setE_ne fun hh => hne hh.2).symm
theorem cntN_up {ex : Nat → Nat → Bool} {l p : Nat} (hl : l ≤ 3) (hp : p < 16 ^ l) (h : ex l p = false) : cntN (setE ex l p true) = cntN ex + 1 := by
  unfold cntN
  have := rxCntL_up hp h
  have hh : ∀ l', l' ≠ l → rxCntL (setE ex l p true) l' = rxCntL ex l' := fun l' h => rxCntL_ne h
  rcases (by omega : l = 0 ∨ l = 1 ∨ l = 2 ∨ l = 3) with rfl | rfl | rfl | rfl
  · rw [hh 1 (by omega), hh 2 (by omega), hh 3 (by omega)]
    omega
  · rw [hh 0 (by omega), hh 2 (by omega), hh 3 (by omega)]
    omega
  · rw [hh 0 (by omega), hh 1 (by omega), hh 3 (by omega)]
    omega
  · rw [hh 0 (by omega), hh 1 (by omega), hh 2 (by omega)]
    omega
theorem cntN_down {ex : Nat → Nat → Bool} {l p : Nat} (hl : l ≤ 3) (hp : p < 16 ^ l) (h : ex l p = true) : cntN ex = cntN (setE ex l p false) + 1 := by
  have e : setE (setE ex l p false) l p true = ex := by
    funext l' p'
    unfold setE
    split
    · rename_i hh
      rw [hh.1, hh.2, h]
    · rfl
  have := cntN_up (ex := setE ex l p false) hl hp (setE_same _ _ _ _)
  rwa [e] at this
theorem cntN_4 {ex : Nat → Nat → Bool} {p : Nat} {b : Bool} : cntN (setE ex 4 p b) = cntN ex := by
  unfold cntN
  have hh : ∀ l', l' ≠ 4 → rxCntL (setE ex 4 p b) l' = rxCntL ex l' := fun l' h => rxCntL_ne h
  rw [hh 0 (by omega), hh 1 (by omega), hh 2 (by omega), hh 3 (by omega)]
theorem kids_ne {ex : Nat → Nat → Bool} {l q l' p : Nat} {b : Bool} (h : ¬(l' + 1 = l ∧ p = q / 16)) : kids (setE ex l q b) l' p = kids ex l' p :=
  countP_same fun d hd => setE_ne fun hh => h ⟨hh.1, by omega⟩
theorem kids_up {ex : Nat → Nat → Bool} {l q : Nat} (h : ex (l + 1) q = false) : kids (setE ex (l + 1) q true) l (q / 16) = kids ex l (q / 16) + 1 := by
  have e : 16 * (q / 16) + q % 16 = q := by omega
  exact countP_one (i := q % 16) (by omega) (by rw [e]; exact h) (by rw [e]; exact setE_same _ _ _ _) fun d hd hne => setE_ne fun hh => hne (by omega)
theorem kids_down {ex : Nat → Nat → Bool} {l q : Nat} (h : ex (l + 1) q = true) : kids ex l (q / 16) = kids (setE ex (l + 1) q false) l (q / 16) + 1 := by
  have e : 16 * (q / 16) + q % 16 = q := by omega
  exact countP_one (i := q % 16) (by omega) (by rw [e]; exact setE_same _ _ _ _) (by rw [e]; exact h) fun d hd hne => (setE_ne fun hh => hne (by omega)).symm
theorem kids_pos {ex : Nat → Nat → Bool} {l p : Nat} : 0 < kids ex l p ↔ ∃ d, d < 16 ∧ ex (l + 1) (16 * p + d) = true := by
  unfold kids
  rw [List.countP_pos_iff]
  simp
theorem kids_le (ex : Nat → Nat → Bool) (l p : Nat) : kids ex l p ≤ 16 := by
  have := List.countP_le_length (p := fun d => ex (l + 1) (16 * p + d)) (l := List.range 16)
  simpa [kids] using this

/-- Which beginnings a function's keys have. -/
def Full {α : Type} (ex : Nat → Nat → Bool) (f : Nat → Option α) : Prop := ∀ l p, l ≤ 4 → (ex l p = true ↔ ∃ k, f k ≠ none ∧ k / rxD l = p)
section
variable {α : Type} {ex : Nat → Nat → Bool} {f : Nat → Option α}
theorem Full.key (h : Full ex f) (k : Nat) : ex 4 k = (f k).isSome := by
  rw [Bool.eq_iff_iff, h 4 k (by omega)]
  constructor
  · rintro ⟨j, h1, h2⟩
    rw [rxD_4, Nat.div_one] at h2
    subst h2
    cases hf : f j
    · exact absurd hf h1
    · rfl
  · intro h1
    refine ⟨k, fun e => ?_, by rw [rxD_4, Nat.div_one]⟩
    rw [e] at h1
    cases h1
theorem Full.up (h : Full ex f) {l q : Nat} (hl : l ≤ 3) (hq : ex (l + 1) q = true) : ex l (q / 16) = true := by
  obtain ⟨k, h1, h2⟩ := (h (l + 1) q (by omega)).1 hq
  exact (h l _ (by omega)).2 ⟨k, h1, by rw [← h2, rxD_div hl]⟩
theorem Full.down (h : Full ex f) {l p : Nat} (hl : l ≤ 3) (hp : ex l p = true) : ∃ q, q / 16 = p ∧ ex (l + 1) q = true := by
  obtain ⟨k, h1, h2⟩ := (h l p (by omega)).1 hp
  exact ⟨k / rxD (l + 1), by rw [rxD_div hl, h2], (h (l + 1) _ (by omega)).2 ⟨k, h1, rfl⟩⟩
theorem Full.nil : Full (fun _ _ => false) fun _ => (none : Option α) := fun l p _ => by simp
/-- The beginnings of a key, so many digits long at most, too. -/
def addP (ex : Nat → Nat → Bool) (key j : Nat) : Nat → Nat → Bool := fun l p => ex l p || (decide (l ≤ j) && decide (p = key / rxD l))
theorem addP_step (ex : Nat → Nat → Bool) (key j : Nat) : addP ex key (j + 1) = setE (addP ex key j) (j + 1) (key / rxD (j + 1)) true := by
  funext l p
  unfold addP setE
  by_cases h1 : l = j + 1 ∧ p = key / rxD (j + 1)
  · rw [if_pos h1]
    simp [h1.1, h1.2]
  · rw [if_neg h1]
    congr 1
    rw [Bool.eq_iff_iff]
    simp
    intro h3
    constructor
    · intro h2
      rcases Nat.lt_or_ge j l with h4 | h4
      · obtain rfl : l = j + 1 := by omega
        exact absurd ⟨rfl, h3⟩ h1
      · exact h4
    · intro h2
      omega
theorem addP_zero (ex : Nat → Nat → Bool) (key : Nat) : addP ex key 0 = setE ex 0 (key / rxD 0) true := by
  funext l p
  unfold addP setE
  by_cases h1 : l = 0 ∧ p = key / rxD 0
  · rw [if_pos h1]
    simp [h1.1, h1.2]
  · rw [if_neg h1, Bool.or_eq_left_iff_imp]
    intro h2
    simp at h2
    obtain ⟨rfl, h3⟩ := h2
    exact absurd ⟨rfl, h3⟩ h1
theorem addP_new {ex : Nat → Nat → Bool} {key j l p : Nat} (h : j < l) : addP ex key j l p = ex l p := by
  unfold addP
  rw [decide_eq_false (by omega : ¬ l ≤ j)]
  simp
theorem addP_has {ex : Nat → Nat → Bool} {key j l : Nat} (h : l ≤ j) : addP ex key j l (key / rxD l) = true := by
  unfold addP
  rw [decide_eq_true h]
  simp
theorem Full.add (h : Full ex f) (key : Nat) (v : α) : Full (addP ex key 4) (updF f key (some v)) := by
  intro l p hl
  unfold addP updF
  simp only [Bool.or_eq_true, Bool.and_eq_true, decide_eq_true_eq, h l p hl]
  constructor
  · rintro (⟨k, h1, h2⟩ | ⟨_, h1⟩)
    · refine ⟨k, ?_, h2⟩
      split
      · simp
      · exact h1
    · exact ⟨key, by simp, h1.symm⟩
  · rintro ⟨k, h1, h2⟩
    split at h1
    · subst k
      exact .inr ⟨hl, h2.symm⟩
    · exact .inl ⟨k, h1, h2⟩
/-- The beginnings of a key, longer than so many digits, no more. -/
def rmP (ex : Nat → Nat → Bool) (key j : Nat) : Nat → Nat → Bool := fun l p => ex l p && !(decide (j < l) && decide (p = key / rxD l))
theorem rmP_step {ex : Nat → Nat → Bool} {key j : Nat} : rmP ex key j = setE (rmP ex key (j + 1)) (j + 1) (key / rxD (j + 1)) false := by
  funext l p
  unfold rmP setE
  by_cases h1 : l = j + 1 ∧ p = key / rxD (j + 1)
  · rw [if_pos h1]
    simp [h1.1, h1.2]
  · rw [if_neg h1]
    congr 2
    rw [Bool.eq_iff_iff]
    simp
    intro h3
    constructor
    · intro h2
      rcases Nat.lt_or_ge (j + 1) l with h4 | h4
      · exact h4
      · obtain rfl : l = j + 1 := by omega
        exact absurd ⟨rfl, h3⟩ h1
    · intro h2
      omega
theorem rmP_old {ex : Nat → Nat → Bool} {key j l p : Nat} (h : l ≤ j) : rmP ex key j l p = ex l p := by
  unfold rmP
  rw [decide_eq_false (by omega : ¬ j < l)]
  simp
/-- The node of so many digits has another key's way: so it stays, and all above. -/
theorem Full.rm (h : Full ex f) {key l : Nat} (hl : l ≤ 3) (ho : ∀ k, f k ≠ none → k ≠ key → k / rxD (l + 1) ≠ key / rxD (l + 1)) (hk : kids (rmP ex key l) l (key / rxD l) ≠ 0) : Full (rmP ex key l) (updF f key none) := by
  obtain ⟨d, hd, hx⟩ := kids_pos.1 (Nat.pos_of_ne_zero hk)
  unfold rmP at hx
  simp only [Bool.and_eq_true, Bool.not_eq_true', Bool.and_eq_false_iff, decide_eq_false_iff_not] at hx
  obtain ⟨h1, h2⟩ := hx
  have h3 : 16 * (key / rxD l) + d ≠ key / rxD (l + 1) := by
    rcases h2 with h2 | h2
    · omega
    · exact h2
  obtain ⟨k0, h4, h5⟩ := (h (l + 1) _ (by omega)).1 h1
  have hne : k0 ≠ key := by
    rintro rfl
    omega
  intro l' p hl'
  unfold rmP updF
  simp only [Bool.and_eq_true, Bool.not_eq_true', Bool.and_eq_false_iff, decide_eq_false_iff_not, h l' p hl']
  have hup : ∀ j, j ≤ l → k0 / rxD j = key / rxD j := by
    have hl1 : k0 / rxD l = key / rxD l := by
      rw [← rxD_div hl, h5]
      omega
    intro j hj
    have e : rxD j = rxD l * 16 ^ (l - j) := by
      unfold rxD
      rw [← Nat.pow_add]
      congr 1
      omega
    rw [e, ← Nat.div_div_eq_div_mul, ← Nat.div_div_eq_div_mul, hl1]
  constructor
  · rintro ⟨⟨k, h6, h7⟩, h8⟩
    by_cases hkk : k = key
    · subst hkk
      rcases h8 with h8 | h8
      · exact ⟨k0, by rw [if_neg hne]; exact h4, by rw [hup l' (by omega), h7]⟩
      · exact absurd h7.symm h8
    · exact ⟨k, by rw [if_neg hkk]; exact h6, h7⟩
  · rintro ⟨k, h6, h7⟩
    split at h6
    · exact absurd rfl h6
    · rename_i hkk
      refine ⟨⟨k, h6, h7⟩, ?_⟩
      rcases Nat.lt_or_ge l l' with h8 | h8
      · right
        intro e
        refine ho k h6 hkk ?_
        have hd : rxD (l + 1) = rxD l' * 16 ^ (l' - (l + 1)) := by
          unfold rxD
          rw [← Nat.pow_add]
          congr 1
          omega
        rw [hd, ← Nat.div_div_eq_div_mul, ← Nat.div_div_eq_div_mul, h7, e]
      · exact .inl (by omega)
/-- .. or it has none: no other key begins so. -/
theorem Full.rm_none (h : Full ex f) {key l : Nat} (hl : l ≤ 3) (ho : ∀ k, f k ≠ none → k ≠ key → k / rxD (l + 1) ≠ key / rxD (l + 1)) (hk : kids (rmP ex key l) l (key / rxD l) = 0) :
    ∀ k, f k ≠ none → k ≠ key → k / rxD l ≠ key / rxD l := by
  intro k h1 h2 h3
  have h4 := ho k h1 h2
  have h5 : 0 < kids (rmP ex key l) l (key / rxD l) := by
    refine kids_pos.2 ⟨k / rxD (l + 1) % 16, by omega, ?_⟩
    rw [← h3, rxD_digit hl]
    unfold rmP
    simp only [Bool.and_eq_true, Bool.not_eq_true', Bool.and_eq_false_iff, decide_eq_false_iff_not]
    exact ⟨(h (l + 1) _ (by omega)).2 ⟨k, h1, rfl⟩, .inr h4⟩
  omega
/-- Nothing is left. -/
theorem Full.rm_all (h : Full ex f) {key : Nat} (ho : ∀ k, f k ≠ none → k ≠ key → k / rxD 0 ≠ key / rxD 0) (hlt : ∀ k, f k ≠ none → k < 65536) (hkey : key < 65536) :
    (∀ k, updF f key none k = none) ∧ ∀ l p, l ≤ 4 → (ex l p && !decide (p = key / rxD l)) = false := by
  have hn : ∀ k, k ≠ key → f k = none := by
    intro k h1
    cases hf : f k with
    | none => rfl
    | some v =>
      have h2 : f k ≠ none := by rw [hf]; simp
      have h3 := hlt k h2
      have h4 := ho k h2 h1
      rw [rxD_0] at h4
      omega
  refine ⟨fun k => ?_, fun l p hl => ?_⟩
  · unfold updF
    split
    · rfl
    · exact hn k (by assumption)
  · rw [Bool.and_eq_false_iff]
    by_cases hp : p = key / rxD l
    · right
      simp [hp]
    · left
      cases hx : ex l p
      · rfl
      · obtain ⟨k, h1, h2⟩ := (h l p hl).1 hx
        by_cases hk : k = key
        · subst hk
          exact absurd h2.symm hp
        · exact absurd (hn k hk) h1
end
end Go.Proofs.YteifdbfaclpcdaaR
