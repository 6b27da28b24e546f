/- Radix: a tree and the document's list, side by side; lives. -/
import Derived.Test.YteifdbfaclpcdaaRRuT
namespace Go.Proofs.YteifdbfaclpcdaaR.Ru
open Go.RowKit

def inK (key : Int) : Bool := decide (0 ≤ key ∧ key < 65536)
def setF (f : Nat → Option Value) (key : Int) (x : Value) : Nat → Option Value := if inK key then updF f key.toNat (some x) else f
def newK (f : Nat → Option Value) (key : Int) : Nat := if inK key && (f key.toNat).isNone then 1 else 0
def dropF (f : Nat → Option Value) (key : Int) : Nat → Option Value := if (getF f key).isSome then updF f key.toNat none else f
/-- Blocks of other types stay. -/
def Kp (w w' : World) : Prop := ∀ b t cs, Bk w b t cs → t ≠ 102 → t ≠ 109 → Bk w' b t cs
theorem Kp.below0 {w w' : World} (h : Below w.heap.size w w') : Kp w w' := fun _ _ _ hb _ _ => hb.below' h
structure Both (w0 w : World) (g : Nat) (f : Nat → Option Value) (n : Nat) (v : Value) (L : Ks) (f' : Nat → Option Value) : Prop where
  tr : ∃ ex nd, RxAt w w0.heap.size g ex nd f n
  ks : KAt w w0.heap.size v L
  ls : Lists L f'
  below : Below w0.heap.size w0 w
section
variable {w0 w w' : World} {g n : Nat} {f f' : Nat → Option Value} {v : Value} {L : Ks}
theorem Lists.pos (h : Lists L f) (k : Nat) (hk : f k ≠ none) : L.length ≠ 0 := by
  cases hf : f k with
  | none => exact absurd hf hk
  | some x =>
    have := (h.mem k x).2 hf
    intro h0
    rw [List.length_eq_zero_iff] at h0
    rw [h0] at this
    cases this
theorem Both.below0 (h : Both w0 w g f n v L f') (hb : Below w.heap.size w w') : Both w0 w' g f n v L f' := by
  obtain ⟨ex, nd, hT⟩ := h.tr
  exact ⟨⟨ex, nd, hT.below0 hb⟩, h.ks.below hb, h.ls, h.below.trans (hb.mono h.below.size)⟩
theorem Both.trS (h : Both w0 w g f n v L f') {ex : Nat → Nat → Bool} {nd : Nat → Nat → Nat} (hT : RxAt w w0.heap.size g ex nd f n) (hF : Fr (TrS g ex nd) w w') : KAt w' w0.heap.size v L ∧ Below w0.heap.size w0 w' ∧ Kp w w' := by
  refine ⟨h.ks.fr hF fun k _ _ hk hs => ?_, h.below.trans (hF.below h.below.size fun k hk hs => ?_), fun b t cs hbk h1 h2 => hbk.fr hF fun hs => ?_⟩
  · obtain ⟨cs, hbk⟩ := hk
    rcases hs with rfl | ⟨l, p, hl, hp, rfl⟩
    · exact hbk.ne hT.tr.top (by decide) rfl
    · obtain ⟨cs', hb'⟩ := (hT.tr.node l p hl hp).ty
      exact hbk.ne hb' (by decide) rfl
  · rcases hs with rfl | ⟨l, p, hl, hp, rfl⟩
    · have := hT.tr.lo
      omega
    · have := hT.tr.loN l p hl hp
      omega
  · rcases hs with rfl | ⟨l, p, hl, hp, rfl⟩
    · exact hbk.ne hT.tr.top h1 rfl
    · obtain ⟨cs', hb'⟩ := (hT.tr.node l p hl hp).ty
      exact hbk.ne hb' h2 rfl
theorem bNew (w : World) : Calls Try.prog 26 #[] w fun e w' => ∃ g, e = .returned (.pointer (some ⟨g, 0, none⟩)) ∧ Both w w' g (fun _ => none) 0 (.slice none 0 0) [] (fun _ => none) := by
  refine (rNew w).mono ?_
  rintro e w' ⟨g, rfl, hg, hb, hB⟩
  refine ⟨g, rfl, ⟨fun _ _ => false, fun _ _ => 0, ⟨?_, fun l p hl hp => (by cases hp), fun k u hk _ => (by cases hk), fun l p l' p' _ _ h1 _ _ => (by cases h1), hg, fun l p _ hp => (by cases hp)⟩, Full.nil, fun k hk => absurd rfl hk, fun k u hu => (by cases hu)⟩, KAt.nil _ _, Lists.nil, hB⟩
  have hz0 : cntN (fun _ _ => false) = 0 := by decide +kernel
  rw [hz0]
  exact hb
theorem bTSet (h : Both w0 w g f n v L f') (key : Int) {x : Value} (hx : VOk x) (hn : n ≤ 1000000) :
    Calls Try.prog 27 #[.pointer (some ⟨g, 0, none⟩), .int .i64 key, x] w fun e w' => e = .returned (.bool (inK key)) ∧ Both w0 w' g (setF f key x) (n + newK f key) v L f' ∧ Kp w w' := by
  by_cases hk : 0 ≤ key ∧ key < 65536
  · have hi : inK key = true := decide_eq_true hk
    obtain ⟨k, rfl⟩ := Int.eq_ofNat_of_zero_le hk.1
    obtain ⟨ex, nd, hT⟩ := h.tr
    refine (rSet hT (by omega) hx hn).mono ?_
    rintro e w' ⟨rfl, ex', nd', hT', hF⟩
    obtain ⟨h1, h2, h3⟩ := h.trS hT hF
    refine ⟨by rw [hi], ⟨⟨ex', nd', ?_⟩, h1, h.ls, h2⟩, h3⟩
    have e1 : setF f (k : Int) x = updF f k (some x) := by
      unfold setF
      rw [if_pos hi, Int.toNat_natCast]
    have e2 : newK f (k : Int) = if f k = none then 1 else 0 := by
      unfold newK
      rw [hi, Int.toNat_natCast]
      cases f k <;> simp
    rw [e1, e2]
    exact hT'
  · have hi : inK key = false := decide_eq_false hk
    obtain ⟨y, rfl⟩ := hx
    refine (rSetNo w (some ⟨g, 0, none⟩) y (.inr ⟨⟨g, rfl⟩, hk⟩)).mono ?_
    rintro e w' ⟨rfl, hB⟩
    refine ⟨by rw [hi], ?_⟩
    have e1 : setF f key (.int .u64 y) = f := by
      unfold setF
      rw [hi]
      rfl
    have e2 : newK f key = 0 := by
      unfold newK
      rw [hi]
      rfl
    rw [e1, e2]
    exact ⟨h.below0 hB, Kp.below0 hB⟩
theorem bKSet {A : Option Addr} {c : Nat} (h : Both w0 w g f n (.slice A L.length c) L f') (hl : L.length ≤ 1000) (key : Int) {x : Value} (hx : VOk x) :
    Calls Try.prog 28 #[.slice A L.length c, .int .i64 key, x] w fun e w' => ∃ (A' : Option Addr) (c' : Nat) (L' : Ks), e = .returned (.tuple #[.slice A' L'.length c', .bool (inK key)]) ∧ L'.length = L.length + newK f' key ∧ Both w0 w' g f n (.slice A' L'.length c') L' (setF f' key x) ∧ Kp w w' := by
  by_cases hk : 0 ≤ key ∧ key < 65536
  · have hi : inK key = true := decide_eq_true hk
    obtain ⟨k, rfl⟩ := Int.eq_ofNat_of_zero_le hk.1
    refine (kSet h.ks h.below.size h.ls hl (by omega : k < 65536) hx).mono ?_
    rintro e w' ⟨A', c', L', rfl, hK, hL, hlen, hB⟩
    have e1 : setF f' (k : Int) x = updF f' k (some x) := by
      unfold setF
      rw [if_pos hi, Int.toNat_natCast]
    have e2 : newK f' (k : Int) = if f' k = none then 1 else 0 := by
      unfold newK
      rw [hi, Int.toNat_natCast]
      cases f' k <;> simp
    have h2 := h.below0 hB
    refine ⟨A', c', L', by rw [hi], by rw [e2]; exact hlen, ⟨h2.tr, hK, by rw [e1]; exact hL, h2.below⟩, Kp.below0 hB⟩
  · have hi : inK key = false := decide_eq_false hk
    refine (kSetNo w A L.length c key x (by omega)).mono ?_
    rintro e w' ⟨rfl, rfl⟩
    have e1 : setF f' key x = f' := by
      unfold setF
      rw [hi]
      rfl
    have e2 : newK f' key = 0 := by
      unfold newK
      rw [hi]
      rfl
    exact ⟨A, c, L, by rw [hi], by rw [e2]; rfl, by rw [e1]; exact h, fun _ _ _ h _ _ => h⟩
theorem bTDrop (h : Both w0 w g f n v L f') (key : Int) (hn : n ≤ 1000000) (hp : ∀ k, f k ≠ none → n ≠ 0) :
    Calls Try.prog 47 #[.pointer (some ⟨g, 0, none⟩), .int .i64 key] w fun e w' => e = .returned (.tuple #[(getF f key).getD vZero, .bool (getF f key).isSome]) ∧ Both w0 w' g (dropF f key) (if (getF f key).isSome then n - 1 else n) v L f' ∧ Kp w w' := by
  obtain ⟨ex, nd, hT⟩ := h.tr
  refine (rDrop hT key hn hp).mono ?_
  rintro e w' ⟨rfl, ex', nd', hT', hF⟩
  obtain ⟨h1, h2, h3⟩ := h.trS hT hF
  exact ⟨rfl, ⟨⟨ex', nd', hT'⟩, h1, h.ls, h2⟩, h3⟩
theorem bKDrop {A : Option Addr} {c : Nat} (h : Both w0 w g f n (.slice A L.length c) L f') (hl : L.length ≤ 1000) (key : Int) :
    Calls Try.prog 46 #[.slice A L.length c, .int .i64 key] w fun e w' => ∃ (A' : Option Addr) (c' : Nat) (L' : Ks), e = .returned (.tuple #[.slice A' L'.length c', (getF f' key).getD vZero, .bool (getF f' key).isSome]) ∧ L'.length = (if (getF f' key).isSome then L.length - 1 else L.length) ∧ Both w0 w' g f n (.slice A L.length c) L f' ∧ Both w0 w' g f n (.slice A' L'.length c') L' (dropF f' key) ∧ Kp w w' := by
  refine (kDrop h.ks h.below.size h.ls hl key).mono ?_
  rintro e w' ⟨hB, ⟨hn, rfl⟩ | ⟨A', c', L', k, u, rfl, hf, rfl, hK, hL, hlen⟩⟩
  · have e1 : dropF f' key = f' := by
      unfold dropF
      rw [hn]
      rfl
    refine ⟨A, c, L, by rw [hn]; rfl, by rw [hn]; rfl, h.below0 hB, by rw [e1]; exact h.below0 hB, Kp.below0 hB⟩
  · have hg : getF f' (k : Int) = some u := by rw [getF_nat, hf]
    have e1 : dropF f' (k : Int) = updF f' k none := by
      unfold dropF
      rw [hg, Int.toNat_natCast]
      rfl
    have h2 := h.below0 hB
    refine ⟨A', c', L', by rw [hg]; rfl, by rw [hg]; simp only [Option.isSome_some, if_true]; omega, h2, ⟨h2.tr, hK, by rw [e1]; exact hL, h2.below⟩, Kp.below0 hB⟩
theorem bTGet (h : Both w0 w g f n v L f') (key : Int) :
    Calls Try.prog 43 #[.pointer (some ⟨g, 0, none⟩), .int .i64 key] w fun e w' => e = .returned (.tuple #[(getF f key).getD vZero, .bool (getF f key).isSome]) ∧ Both w0 w' g f n v L f' ∧ Kp w w' := by
  obtain ⟨ex, nd, hT⟩ := h.tr
  refine (rGet hT key).mono ?_
  rintro e w' ⟨rfl, hB⟩
  exact ⟨rfl, h.below0 hB, Kp.below0 hB⟩
theorem bTLen (h : Both w0 w g f n v L f') : Calls Try.prog 44 #[.pointer (some ⟨g, 0, none⟩)] w fun e w' => e = .returned (.int .i64 n) ∧ w = w' := by
  obtain ⟨ex, nd, hT⟩ := h.tr
  exact (rLen hT.tr).mono fun _ _ ⟨h1, h2⟩ => ⟨h1, h2.symm⟩
theorem bTNodes (h : Both w0 w g f n v L f) : Calls Try.prog 45 #[.pointer (some ⟨g, 0, none⟩)] w fun e w' => e = .returned (.int .i64 (cntN (exL (L.map (·.1))) : Nat)) ∧ w = w' := by
  obtain ⟨ex, nd, hT⟩ := h.tr
  rw [h.ls.nodes hT.full]
  exact (rNodes hT.tr).mono fun _ _ ⟨h1, h2⟩ => ⟨h1, h2.symm⟩
theorem bKNodes {A : Option Addr} {c : Nat} (h : Both w0 w g f n (.slice A L.length c) L f') (hl : L.length ≤ 1000) : Calls Try.prog 48 #[.slice A L.length c] w fun e w' => e = .returned (.int .i64 (cntN (exL (L.map (·.1))) : Nat)) ∧ Below w.heap.size w w' :=
  kNodes h.ks.krd hl (fun e he => h.ls.lt e.1 (by rw [(h.ls.mem e.1 e.2).1 he]; simp)) h.ls.keys

def f2 : Nat → Option Value := updF (updF (fun _ => none) 3 (some (.int .u64 1))) 20 (some (.int .u64 2))
theorem f2_lists : Lists [(3, Value.int .u64 1), (20, .int .u64 2)] f2 := by
  refine ⟨by simp [Rising], fun k u => ?_, fun k hk => ?_⟩
  · unfold f2 updF
    by_cases h20 : k = 20
    · subst h20
      simp [eq_comm]
    · by_cases h3 : k = 3
      · subst h3
        simp [eq_comm]
      · simp [h20, h3]
  · unfold f2 updF at hk
    by_cases h20 : k = 20
    · omega
    · rw [if_neg h20] at hk
      by_cases h3 : k = 3
      · omega
      · rw [if_neg h3] at hk
        exact absurd rfl hk
set_option maxRecDepth 100000 in
theorem rxLives (w : World) : Calls Try.prog 25 #[] w fun e w' => e = .returned (.bool true) ∧ Below w.heap.size w w' := by
  go_enter Try.func25, Try.ntmps25
  go_wp2_with fail
  refine (bNew w).mono ?_
  rintro e w1 ⟨g, rfl, h1⟩
  have H1 := Lib.hid h1
  clear h1
  go_wp2_with fail
  refine (bTSet H1.out 3 ⟨1, rfl⟩ (by omega)).mono ?_
  rintro e w2 ⟨rfl, h2, -⟩
  have H2 := Lib.hid h2
  have hi : inK 3 = true := by decide
  clear h2
  go_wp2_with fail
  refine (bTSet H2.out 20 ⟨2, rfl⟩ (by unfold newK; split <;> omega)).mono ?_
  rintro e w3 ⟨rfl, h3, -⟩
  have e2 : setF (setF (fun _ => none) 3 (.int .u64 1)) 20 (.int .u64 2) = f2 := rfl
  have e3 : 0 + newK (fun _ => none) 3 + newK (setF (fun _ => none) 3 (.int .u64 1)) 20 = 2 := by decide
  rw [e2, e3] at h3
  have h4 : Both w w3 g f2 2 (.slice none 0 0) [] (fun _ => none) := h3
  obtain ⟨ex, nd, hT⟩ := h4.tr
  have hc : cntN ex = 5 := by
    rw [← f2_lists.nodes hT.full]
    decide +kernel
  have HLn := Lib.hid (bTLen h4)
  have HNd := Lib.hid (rNodes hT.tr)
  rw [hc] at HNd
  have HB := Lib.hid h4.below
  have hi2 : inK 20 = true := by decide
  clear h3 h4 hT hc e2 e3 H1 H2
  go_wp2_with (first
    | (go_at_call 44; refine HLn.out.mono ?_; rintro x w7 ⟨rfl, rfl⟩)
    | (go_at_call 45; refine HNd.out.mono ?_; rintro x w7 ⟨rfl, hw7⟩; subst hw7))
  go_ret
  exact ⟨rfl, HB.out⟩
end
end Go.Proofs.YteifdbfaclpcdaaR.Ru
