/- The token at a place: any; whether tokens are the same; TokenTakes. -/
import Derived.Test.YtckdellcnoojaaaRRRTokH
namespace Go.Proofs.YtckdellcnoojaaaRRR
open Go.RowKit

/-- The token at a place of bytes: its bytes, length and distance, where it ends, why there is none. -/
structure TakeR where
  lit : List UInt8
  n : Int
  d : Int
  fin : Int
  err : Int
def takeF (b : List UInt8) (a : Int) : TakeR :=
  if a < 0 ∨ (b.length : Int) ≤ a then ⟨[], 0, 0, 0, 4⟩
  else if (b[a.toNat]?.getD 0).toNat < 128 then
    (if b.length < a.toNat + 1 + (b[a.toNat]?.getD 0).toNat + 1 then ⟨[], 0, 0, 0, 4⟩
     else ⟨(b.drop (a.toNat + 1)).take ((b[a.toNat]?.getD 0).toNat + 1), 0, 0, (a.toNat + (b[a.toNat]?.getD 0).toNat + 2 : Nat), 0⟩)
  else if b.length < a.toNat + 3 then ⟨[], 0, 0, 0, 4⟩
  else if getN b (a.toNat + 1) 2 < 1 ∨ 4095 < getN b (a.toNat + 1) 2 then ⟨[], 0, 0, 0, 3⟩
  else ⟨[], ((b[a.toNat]?.getD 0).toNat : Int) - 125, getN b (a.toNat + 1) 2, (a.toNat + 3 : Nat), 0⟩

theorem tTake_any {w : World} {B : Nat} {A : Option Addr} {c : Nat} {l : List UInt8} (h : RdY w B A l) (hB : B ≤ w.heap.size) (hl : l.length ≤ 1000000) (hcap : l.length ≤ c) (a : Int) :
    Calls Try.prog 36 #[.slice A l.length c, .int .i64 a] w fun e w' => ∃ A' c', e = .returned (.tuple #[.agg #[.slice A' (takeF l a).lit.length c', .int .i64 (takeF l a).n, .int .i64 (takeF l a).d], .int .i64 (takeF l a).fin, .int .i64 (takeF l a).err]) ∧ RdY w' w'.heap.size A' (takeF l a).lit ∧ Below w.heap.size w w' := by
  by_cases h1 : a < 0 ∨ (l.length : Int) ≤ a
  · rw [show takeF l a = ⟨[], 0, 0, 0, 4⟩ by unfold takeF; rw [if_pos h1]]
    refine (tTake_out w A l.length c a (by omega)).mono ?_
    rintro e w' ⟨rfl, hb⟩
    exact ⟨none, 0, rfl, RdY.nil _ _ _, hb⟩
  · obtain ⟨i, rfl⟩ := Int.eq_ofNat_of_zero_le (show 0 ≤ a by omega)
    have hi : i < l.length := by omega
    obtain ⟨ad, rfl, _, _⟩ := h.at_ hi
    obtain ⟨g, o, rfl⟩ := h.spot (by omega)
    have e0 : takeF l (i : Int) = if (l[i]?.getD 0).toNat < 128 then (if l.length < i + 1 + (l[i]?.getD 0).toNat + 1 then ⟨[], 0, 0, 0, 4⟩ else ⟨(l.drop (i + 1)).take ((l[i]?.getD 0).toNat + 1), 0, 0, (i + (l[i]?.getD 0).toNat + 2 : Nat), 0⟩) else if l.length < i + 3 then ⟨[], 0, 0, 0, 4⟩ else if getN l (i + 1) 2 < 1 ∨ 4095 < getN l (i + 1) 2 then ⟨[], 0, 0, 0, 3⟩ else ⟨[], ((l[i]?.getD 0).toNat : Int) - 125, getN l (i + 1) 2, (i + 3 : Nat), 0⟩ := by
      unfold takeF
      rw [if_neg h1]
      rfl
    have hx := byte_le (l[i]?.getD 0)
    obtain ⟨x, hxx⟩ : ∃ x, (l[i]?.getD 0).toNat = x := ⟨_, rfl⟩
    rw [hxx] at e0 hx
    by_cases h2 : x < 128
    · rw [if_pos h2] at e0
      by_cases h3 : l.length < i + 1 + x + 1
      · rw [e0, if_pos h3]
        refine (tTake_short h hB hl i x hi hxx h2 h3).mono ?_
        rintro e w' ⟨rfl, hb⟩
        exact ⟨none, 0, rfl, RdY.nil _ _ _, hb⟩
      · rw [e0, if_neg h3]
        refine (tTake_lit h hB hcap i x hi hxx h2 (by omega) hl).mono ?_
        rintro e w' ⟨A', c', rfl, hr, hb⟩
        have hlen : ((l.drop (i + 1)).take (x + 1)).length = x + 1 := by rw [List.length_take, List.length_drop]; omega
        exact ⟨A', c', by rw [hlen], hr, hb⟩
    · rw [if_neg h2] at e0
      by_cases h3 : l.length < i + 3
      · rw [e0, if_pos h3]
        refine (tTake_short2 h hB hl i x hi hxx (by omega) hx h3).mono ?_
        rintro e w' ⟨rfl, hb⟩
        exact ⟨none, 0, rfl, RdY.nil _ _ _, hb⟩
      · rw [if_neg h3] at e0
        by_cases h4 : getN l (i + 1) 2 < 1 ∨ 4095 < getN l (i + 1) 2
        · rw [e0, if_pos h4]
          refine (tTake_form h hB hl i x hxx (by omega) hx (by omega) h4).mono ?_
          rintro e w' ⟨rfl, hb⟩
          exact ⟨none, 0, rfl, RdY.nil _ _ _, hb⟩
        · rw [e0, if_neg h4]
          refine (tTake_copy h hB hl i x hxx (by omega) hx (by omega) (by omega) (by omega)).mono ?_
          rintro e w' ⟨rfl, hb⟩
          exact ⟨none, 0, rfl, RdY.nil _ _ _, hb⟩
theorem rTake_any {w : World} {B : Nat} {A : Option Addr} {c : Nat} {l : List UInt8} (h : RdY w B A l) (hB : B ≤ w.heap.size) (hl : l.length ≤ 1000000) (hcap : l.length ≤ c) (a : Int) :
    Calls Try.prog 37 #[.slice A l.length c, .int .i64 a] w fun e w' => ∃ A' c', e = .returned (.tuple #[.agg #[.slice A' (takeF l a).lit.length c', .int .i64 (takeF l a).n, .int .i64 (takeF l a).d], .int .i64 (takeF l a).fin, .int .i64 (takeF l a).err]) ∧ RdY w' w'.heap.size A' (takeF l a).lit ∧ Below w.heap.size w w' := by
  by_cases h1 : a < 0 ∨ (l.length : Int) ≤ a
  · rw [show takeF l a = ⟨[], 0, 0, 0, 4⟩ by unfold takeF; rw [if_pos h1]]
    refine (rTake_out w A l.length c a (by omega)).mono ?_
    rintro e w' ⟨rfl, hb⟩
    exact ⟨none, 0, rfl, RdY.nil _ _ _, hb⟩
  · obtain ⟨i, rfl⟩ := Int.eq_ofNat_of_zero_le (show 0 ≤ a by omega)
    have hi : i < l.length := by omega
    obtain ⟨ad, rfl, _, _⟩ := h.at_ hi
    obtain ⟨g, o, rfl⟩ := h.spot (by omega)
    have e0 : takeF l (i : Int) = if (l[i]?.getD 0).toNat < 128 then (if l.length < i + 1 + (l[i]?.getD 0).toNat + 1 then ⟨[], 0, 0, 0, 4⟩ else ⟨(l.drop (i + 1)).take ((l[i]?.getD 0).toNat + 1), 0, 0, (i + (l[i]?.getD 0).toNat + 2 : Nat), 0⟩) else if l.length < i + 3 then ⟨[], 0, 0, 0, 4⟩ else if getN l (i + 1) 2 < 1 ∨ 4095 < getN l (i + 1) 2 then ⟨[], 0, 0, 0, 3⟩ else ⟨[], ((l[i]?.getD 0).toNat : Int) - 125, getN l (i + 1) 2, (i + 3 : Nat), 0⟩ := by
      unfold takeF
      rw [if_neg h1]
      rfl
    have hx := byte_le (l[i]?.getD 0)
    obtain ⟨x, hxx⟩ : ∃ x, (l[i]?.getD 0).toNat = x := ⟨_, rfl⟩
    rw [hxx] at e0 hx
    by_cases h2 : x < 128
    · rw [if_pos h2] at e0
      by_cases h3 : l.length < i + 1 + x + 1
      · rw [e0, if_pos h3]
        refine (rTake_short h hB i x hi hxx h2 h3).mono ?_
        rintro e w' ⟨rfl, hb⟩
        exact ⟨none, 0, rfl, RdY.nil _ _ _, hb⟩
      · rw [e0, if_neg h3]
        refine (rTake_lit h hB hcap i x hi hxx h2 (by omega) hl).mono ?_
        rintro e w' ⟨c', rfl, hb⟩
        have hlen : ((l.drop (i + 1)).take (x + 1)).length = x + 1 := by rw [List.length_take, List.length_drop]; omega
        have hr := (((h.below' hb hB).more (Nat.le_trans hB hb.size)).drop (i + 1)).take (x + 1)
        exact ⟨some ⟨g, o + (i + 1), none⟩, c', by rw [hlen], by simpa [off_add] using hr, hb⟩
    · rw [if_neg h2] at e0
      by_cases h3 : l.length < i + 3
      · rw [e0, if_pos h3]
        refine (rTake_short2 h hB i x hi hxx (by omega) hx h3).mono ?_
        rintro e w' ⟨rfl, hb⟩
        exact ⟨none, 0, rfl, RdY.nil _ _ _, hb⟩
      · rw [if_neg h3] at e0
        by_cases h4 : getN l (i + 1) 2 < 1 ∨ 4095 < getN l (i + 1) 2
        · rw [e0, if_pos h4]
          refine (rTake_form h hB hl i x hxx (by omega) hx (by omega) (by omega)).mono ?_
          rintro e w' ⟨rfl, hb⟩
          exact ⟨none, 0, rfl, RdY.nil _ _ _, hb⟩
        · rw [e0, if_neg h4]
          refine (rTake_copy h hB hl i x hxx (by omega) hx (by omega) (by omega) (by omega)).mono ?_
          rintro e w' ⟨rfl, hb⟩
          exact ⟨none, 0, rfl, RdY.nil _ _ _, hb⟩

set_option maxRecDepth 100000 in
set_option maxHeartbeats 1000000 in
/-- A token is the same as itself, wherever its bytes lie. -/
theorem rSame_yes {w : World} {B B2 : Nat} {A A2 : Option Addr} {c c2 : Nat} {l : List UInt8} {n d : Int} (h : RdY w B A l) (hB : B ≤ w.heap.size) (h2 : RdY w B2 A2 l) (hB2 : B2 ≤ w.heap.size) :
    Calls Try.prog 38 #[.agg #[.slice A l.length c, .int .i64 n, .int .i64 d], .agg #[.slice A2 l.length c2, .int .i64 n, .int .i64 d]] w fun e w' => e = .returned (.bool true) ∧ Below w.heap.size w w' := by
  have hb1 : Below w.heap.size w (w.alloc (.cells #[.slice A l.length c, .int .i64 n, .int .i64 d] 32)) := (Below.refl _ _).alloc (Nat.le_refl _) _
  have hb2 : Below w.heap.size w ((w.alloc (.cells #[.slice A l.length c, .int .i64 n, .int .i64 d] 32)).alloc (.cells #[.slice A2 l.length c2, .int .i64 n, .int .i64 d] 32)) := hb1.alloc (by simp) _
  have e1 := run_string (c := c) (h.below' hb2 hB)
  have e2 := run_string (c := c2) (h2.below' hb2 hB2)
  have HB := Lib.hid hb2
  clear h h2 hb1 hb2
  go_enter Try.func38, Try.ntmps38
  go_wp2
  go_ret
  exact ⟨rfl, HB.out⟩

set_option maxRecDepth 100000 in
set_option maxHeartbeats 1000000 in
theorem ttakes_great (w : World) (A : Option Addr) (m c : Nat) (a : Int) (hl : 1000 < m) :
    Calls Try.prog 8 #[.slice A m c, .int .i64 a] w fun e w' => e = .returned (.bool true) ∧ Below w.heap.size w w' := by
  have hli : (1000 : Int) < m := by omega
  go_enter Try.func8, Try.ntmps8
  go_wp2_with (go_at_call 18; refine (tokLives _).mono ?_; rintro x w7 ⟨rfl, hB7⟩)
  go_ret
  exact ⟨rfl, hB7⟩

set_option maxRecDepth 100000 in
set_option maxHeartbeats 2000000 in
theorem ttakes_any {w : World} {A : Option Addr} {c : Nat} {l : List UInt8} (h : RdY w w.heap.size A l) (hcap : l.length ≤ c) (hl : l.length ≤ 1000) (a : Int) :
    Calls Try.prog 8 #[.slice A l.length c, .int .i64 a] w fun e w' => e = .returned (.bool true) ∧ Below w.heap.size w w' := by
  have hli : (l.length : Int) ≤ 1000 := by omega
  have HT := Lib.hid (tTake_any (c := c) h (Nat.le_refl _) (by omega) hcap a)
  have HR := Lib.hid (fun W (hb : Below w.heap.size w W) => rTake_any (w := W) (c := c) (h.below hb) hb.size (by omega) hcap a)
  generalize takeF l a = r at *
  clear h
  go_enter Try.func8, Try.ntmps8
  go_upto_region 4 with (go_at_call 36; refine HT.out.mono ?_; rintro x w1 ⟨A1, c1, rfl, hr1, hb1⟩)
  have hbk1 : Bk (w1.alloc (.cells #[.slice A1 r.lit.length c1, .int .i64 r.n, .int .i64 r.d] 24)) w1.heap.size 24 #[.slice A1 r.lit.length c1, .int .i64 r.n, .int .i64 r.d] := Bk.new _ _ _
  have hb2 : Below w.heap.size w (w1.alloc (.cells #[.slice A1 r.lit.length c1, .int .i64 r.n, .int .i64 r.d] 24)) := hb1.alloc hb1.size _
  have hr2 := hr1.below ((Below.refl w1.heap.size w1).alloc (Nat.le_refl _) (.cells #[.slice A1 r.lit.length c1, .int .i64 r.n, .int .i64 r.d] 24))
  have HR2 := Lib.hid (HR.out _ hb2)
  have HK1 := Lib.hid hbk1
  have HB2 := Lib.hid hb2
  have HY2 := Lib.hid hr2
  have HS1 := Lib.hid hb1.size
  clear hbk1 hb2 hr2 HR hr1 hb1
  go_upto_region 5 with (go_at_call 37; refine HR2.out.mono ?_; rintro x w3 ⟨A3, c3, rfl, hr3, hb3⟩)
  have hk3 := (HK1.out.below' hb3).below' ((Below.refl w3.heap.size w3).alloc (Nat.le_refl _) (.cells #[.slice A3 r.lit.length c3, .int .i64 r.n, .int .i64 r.d] 32))
  have hb4 : Below w.heap.size w (w3.alloc (.cells #[.slice A3 r.lit.length c3, .int .i64 r.n, .int .i64 r.d] 32)) := (HB2.out.trans (hb3.mono HB2.out.size)).alloc (Nat.le_trans HB2.out.size hb3.size) _
  obtain ⟨f0, f1, f2⟩ := Bk3 hk3
  have HS := Lib.hid (rSame_yes (c := c1) (c2 := c3) (n := r.n) (d := r.d) (((HY2.out.below' hb3 (by simp)).more (Nat.le_trans (by simp) hb3.size)).below ((Below.refl w3.heap.size w3).alloc (Nat.le_refl _) (.cells #[.slice A3 r.lit.length c3, .int .i64 r.n, .int .i64 r.d] 32))) (by simp) (hr3.below ((Below.refl w3.heap.size w3).alloc (Nat.le_refl _) (.cells #[.slice A3 r.lit.length c3, .int .i64 r.n, .int .i64 r.d] 32))) (by simp))
  clear hk3 hr3 hb3
  go_wp2_with (first
    | (go_at_call 38; refine HS.out.mono ?_; rintro x w5 ⟨rfl, hB5⟩)
    | (go_at_call 18; refine (tokLives _).mono ?_; rintro x w7 ⟨rfl, hB7⟩))
  go_ret
  exact ⟨rfl, (hb4.trans (hB5.mono hb4.size)).trans (hB7.mono (Nat.le_trans hb4.size hB5.size))⟩
end Go.Proofs.YtckdellcnoojaaaRRR
