/- What the laws ask of the document, and TokenGrows. -/
import Derived.Test.YtckdellcnoojaaaRRRTokD
namespace Go.Proofs.YtckdellcnoojaaaRRR
open Go.RowKit

theorem lv_grow : growL ([97, 98] ++ []) (2 : Int).toNat (4 : Int).toNat = [97, 98, 97, 98, 97, 98] := by decide +kernel
def lvA (n : Nat) : Tk := ⟨some ⟨n, 0, none⟩, 2, [97, 98], 0, 0⟩
def lvB : Tk := ⟨none, 0, [], 4, 2⟩
theorem lv_put (n : Nat) : putAll [lvA n, lvB] = [1, 97, 98, 129, 2, 0] := by
  show putT [97, 98] 0 0 ++ (putT [] 4 2 ++ []) = _
  decide +kernel

theorem lv_at (w : World) : TksAt ((w.alloc (.cells #[.int .u8 97, .int .u8 98] 5 (2, 3))).alloc (.cells #[.slice (some ⟨w.heap.size, 0, none⟩) 2 2, .int .i64 0, .int .i64 0, .slice none 0 0, .int .i64 4, .int .i64 2] 24)) (w.heap.size + 2) (some ⟨w.heap.size + 1, 0, none⟩) [lvA w.heap.size, lvB] := by
  have hc : ∀ k v, (#[.slice (some ⟨w.heap.size, 0, none⟩) 2 2, .int .i64 0, .int .i64 0, .slice none 0 0, .int .i64 4, .int .i64 2] : Array Value)[k]? = some v → ((w.alloc (.cells #[.int .u8 97, .int .u8 98] 5 (2, 3))).alloc (.cells #[.slice (some ⟨w.heap.size, 0, none⟩) 2 2, .int .i64 0, .int .i64 0, .slice none 0 0, .int .i64 4, .int .i64 2] 24)).cell? ⟨w.heap.size + 1, k, none⟩ = some v := fun k v hk => by
    have e : w.heap.size + 1 = (w.alloc (.cells #[.int .u8 97, .int .u8 98] 5 (2, 3))).heap.size := by simp
    rw [e, World.cell?_alloc_mark]
    exact hk
  intro i t ht
  rcases i with _ | _ | i
  · simp at ht
    subst ht
    exact ⟨_, 0, rfl, by omega, hc 0 _ rfl, hc 1 _ rfl, hc 2 _ rfl, ((rd_const w [97, 98] rfl 5 (2, 3)).below ((Below.refl _ _).alloc (by simp) _)).more (Nat.le_succ _)⟩
  · simp at ht
    subst ht
    exact ⟨_, 0, rfl, by omega, hc 3 _ rfl, hc 4 _ rfl, hc 5 _ rfl, RdY.nil _ _ _⟩
  · simp at ht

set_option maxRecDepth 100000 in
set_option maxHeartbeats 1000000 in
theorem tokLives (w : World) : Calls Try.prog 18 #[] w fun e w' => e = .returned (.bool true) ∧ Below w.heap.size w w' := by
  have kc := run_const
  go_enter Try.func18, Try.ntmps18
  go_wp2_with fail
  refine (tPut_any (c := 2) (lv_at w) (by simp) (by simp) (by simp [lvA, lvB])).mono ?_
  rintro e w1 ⟨hB1, ⟨A1, c1, rfl, hO1, -⟩ | ⟨_, t, ht, hm⟩⟩
  · have hb1 : Below w.heap.size w w1 := (((Below.refl _ _).alloc (Nat.le_refl _) _).alloc (by simp) _).trans (hB1.mono (by simp; omega))
    have hO : OwnY w1 w.heap.size (.slice A1 (putAll [lvA w.heap.size, lvB]).length c1) (putAll [lvA w.heap.size, lvB]) := hO1.weaken (by simp; omega)
    rw [lv_put] at hO ⊢
    clear hO1 hB1
    go_wp2_with fail
    have hb2 : Below w1.heap.size w1 (w1.alloc (.cells #[.int .u8 97, .int .u8 98] 5 (2, 3))) := (Below.refl _ _).alloc (Nat.le_refl _) _
    refine (tGrow_yes (c := 2) (c2 := 0) (l := []) (A2 := none) (B2 := 0) (rd_const w1 [97, 98] rfl 5 (2, 3)) (by simp) (RdY.nil _ _ _) (by simp) (by simp) (by decide) (by simp)).mono ?_
    rw [lv_grow]
    rintro e w2 ⟨A2, c2, rfl, hO2, hB2⟩
    have hb3 : Below w1.heap.size w1 w2 := hb2.trans (hB2.mono (by simp))
    have e1 : (convert 22 9 (.slice A1 6 c1)).run Try.prog w2 = .ok (.string ⟨#[1, 97, 98, 129, 2, 0]⟩) w2 := run_string (c := c1) (hO.below hb3).rd
    have e2 : (convert 22 9 (.slice A2 6 c2)).run Try.prog w2 = .ok (.string ⟨#[97, 98, 97, 98, 97, 98]⟩) w2 := run_string (c := c2) hO2.rd
    go_wp2
    go_ret
    exact ⟨rfl, hb1.trans (hb3.mono hb1.size)⟩
  · simp only [List.mem_cons, List.not_mem_nil, or_false] at ht
    rcases ht with rfl | rfl <;> exact absurd hm (by simp [Tk.may, lvA, lvB, mayT])

/-- Why bytes don't grow by a token, or 0. -/
def growErr (b : Nat) (l : Nat) (n d : Int) : Nat := if mayT l n d then (if (b : Int) < d then 3 else 0) else 1
def growTo (b l : List UInt8) (n d : Int) : List UInt8 := if growErr b.length l.length n d = 0 then growL (b ++ l) d.toNat n.toNat else []

theorem tGrow_any {w : World} {B B2 : Nat} {A A2 : Option Addr} {c c2 : Nat} {b l : List UInt8} {n d : Int} (h : RdY w B A b) (hB : B ≤ w.heap.size) (h2 : RdY w B2 A2 l) (hB2 : B2 ≤ w.heap.size) (hl : b.length ≤ 10000) (hl2 : l.length ≤ 300) :
    Calls Try.prog 19 #[.slice A b.length c, .agg #[.slice A2 l.length c2, .int .i64 n, .int .i64 d]] w fun e w' => ∃ A' c', e = .returned (.tuple #[.slice A' (growTo b l n d).length c', .int .i64 (growErr b.length l.length n d)]) ∧ OwnY w' w.heap.size (.slice A' (growTo b l n d).length c') (growTo b l n d) ∧ Below w.heap.size w w' := by
  rcases hm : mayT l.length n d
  · refine (tGrow_no (by omega) hm).mono ?_
    rintro e w' ⟨rfl, hb⟩
    have e1 : growErr b.length l.length n d = 1 := by simp [growErr, hm]
    have e2 : growTo b l n d = [] := by simp [growTo, e1]
    rw [e1, e2]
    exact ⟨none, 0, rfl, OwnY.nil _ _, hb⟩
  · rcases Int.lt_or_le (b.length : Int) d with hd | hd
    · refine (tGrow_far (by omega) hm hd).mono ?_
      rintro e w' ⟨rfl, hb⟩
      have e1 : growErr b.length l.length n d = 3 := by simp [growErr, hm, hd]
      have e2 : growTo b l n d = [] := by simp [growTo, e1]
      rw [e1, e2]
      exact ⟨none, 0, rfl, OwnY.nil _ _, hb⟩
    · refine (tGrow_yes h hB h2 hB2 hl hm hd).mono ?_
      rintro e w' ⟨A', c', rfl, hO, hb⟩
      have e1 : growErr b.length l.length n d = 0 := by simp [growErr, hm]; omega
      have e2 : growTo b l n d = growL (b ++ l) d.toNat n.toNat := by simp [growTo, e1]
      rw [e1, e2]
      exact ⟨A', c', rfl, hO, hb⟩
theorem rGrow_any {w : World} {B B2 : Nat} {A A2 : Option Addr} {c c2 : Nat} {b l : List UInt8} {n d : Int} (h : RdY w B A b) (hB : B ≤ w.heap.size) (h2 : RdY w B2 A2 l) (hB2 : B2 ≤ w.heap.size) (hl : b.length ≤ 10000) :
    Calls Try.prog 20 #[.slice A b.length c, .agg #[.slice A2 l.length c2, .int .i64 n, .int .i64 d]] w fun e w' => ∃ A' c', e = .returned (.tuple #[.slice A' (growTo b l n d).length c', .int .i64 (growErr b.length l.length n d)]) ∧ OwnY w' w.heap.size (.slice A' (growTo b l n d).length c') (growTo b l n d) ∧ Below w.heap.size w w' := by
  rcases hm : mayT l.length n d
  · refine (rGrow_no hm).mono ?_
    rintro e w' ⟨rfl, hb⟩
    have e1 : growErr b.length l.length n d = 1 := by simp [growErr, hm]
    have e2 : growTo b l n d = [] := by simp [growTo, e1]
    rw [e1, e2]
    exact ⟨none, 0, rfl, OwnY.nil _ _, hb⟩
  · rcases Int.lt_or_le (b.length : Int) d with hd | hd
    · refine (rGrow_far hm hd).mono ?_
      rintro e w' ⟨rfl, hb⟩
      have e1 : growErr b.length l.length n d = 3 := by simp [growErr, hm, hd]
      have e2 : growTo b l n d = [] := by simp [growTo, e1]
      rw [e1, e2]
      exact ⟨none, 0, rfl, OwnY.nil _ _, hb⟩
    · refine (rGrow_yes h hB h2 hB2 hl hm hd).mono ?_
      rintro e w' ⟨A', c', rfl, hO, hb⟩
      have e1 : growErr b.length l.length n d = 0 := by simp [growErr, hm]; omega
      have e2 : growTo b l n d = growL (b ++ l) d.toNat n.toNat := by simp [growTo, e1]
      rw [e1, e2]
      exact ⟨A', c', rfl, hO, hb⟩

set_option maxRecDepth 100000 in
set_option maxHeartbeats 1000000 in
theorem tgrows_great (w : World) (A A2 : Option Addr) (m c m2 c2 : Nat) (n d : Int) (hl : 5000 < m ∨ (m ≤ 5000 ∧ 300 < m2)) :
    Calls Try.prog 3 #[.slice A m c, .agg #[.slice A2 m2 c2, .int .i64 n, .int .i64 d]] w fun e w' => e = .returned (.bool true) ∧ Below w.heap.size w w' := by
  have hT : Below w.heap.size w (w.alloc (.cells #[.slice A2 m2 c2, .int .i64 n, .int .i64 d] 24)) := (Below.refl _ _).alloc (Nat.le_refl _) _
  rcases hl with h | ⟨h, h2⟩
  · have hli : (5000 : Int) < m := by omega
    go_enter Try.func3, Try.ntmps3
    go_wp2_with (go_at_call 18; refine (tokLives _).mono ?_; rintro x w7 ⟨rfl, hB7⟩)
    go_ret
    exact ⟨rfl, hT.trans (hB7.mono (by simp))⟩
  · have hli : (m : Int) ≤ 5000 := by omega
    have HG : Hid (∀ W, Calls Try.prog 17 #[.agg #[.slice A2 m2 c2, .int .i64 n, .int .i64 d]] W fun e w' => e = .returned (.bool true) ∧ Below W.heap.size W w') := fun W => by
      have := tGreat_any W A2 m2 c2 n d
      rwa [decide_eq_true h2] at this
    go_enter Try.func3, Try.ntmps3
    go_wp2_with (first
      | (go_at_call 17; refine (HG.out _).mono ?_; rintro x w6 ⟨rfl, hB6⟩)
      | (go_at_call 18; refine (tokLives _).mono ?_; rintro x w7 ⟨rfl, hB7⟩))
    go_ret
    exact ⟨rfl, (hT.trans (hB6.mono (by simp))).trans (hB7.mono (by have := hB6.size; simp at this; omega))⟩

set_option maxRecDepth 100000 in
set_option maxHeartbeats 2000000 in
theorem tgrows_any {w : World} {A A2 : Option Addr} {c c2 : Nat} {b l : List UInt8} {n d : Int} (h : RdY w w.heap.size A b) (h2 : RdY w w.heap.size A2 l) (hl : b.length ≤ 5000) (hl2 : l.length ≤ 300) :
    Calls Try.prog 3 #[.slice A b.length c, .agg #[.slice A2 l.length c2, .int .i64 n, .int .i64 d]] w fun e w' => e = .returned (.bool true) ∧ Below w.heap.size w w' := by
  have hli : (b.length : Int) ≤ 5000 := by omega
  have HTop : Hid (Bk (w.alloc (.cells #[.slice A2 l.length c2, .int .i64 n, .int .i64 d] 24)) w.heap.size 24 #[.slice A2 l.length c2, .int .i64 n, .int .i64 d]) := Bk.new _ _ _
  have hT : Below w.heap.size w (w.alloc (.cells #[.slice A2 l.length c2, .int .i64 n, .int .i64 d] 24)) := (Below.refl _ _).alloc (Nat.le_refl _) _
  have HG : Hid (∀ W, Calls Try.prog 17 #[.agg #[.slice A2 l.length c2, .int .i64 n, .int .i64 d]] W fun e w' => e = .returned (.bool false) ∧ Below W.heap.size W w') := fun W => by
    have := tGreat_any W A2 l.length c2 n d
    rwa [decide_eq_false (by omega)] at this
  have HA := Lib.hid h
  have HA2 := Lib.hid h2
  have HT := Lib.hid hT
  clear h h2 hT
  go_enter Try.func3, Try.ntmps3
  go_upto_region 3 with (go_at_call 17; refine (HG.out _).mono ?_; rintro x w1 ⟨rfl, hB1⟩)
  have hb1 : Below w.heap.size w w1 := HT.out.trans (hB1.mono (by simp))
  have hT1 := HTop.out.below' hB1
  have hszz : w.heap.size < w1.heap.size := hT1.lt
  have hf0 : w1.cell? ⟨w.heap.size, 0, none⟩ = some (.slice A2 l.length c2) := Bk.cell hT1 0
  have hf1 : w1.cell? ⟨w.heap.size, 1, none⟩ = some (.int .i64 n) := Bk.cell hT1 1
  have hf2 : w1.cell? ⟨w.heap.size, 2, none⟩ = some (.int .i64 d) := Bk.cell hT1 2
  have hr1 := HA.out.below hb1
  have e1 := run_string (c := c) hr1
  have HR1 := Lib.hid hr1
  have HL1 := Lib.hid (HA2.out.below hb1)
  have hsz1 := hb1.size
  clear hB1 hr1 HTop HT HG
  go_upto_region 5 with (go_at_call 19; refine (tGrow_any HR1.out hsz1 HL1.out hsz1 (by omega) hl2).mono ?_; rintro x w2 ⟨A3, c3, rfl, hO2, hB2⟩)
  have hb2 : Below w.heap.size w w2 := hb1.trans (hB2.mono hsz1)
  have hT2 := hT1.below' hB2
  have hf0 : w2.cell? ⟨w.heap.size, 0, none⟩ = some (.slice A2 l.length c2) := Bk.cell hT2 0
  have hf1 : w2.cell? ⟨w.heap.size, 1, none⟩ = some (.int .i64 n) := Bk.cell hT2 1
  have hf2 : w2.cell? ⟨w.heap.size, 2, none⟩ = some (.int .i64 d) := Bk.cell hT2 2
  have HR2 := Lib.hid (HA.out.below hb2)
  have HL2 := Lib.hid (HA2.out.below hb2)
  have hsz2 := hb2.size
  clear hb1 hT1 hB2 e1 HR1 HL1
  go_upto_region 6 with (go_at_call 20; refine (rGrow_any HR2.out hsz2 HL2.out hsz2 (by omega)).mono ?_; rintro x w3 ⟨A4, c4, rfl, hO3, hB3⟩)
  have hb3 : Below w.heap.size w w3 := hb2.trans (hB3.mono hsz2)
  have hr3 := HA.out.below hb3
  have e1 := run_string (c := c) hr3
  have HO2 := Lib.hid (hO2.below hB3).rd
  have HO3 := Lib.hid hO3.rd
  generalize growTo b l n d = G at *
  generalize growErr b.length l.length n d = E at *
  clear hb2 hB3 hr3 HR2 HL2 hO2 hO3
  have HBy : Hid (Calls Try.prog 21 #[.slice A3 G.length c3, .slice A4 G.length c4] w3 fun e w' => e = .returned (.bool true) ∧ w3 = w') := by
    have := refBytes_any (c := c3) (c2 := c4) HO2.out HO3.out
    rwa [show (G == G) = true from beq_self_eq_true G] at this
  go_wp2_with (first
    | (go_at_call 21; refine HBy.out.mono ?_; rintro x w4 ⟨rfl, rfl⟩)
    | (go_at_call 18; refine (tokLives _).mono ?_; rintro x w7 ⟨rfl, hB7⟩))
  go_ret
  exact ⟨rfl, hb3.trans (hB7.mono hb3.size)⟩
end Go.Proofs.YtckdellcnoojaaaRRR
