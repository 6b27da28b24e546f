/- TreeKeeps: a tree whose numbers are taken one by one; its records, copied. -/
import Derived.Test.YteifdbfaclpcdaaRTrL
namespace Go.Proofs.YteifdbfaclpcdaaR.Rr
open Go.RowKit

structure SqAt (w : World) (base t : Nat) (f : Nat → Option Value) (n : Nat) : Prop where
  tw : TwAt w base t f n (fulB n) n
  ok : ∀ q u, f q = some u → ∃ r : Rec, u = r.v ∧ r.a ≠ 0
def Rec.cs (r : Rec) : List Value := [.int .i64 r.a, .int .i64 r.b, .int .i64 r.c, .int .u64 r.d]
def recCells (g : Nat → Rec) (k : Nat) : List Value := (List.range k).flatMap fun j => (g (j + 1)).cs
theorem recCells_succ (g : Nat → Rec) (k : Nat) : recCells g (k + 1) = recCells g k ++ (g (k + 1)).cs := by
  unfold recCells
  rw [List.range_succ, List.flatMap_append]
  simp
theorem recCells_len (g : Nat → Rec) (k : Nat) : (recCells g k).length = k * 4 := by
  induction k with
  | zero => rfl
  | succ k ih => rw [recCells_succ, List.length_append, ih]; simp [Rec.cs]; omega
theorem recCells_get (g : Nat → Rec) {k j i : Nat} (hj : j < k) (hi : i < 4) : (recCells g k)[j * 4 + i]? = (g (j + 1)).cs[i]? := by
  induction k with
  | zero => omega
  | succ k ih =>
    rw [recCells_succ]
    rcases Nat.lt_or_ge j k with h | h
    · rw [List.getElem?_append_left (by rw [recCells_len]; omega)]
      exact ih h
    · obtain rfl : j = k := by omega
      rw [List.getElem?_append_right (by rw [recCells_len]; omega), recCells_len]
      congr 1
      omega
theorem recCells_one (g : Nat → Rec) (k : Nat) : ∀ u ∈ recCells g k, u.oneCell' = true := by
  intro u hu
  unfold recCells at hu
  obtain ⟨j, _, hj⟩ := List.mem_flatMap.1 hu
  simp [Rec.cs] at hj
  rcases hj with rfl | rfl | rfl | rfl <;> rfl
section
variable {w w' : World} {base t n : Nat} {f : Nat → Option Value}
theorem SqAt.dom (h : SqAt w base t f n) (hn : n ≤ 512) (q : Nat) : f q ≠ none ↔ 1 ≤ q ∧ q ≤ n := by
  rw [h.tw.dom q]
  constructor
  · rintro ⟨j, rfl, _, h2⟩
    have : j < n := by simpa [fulB] using h2
    omega
  · intro hq
    exact ⟨q - 1, by omega, by omega, by simp [fulB]; omega⟩
theorem SqAt.at_ (h : SqAt w base t f n) (hn : n ≤ 512) : ∃ g : Nat → Rec, ∀ q, 1 ≤ q → q ≤ n → f q = some (g q).v ∧ (g q).a ≠ 0 := by
  have h1 : ∀ q, ∃ r : Rec, 1 ≤ q → q ≤ n → f q = some r.v ∧ r.a ≠ 0 := fun q => by
    cases hf : f q with
    | none => exact ⟨⟨0, 0, 0, 0⟩, fun a b => absurd hf ((h.dom hn q).2 ⟨a, b⟩)⟩
    | some u =>
      obtain ⟨r, rfl, hr⟩ := h.ok _ _ hf
      exact ⟨r, fun _ _ => ⟨rfl, hr⟩⟩
  exact ⟨fun q => (h1 q).choose, fun q => (h1 q).choose_spec⟩
theorem Kp.of_below (hb : Below w.heap.size w w') : Kp w w' := fun _ _ _ hk _ _ _ _ _ => hk.below' hb
theorem own_kp {B n : Nat} {v : Value} {xs : List Value} (h : w.ownsRow B 83 4 v n xs) (hk : Kp w w') : w'.ownsRow B 83 4 v n xs := by
  refine owns_same h fun k hb => ?_
  rcases h.2 with ⟨rfl, _⟩ | ⟨g', cap, cur, rfl, _, hh, _⟩
  · simp [Value.ownBlock] at hb
  · have : g' = k := by simpa [Value.ownBlock] using hb
    subst this
    exact (hk _ _ _ (show Bk w g' _ _ from hh) (by decide) (by decide) (by decide) (by decide) (by decide)).trans hh.symm
theorem Rec.may_a {r : Rec} (h : r.may = true) : r.a ≠ 0 := by
  unfold Rec.may at h
  simp at h
  exact h.1
theorem sqAdd (h : SqAt w base t f n) (hn : n ≤ 100) (hbase : base ≤ w.heap.size) (r : Rec) :
    Calls Try.prog 51 #[.pointer (some ⟨t, 0, none⟩), .agg #[.int .i64 r.a, .int .i64 r.b, .int .i64 r.c, .int .u64 r.d]] w fun e w' => ∃ x y : Int, e = .returned (.tuple #[.int .i64 x, .int .i64 y]) ∧ ((x = (n : Int) + 1 ∧ y = 0) ∨ y = 1) ∧
      ∃ f' n', SqAt w' base t f' n' ∧ n ≤ n' ∧ n' ≤ n + 1 ∧ (∀ q, q ≤ n → f' q = f q) ∧ Below base w w' ∧ Kp w w' := by
  cases hr : r.may
  · refine (twAddNo w _ r hr).mono ?_
    rintro e w' ⟨rfl, hB⟩
    exact ⟨0, 1, rfl, .inr rfl, f, n, ⟨h.tw.below0 hB, h.ok⟩, Nat.le_refl _, by omega, fun _ _ => rfl, hB.mono hbase, Kp.of_below hB⟩
  · have hnx : nextOf (fulB n) n = n + 1 := by
      have h1 : n % 512 = n := Nat.mod_eq_of_lt (by omega)
      have h2 := nextOf_now (f := fulB n) (last := n) (by rw [h1]; simp [fulB])
      rwa [h1] at h2
    refine (twAdd h.tw hbase r hr hnx).mono ?_
    rintro e w' ⟨rfl, hT, hB, hK⟩
    rw [fulB_succ] at hT
    refine ⟨(n : Int) + 1, 0, rfl, .inl ⟨rfl, rfl⟩, _, n + 1, ⟨hT, fun q u hq => ?_⟩, by omega, by omega, fun q hq => ?_, hB, hK⟩
    · unfold updF at hq
      split at hq
      · injection hq with hq
        exact ⟨r, hq.symm, Rec.may_a hr⟩
      · exact h.ok _ _ hq
    · unfold updF
      rw [if_neg (by omega)]
theorem r_parts : ∃ iW zW, Try.prog.info? 83 = some iW ∧ iW.zero = some zW ∧ iW.size = 4 ∧ iW.bytes = 32 ∧ zW.cells.size = 4 := by
  have h : (Try.prog.info? 83).map (fun i => (i.size, i.bytes, i.zero.map (·.cells.size))) = some (4, 32, some 4) := by kernel_rfl
  cases hi : Try.prog.info? 83 with
  | none => rw [hi] at h; cases h
  | some i =>
    rw [hi] at h
    simp only [Option.map_some, Option.some.injEq, Prod.mk.injEq] at h
    cases hz : i.zero with
    | none => rw [hz] at h; simp at h
    | some z =>
      rw [hz] at h
      exact ⟨i, z, rfl, hz, h.1, h.2.1, by simpa using h.2.2⟩
end
end Go.Proofs.YteifdbfaclpcdaaR.Rr
