/- Counts of a list of kinds: what the reference's list says of the counts. -/
import Derived.Test.YteifdbfaclpcdaaRCntSumA
namespace Go.Proofs.YteifdbfaclpcdaaR

def cntOf (x : List Int) : Nat → Nat := fun i => x.count (i : Int)
def allK (x : List Int) : Prop := ∀ k ∈ x, isK k = true
theorem cntOf_le (x : List Int) (i : Nat) : cntOf x i ≤ x.length := List.count_le_length
theorem put1_cnt (x : List Int) (k : Int) : put1 (cntOf x) k = cntOf (x ++ [k].filter isK) := by
  unfold put1
  cases h : isK k
  · simp [h]
  · obtain ⟨n, rfl, hn⟩ := isK_true h
    funext j
    have e : List.filter isK [(n : Int)] = [(n : Int)] := by simp [h]
    rw [e]
    simp only [if_true, upd, cntOf, List.count_append, List.count_singleton, Int.toNat_natCast]
    by_cases hj : j = n
    · subst hj; simp
    · simp [hj]
      omega
theorem putN_cnt (x ks : List Int) : putN (cntOf x) ks = cntOf (x ++ ks.filter isK) := by
  induction ks generalizing x with
  | nil => simp [putN]
  | cons k r ih =>
    have e : putN (cntOf x) (k :: r) = putN (put1 (cntOf x) k) r := rfl
    rw [e, put1_cnt, ih, List.append_assoc, ← List.filter_append]
    rfl
theorem allK_in {x : List Int} (h : allK x) (ks : List Int) : allK (x ++ ks.filter isK) := by
  intro k hk
  rcases List.mem_append.1 hk with hk | hk
  · exact h k hk
  · exact (List.mem_filter.1 hk).2
theorem allK_erase {x : List Int} (h : allK x) (k : Int) : allK (x.erase k) := fun j hj => h j (List.mem_of_mem_erase hj)
theorem allK_remN {x : List Int} (h : allK x) (ks : List Int) : allK (remN x ks) := by
  induction ks generalizing x with
  | nil => exact h
  | cons k r ih => exact ih (allK_erase h k)
theorem hit1_cnt {x : List Int} (hx : allK x) (k : Int) : hit1 (cntOf x) k = x.contains k := by
  unfold hit1
  cases h : isK k
  · have : k ∉ x := fun hk => by rw [hx k hk] at h; cases h
    simp [this]
  · obtain ⟨n, rfl, hn⟩ := isK_true h
    simp only [Bool.true_and, cntOf, Int.toNat_natCast, List.count_pos_iff]
    cases hc : x.contains (n : Int) <;> simp_all
theorem out1_cnt {x : List Int} (hx : allK x) (k : Int) : out1 (cntOf x) k = cntOf (x.erase k) := by
  unfold out1
  rw [hit1_cnt hx]
  cases h : x.contains k
  · have : k ∉ x := by simpa using h
    simp [List.erase_of_not_mem this]
  · have hm : k ∈ x := by simpa using h
    obtain ⟨n, rfl, hn⟩ := isK_true (hx k hm)
    funext j
    simp only [if_true, upd, cntOf, Int.toNat_natCast, List.count_erase]
    by_cases hj : j = n
    · subst hj; simp
    · simp only [hj, if_false, beq_iff_eq]
      split <;> omega
theorem outN_cnt {x : List Int} (hx : allK x) (ks : List Int) : outN (cntOf x) ks = cntOf (remN x ks) ∧ hits (cntOf x) ks = rhits x ks := by
  induction ks generalizing x with
  | nil => exact ⟨rfl, rfl⟩
  | cons k r ih =>
    have e : outN (cntOf x) (k :: r) = outN (out1 (cntOf x) k) r := rfl
    have e2 : hits (cntOf x) (k :: r) = (hit1 (cntOf x) k).toNat + hits (out1 (cntOf x) k) r := rfl
    have e3 : rhits x (k :: r) = (x.contains k).toNat + rhits (x.erase k) r := rfl
    have e4 : remN x (k :: r) = remN (x.erase k) r := rfl
    obtain ⟨h1, h2⟩ := ih (allK_erase hx k)
    rw [e, e2, e3, e4, out1_cnt hx, hit1_cnt hx, h1, h2]
    exact ⟨rfl, rfl⟩
theorem turnOk_cnt {x : List Int} (hx : allK x) (a b : Int) : turnOk (cntOf x) a b = (isK b && decide (0 < x.count a)) := by
  unfold turnOk
  cases h : isK a
  · have : a ∉ x := fun hk => by rw [hx a hk] at h; cases h
    simp [List.count_eq_zero.2 this]
  · obtain ⟨n, rfl, hn⟩ := isK_true h
    simp [cntOf]
theorem turned_cnt {x : List Int} (hx : allK x) (a b : Int) (h : turnOk (cntOf x) a b = true) : turned (cntOf x) a b = cntOf (remN x [a] ++ [b].filter isK) := by
  have h0 := h
  simp only [turnOk, Bool.and_eq_true, decide_eq_true_eq] at h0
  have e1 : out1 (cntOf x) a = upd (cntOf x) a.toNat (cntOf x a.toNat - 1) := by
    unfold out1 hit1
    simp [h0.1.1, h0.2]
  unfold turned
  rw [h, if_pos rfl, ← e1]
  have e2 : remN x [a] = x.erase a := rfl
  rw [e2, ← put1_cnt, ← out1_cnt hx]
  unfold put1
  rw [h0.1.2, if_pos rfl]
theorem turned_no {f : Nat → Nat} {a b : Int} (h : turnOk f a b = false) : turned f a b = f := by
  unfold turned
  simp [h]
theorem of1_cnt {x : List Int} (hx : allK x) (k : Int) : of1 (cntOf x) k = x.count k := by
  unfold of1
  cases h : isK k
  · have : k ∉ x := fun hk => by rw [hx k hk] at h; cases h
    simp [List.count_eq_zero.2 this]
  · obtain ⟨n, rfl, hn⟩ := isK_true h
    simp [cntOf]
def sumOf (x ks : List Int) : Nat := (ks.map fun k => x.count k).sum
theorem ofN_cnt {x : List Int} (hx : allK x) (ks : List Int) : ofN (cntOf x) ks = sumOf x ks := by
  unfold ofN sumOf
  exact congrArg List.sum (List.map_congr_left fun k _ => of1_cnt hx k)
theorem sumOf_succ (x ks : List Int) {k : Nat} (hk : k < ks.length) : sumOf x (ks.take (k + 1)) = sumOf x (ks.take k) + x.count (ks[k]?.getD 0) := by
  rw [List.take_succ_eq_append_getElem hk, sumOf, List.map_append, List.sum_append]
  simp only [sumOf, List.map_cons, List.map_nil, List.sum_cons, List.sum_nil, Nat.add_zero, List.getElem?_eq_getElem hk, Option.getD_some]
theorem sumOf_le (x ks : List Int) : sumOf x ks ≤ ks.length * x.length := by
  induction ks with
  | nil => simp [sumOf]
  | cons k r ih =>
    have e : sumOf x (k :: r) = x.count k + sumOf x r := by simp [sumOf]
    have := List.count_le_length (a := k) (l := x)
    rw [e, List.length_cons, Nat.succ_mul]
    omega
theorem cnt_nil : cntOf [] = fun _ => 0 := rfl
theorem remN_one_len {x : List Int} {a : Int} (h : 0 < x.count a) : (remN x [a]).length + 1 ≤ x.length := by
  have e2 : remN x [a] = x.erase a := rfl
  have hm : a ∈ x := List.count_pos_iff.1 h
  have := List.length_pos_of_mem hm
  rw [e2, List.length_erase_of_mem hm]
  omega
end Go.Proofs.YteifdbfaclpcdaaR
