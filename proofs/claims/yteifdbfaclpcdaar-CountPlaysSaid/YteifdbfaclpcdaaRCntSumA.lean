/- Sums of counts. -/
import Derived.Test.YteifdbfaclpcdaaRCntBack
namespace Go.Proofs.YteifdbfaclpcdaaR

def tot (f : Nat → Nat) (n : Nat) : Nat := ((List.range n).map f).sum
theorem tot_succ (f : Nat → Nat) (n : Nat) : tot f (n + 1) = tot f n + f n := by
  simp [tot, List.range_succ, List.sum_append]
theorem tot_upd_out (f : Nat → Nat) (k v n : Nat) (h : n ≤ k) : tot (upd f k v) n = tot f n := by
  unfold tot
  rw [List.map_congr_left fun i hi => ?_]
  have := List.mem_range.1 hi
  simp only [upd]
  rw [if_neg (by omega)]
theorem tot_upd (f : Nat → Nat) (k v n : Nat) (h : k < n) : tot (upd f k v) n + f k = tot f n + v := by
  induction n with
  | zero => omega
  | succ n ih =>
    rw [tot_succ, tot_succ]
    by_cases hk : k = n
    · subst hk
      rw [tot_upd_out _ _ _ _ (Nat.le_refl _)]
      simp only [upd, if_true]
      omega
    · have h1 := ih (by omega)
      have h2 : upd f k v n = f n := by simp only [upd]; rw [if_neg (by omega)]
      rw [h2]
      omega
theorem tot_le {f : Nat → Nat} {M : Nat} (h : ∀ i, f i ≤ M) (n : Nat) : tot f n ≤ n * M := by
  induction n with
  | zero => simp [tot]
  | succ n ih => rw [tot_succ, Nat.succ_mul]; have := h n; omega
theorem isK_lt {k : Int} (h : isK k = true) : k.toNat < 16 := by
  obtain ⟨n, rfl, hn⟩ := isK_true h
  simpa using hn
theorem tot_put1 (f : Nat → Nat) (k : Int) : tot (put1 f k) 16 = tot f 16 + (isK k).toNat := by
  unfold put1
  cases h : isK k
  · simp
  · have h1 := tot_upd f k.toNat (f k.toNat + 1) 16 (isK_lt h)
    simp only [if_true, Bool.toNat_true]
    omega
theorem tot_putN (f : Nat → Nat) (ks : List Int) : tot (putN f ks) 16 = tot f 16 + valid ks := by
  induction ks generalizing f with
  | nil => simp [putN, valid]
  | cons k r ih =>
    have e : putN f (k :: r) = putN (put1 f k) r := rfl
    rw [e, ih, tot_put1]
    simp only [valid, List.filter_cons]
    cases isK k <;> simp <;> omega
theorem tot_out1 (f : Nat → Nat) (k : Int) : tot (out1 f k) 16 + (hit1 f k).toNat = tot f 16 := by
  unfold out1
  cases h : hit1 f k
  · simp
  · simp only [hit1, Bool.and_eq_true, decide_eq_true_eq] at h
    have h1 := tot_upd f k.toNat (f k.toNat - 1) 16 (isK_lt h.1)
    simp only [if_true, Bool.toNat_true]
    omega
theorem tot_outN (f : Nat → Nat) (ks : List Int) : tot (outN f ks) 16 + hits f ks = tot f 16 := by
  induction ks generalizing f with
  | nil => simp [outN, hits]
  | cons k r ih =>
    have e : outN f (k :: r) = outN (out1 f k) r := rfl
    have e2 : hits f (k :: r) = (hit1 f k).toNat + hits (out1 f k) r := rfl
    have h1 := ih (out1 f k)
    have h2 := tot_out1 f k
    rw [e, e2]
    omega
theorem tot_turned (f : Nat → Nat) (a b : Int) : tot (turned f a b) 16 = tot f 16 := by
  unfold turned
  cases h : turnOk f a b
  · simp
  · simp only [turnOk, Bool.and_eq_true, decide_eq_true_eq] at h
    obtain ⟨⟨ha, hb⟩, h0⟩ := h
    have h1 := tot_upd f a.toNat (f a.toNat - 1) 16 (isK_lt ha)
    have h2 := tot_upd (upd f a.toNat (f a.toNat - 1)) b.toNat (upd f a.toNat (f a.toNat - 1) b.toNat + 1) 16 (isK_lt hb)
    simp only [if_true]
    omega
theorem upd_le {f : Nat → Nat} {M : Nat} (h : ∀ i, f i ≤ M) (k v : Nat) (hv : v ≤ M) : ∀ i, upd f k v i ≤ M := fun i => by
  unfold upd
  split
  · exact hv
  · exact h i
theorem turned_le {f : Nat → Nat} {M : Nat} (h : ∀ i, f i ≤ M) (a b : Int) : ∀ i, turned f a b i ≤ M + 1 := by
  unfold turned
  split
  · have h1 := upd_le h a.toNat (f a.toNat - 1) (by have := h a.toNat; omega)
    exact upd_le (fun i => Nat.le_succ_of_le (h1 i)) _ _ (by have := h1 b.toNat; omega)
  · exact fun i => Nat.le_succ_of_le (h i)
theorem of_one (f : Nat → Nat) {k : Nat} (hk : k < 16) : ofN f [(k : Int)] = f k := by
  have h : isK (k : Int) = true := by simp [isK]; omega
  simp [ofN, of1, h]
end Go.Proofs.YteifdbfaclpcdaaR
