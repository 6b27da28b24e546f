/- The reference gunnyref22: numbers by value, 514 cells; what Next tells of them. -/
import Derived.Test.YteifdbfaclpcdaaREntD
import Derived.Test.YteifdbfaclpcdaaRGyArr
namespace Go.Proofs.YteifdbfaclpcdaaR
open Go.RowKit

/-- The cells of numbers by value. -/
def refCells (r : Nat → Bool) (last : Nat) : Array Value := (((List.range 513).map fun k => Value.bool (r k)) ++ [Value.int .i64 last]).toArray
theorem refCells_bit (r : Nat → Bool) (last : Nat) {k : Nat} (hk : k < 513) : (refCells r last)[k]? = some (.bool (r k)) := by
  simp [refCells, List.getElem?_append, hk]
theorem refCells_last (r : Nat → Bool) (last : Nat) : (refCells r last)[513]? = some (.int .i64 last) := by
  simp [refCells]
theorem refCells_size (r : Nat → Bool) (last : Nat) : (refCells r last).size = 514 := by simp [refCells]
theorem refCells_one (r : Nat → Bool) (last : Nat) : ∀ v ∈ (refCells r last).toList, v.oneCell' = true := by
  intro v hv
  simp only [refCells, List.mem_append, List.mem_map, List.mem_singleton] at hv
  rcases hv with ⟨k, _, rfl⟩ | rfl <;> rfl
theorem refCells_set (r : Nat → Bool) (last k : Nat) (b : Bool) (hk : k < 513) : (refCells r last).setIfInBounds k (.bool b) = refCells (updB r k b) last := by
  apply Array.ext'
  simp only [refCells, List.setIfInBounds_toArray]
  apply List.ext_getElem?
  intro i
  rw [List.getElem?_set]
  simp only [List.length_append, List.length_map, List.length_range, List.getElem?_append, List.getElem?_map, updB]
  by_cases hi : i < 513
  · by_cases hki : k = i
    · subst hki; simp [hi]; omega
    · simp [hi, hki, Ne.symm hki]
  · simp [hi, show ¬ k = i by omega]
theorem refCells_setLast (r : Nat → Bool) (last v : Nat) : (refCells r last).setIfInBounds 513 (.int .i64 v) = refCells r v := by
  apply Array.ext'
  simp only [refCells, List.setIfInBounds_toArray]
  apply List.ext_getElem?
  intro i
  rw [List.getElem?_set]
  simp only [List.length_append, List.length_map, List.length_range, List.getElem?_append, List.getElem?_map]
  by_cases hi : i < 513
  · simp [hi]; omega
  · by_cases h2 : i = 513
    · subst h2; simp
    · have h3 : ¬ 513 = i := fun e => h2 e.symm
      rw [if_neg h3]
      simp only [hi, if_false]
      rw [List.getElem?_eq_none (by simp; omega), List.getElem?_eq_none (by simp; omega)]
/-- The reference's numbers are f's. -/
def refOf (f : Nat → Bool) : Nat → Bool := fun k => decide (1 ≤ k) && f (k - 1)

theorem ref_info : (Try.prog.info? 62).map (·.size) = some 514 := by kernel_rfl

set_option maxRecDepth 100000 in
set_option maxHeartbeats 1000000 in
theorem refNext_any (w : World) (f : Nat → Bool) (last : Nat) (hl : last ≤ 512) :
    Calls Try.prog 41 #[.agg (refCells (refOf f) last)] w fun x w' => x = .returned (.int .i64 (nextOf f last)) ∧ Below w.heap.size w w' := by
  have hb : Bk (w.alloc (.cells (refCells (refOf f) last) 62)) w.heap.size 62 (refCells (refOf f) last) := Bk.new _ _ _
  have hc1 := (Bk.cell hb 513).trans (refCells_last _ _)
  have HB := Lib.hid hb
  clear hb
  go_enter Try.func41, Try.ntmps41
  go_wp2
  go_loop [3] (fun k => ∃ n : Nat, last ≤ n ∧ n ≤ 512 ∧ k = .int .i64 ((n : Int) + 1) ∧ Hid (∀ j, last ≤ j → j < n → f j = true)) (fun k => 513 - (intOf k).toNat)
  case atStart => exact ⟨last, Nat.le_refl _, hl, rfl, fun j h1 h2 => by omega⟩
  case round =>
    obtain ⟨n, hn1, hn2, rfl, HN⟩ := hrel
    rcases Nat.lt_or_ge n 512 with hlt | hge
    · have hc := (Bk.cell HB.out (n + 1)).trans (refCells_bit _ _ (by omega))
      have e : refOf f (n + 1) = f n := by simp [refOf]
      rw [e] at hc
      cases hf : f n
      · have HX : Hid (nextOf f last = n + 1) := by
          show _ = _
          have e2 : (last + (n - last)) % 512 = n := by omega
          have := nextOf_hit (f := f) (last := last) (i := n - last) (by omega) (by rw [e2]; exact hf) (fun j hj => by
            rw [Nat.mod_eq_of_lt (by omega)]
            exact HN.out _ (by omega) (by omega))
          rw [this, e2]
        rw [hf] at hc
        clear hf e
        go_wp2
        go_ret
        exact ⟨by rw [HX.out]; rfl, (Below.refl _ _).alloc (Nat.le_refl _) _⟩
      · have HF := Lib.hid hf
        rw [hf] at hc
        clear hf e
        go_wp2
        go_round
        case rel => exact ⟨n + 1, by omega, by omega, by go_num, fun j h1 h2 => by
          rcases Nat.lt_or_ge j n with h | h
          · exact HN.out j h1 h
          · obtain rfl : j = n := by omega
            exact HF.out⟩
        case measure => simp [intOf]; omega
    · obtain rfl : n = 512 := by omega
      go_wp2
      go_loop [4] (fun k => ∃ m : Nat, m ≤ 512 ∧ k = .int .i64 ((m : Int) + 1) ∧ Hid (∀ j, j < m → f j = true)) (fun k => 513 - (intOf k).toNat)
      case atStart => exact ⟨0, by omega, rfl, fun j h1 => by omega⟩
      case round =>
        obtain ⟨m, hm, rfl, HM⟩ := hrel
        rcases Nat.lt_or_ge m 512 with hlt | hge
        · have hc := (Bk.cell HB.out (m + 1)).trans (refCells_bit _ _ (by omega))
          have e : refOf f (m + 1) = f m := by simp [refOf]
          rw [e] at hc
          cases hf : f m
          · have HX : Hid (nextOf f last = m + 1) := by
              show _ = _
              have hml : m < last := by
                rcases Nat.lt_or_ge m last with h | h
                · exact h
                · rw [HN.out m h hlt] at hf; cases hf
              have e2 : (last + (512 - last + m)) % 512 = m := by omega
              have := nextOf_hit (f := f) (last := last) (i := 512 - last + m) (by omega) (by rw [e2]; exact hf) (fun j hj => by
                rcases Nat.lt_or_ge (last + j) 512 with h | h
                · rw [Nat.mod_eq_of_lt h]
                  exact HN.out _ (by omega) (by omega)
                · have e3 : (last + j) % 512 = last + j - 512 := by omega
                  rw [e3]
                  exact HM.out _ (by omega))
              rw [this, e2]
            rw [hf] at hc
            clear hf e
            go_wp2
            go_ret
            exact ⟨by rw [HX.out]; rfl, (Below.refl _ _).alloc (Nat.le_refl _) _⟩
          · have HF := Lib.hid hf
            rw [hf] at hc
            clear hf e
            go_wp2
            go_round
            case rel => exact ⟨m + 1, by omega, by go_num, fun j h1 => by
              rcases Nat.lt_or_ge j m with h | h
              · exact HM.out j h
              · obtain rfl : j = m := by omega
                exact HF.out⟩
            case measure => simp [intOf]; omega
        · obtain rfl : m = 512 := by omega
          have HX : Hid (nextOf f last = 0) := nextOf_none fun j _ => HM.out _ (Nat.mod_lt _ (by omega))
          go_wp2
          go_ret
          exact ⟨by rw [HX.out]; rfl, (Below.refl _ _).alloc (Nat.le_refl _) _⟩

set_option maxRecDepth 100000 in
set_option maxHeartbeats 1000000 in
theorem refLen_any (w : World) (f : Nat → Bool) (last : Nat) :
    Calls Try.prog 42 #[.agg (refCells (refOf f) last)] w fun x w' => x = .returned (.int .i64 (cntB f 512)) ∧ Below w.heap.size w w' := by
  have hb : Bk (w.alloc (.cells (refCells (refOf f) last) 62)) w.heap.size 62 (refCells (refOf f) last) := Bk.new _ _ _
  have HB := Lib.hid hb
  clear hb
  go_enter Try.func42, Try.ntmps42
  go_wp2
  go_loop [3, 4] (fun n k => ∃ m : Nat, m ≤ 512 ∧ k = .int .i64 ((m : Int) + 1) ∧ n = .int .i64 (cntB f m)) (fun _ k => 513 - (intOf k).toNat)
  case atStart => exact ⟨0, by omega, rfl, rfl⟩
  case round =>
    obtain ⟨m, hm, rfl, rfl⟩ := hrel
    have hcl := cntB_le f m
    rcases Nat.lt_or_ge m 512 with hlt | hge
    · have hc := (Bk.cell HB.out (m + 1)).trans (refCells_bit _ _ (by omega))
      have e : refOf f (m + 1) = f m := by simp [refOf]
      rw [e] at hc
      have HS := Lib.hid (cntB_succ f m)
      clear e
      generalize cntB f m = cm at *
      cases hf : f m
      all_goals
        rw [hf] at hc HS
        clear hf
        go_wp2
        go_round
        case rel => exact ⟨m + 1, by omega, by go_num, by rw [HS.out]; simp⟩
        case measure => simp [intOf]; omega
    · obtain rfl : m = 512 := by omega
      go_wp2
      go_ret
      exact ⟨rfl, (Below.refl _ _).alloc (Nat.le_refl _) _⟩

end Go.Proofs.YteifdbfaclpcdaaR
