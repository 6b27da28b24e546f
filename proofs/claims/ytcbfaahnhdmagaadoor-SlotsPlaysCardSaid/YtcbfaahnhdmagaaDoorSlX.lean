/- Slots: the reference's pages and what slots have (plain); both together. -/
import Derived.Test.YtcbfaahnhdmagaaDoorSlW
namespace Go.Proofs.YtcbfaahnhdmagaaDoor
open Go.RowKit

theorem all_of {f : Nat → Bool} {n : Nat} (h : cntB f n = n) : ∀ j, j < n → f j = true := fun j hj => by
  cases hf : f j
  · have := cntB_lt hj hf
    omega
  · rfl
/-- The reference's pages are what slots have. -/
structure Ties (rs : List Pg) (many : Nat) (f : Nat → Bool) (pg : Nat → List UInt8) : Prop where
  in_ : ∀ r ∈ rs, r.n < many ∧ f r.n = true ∧ r.b = pg r.n
  has : ∀ n, n < many → f n = true → ∃ r ∈ rs, r.n = n
  nd : (rs.map (·.n)).Nodup
  len : rs.length = cntB f many
section
variable {rs : List Pg} {many : Nat} {f : Nat → Bool} {pg : Nat → List UInt8}
theorem Ties.nil (many : Nat) (pg : Nat → List UInt8) : Ties [] many (fun _ => false) pg :=
  ⟨fun r hr => (by cases hr), fun n _ h => (by cases h), by simp, by rw [cntB_none]; rfl⟩
theorem Ties.le (h : Ties rs many f pg) : rs.length ≤ many := by rw [h.len]; exact cntB_le f many
theorem Ties.yes (h : Ties rs many f pg) {n : Nat} (hn : n < many) (hf : f n = true) : ∃ r ∈ rs, (r.n : Int) = (n : Int) := by
  obtain ⟨r, hr, e⟩ := h.has n hn hf
  exact ⟨r, hr, by omega⟩
theorem Ties.no (h : Ties rs many f pg) {n : Int} (hn : (mayB many n && f n.toNat) = false) : ∀ r ∈ rs, (r.n : Int) ≠ n := fun r hr e => by
  obtain ⟨h1, h2, _⟩ := h.in_ r hr
  subst e
  rw [mayB_nat h1, Int.toNat_natCast, h2] at hn
  cases hn
theorem Ties.noN (h : Ties rs many f pg) {n : Nat} (hn : many ≤ n ∨ f n = false) : ∀ r ∈ rs, (r.n : Int) ≠ (n : Int) := fun r hr e => by
  obtain ⟨h1, h2, _⟩ := h.in_ r hr
  have e2 : r.n = n := by omega
  subst e2
  rcases hn with hn | hn
  · omega
  · rw [h2] at hn
    cases hn
theorem Ties.put (h : Ties rs many f pg) {n : Nat} (hn : n < many) (hf : f n = false) (A : Option Addr) (c : Nat) (b : List UInt8) : Ties (rs ++ [⟨n, A, c, b⟩]) many (updB f n true) (updP pg n b) := by
  have hne : ∀ r ∈ rs, r.n ≠ n := fun r hr e => h.noN (.inr hf) r hr (by omega)
  refine ⟨fun r hr => ?_, fun k hk hfk => ?_, ?_, ?_⟩
  · rcases List.mem_append.1 hr with hr | hr
    · obtain ⟨h1, h2, h3⟩ := h.in_ r hr
      unfold updB updP
      rw [if_neg (hne r hr), if_neg (hne r hr)]
      exact ⟨h1, h2, h3⟩
    · simp at hr
      subst hr
      exact ⟨hn, by simp [updB], by simp [updP]⟩
  · by_cases e : k = n
    · exact ⟨⟨n, A, c, b⟩, by simp, e.symm⟩
    · unfold updB at hfk
      rw [if_neg e] at hfk
      obtain ⟨r, hr, hrn⟩ := h.has k hk hfk
      exact ⟨r, by simp [hr], hrn⟩
  · rw [List.map_append, List.nodup_append]
    refine ⟨h.nd, by simp, fun a ha b hb e => ?_⟩
    simp at hb
    obtain ⟨r, hr, rfl⟩ := List.mem_map.1 ha
    exact hne r hr (by omega)
  · have := cntB_upd f n true hn
    rw [hf] at this
    rw [List.length_append, h.len]
    simp at this ⊢
    omega
theorem Ties.drop (h : Ties rs many f pg) {k : Nat} {r : Pg} (hr : rs[k]? = some r) : Ties (rs.take k ++ rs.drop (k + 1)) many (updB f r.n false) pg := by
  have hk : k < rs.length := (List.getElem?_eq_some_iff.1 hr).1
  have hm : r ∈ rs := List.mem_of_getElem? hr
  obtain ⟨hn, hf, hb⟩ := h.in_ r hm
  have hsp : rs = rs.take k ++ r :: rs.drop (k + 1) := by
    have e := List.drop_eq_getElem_cons hk
    have e2 : rs[k] = r := by rw [List.getElem?_eq_getElem hk] at hr; injection hr
    rw [e2] at e
    rw [← e, List.take_append_drop]
  have hnd := h.nd
  have hin := h.in_
  have hhas := h.has
  have hlen := h.len
  rw [hsp] at hnd hin hhas hlen
  generalize rs.take k = xs at *
  generalize rs.drop (k + 1) = ys at *
  rw [List.map_append, List.map_cons, List.nodup_append] at hnd
  obtain ⟨n1, n2, n3⟩ := hnd
  rw [List.nodup_cons] at n2
  have hne : ∀ q ∈ xs ++ ys, q.n ≠ r.n := fun q hq e => by
    rcases List.mem_append.1 hq with hq | hq
    · exact n3 _ (List.mem_map_of_mem hq) r.n (by simp) e
    · exact n2.1 (e ▸ List.mem_map_of_mem hq)
  refine ⟨fun q hq => ?_, fun j hj hfj => ?_, ?_, ?_⟩
  · have hq2 : q ∈ xs ++ r :: ys := by
      rcases List.mem_append.1 hq with hq | hq
      · exact List.mem_append.2 (.inl hq)
      · exact List.mem_append.2 (.inr (List.mem_cons_of_mem _ hq))
    obtain ⟨h1, h2, h3⟩ := hin q hq2
    unfold updB
    rw [if_neg (hne q hq)]
    exact ⟨h1, h2, h3⟩
  · unfold updB at hfj
    split at hfj
    · cases hfj
    · rename_i e
      obtain ⟨q, hq, hqn⟩ := hhas j hj hfj
      refine ⟨q, ?_, hqn⟩
      rcases List.mem_append.1 hq with hq | hq
      · exact List.mem_append.2 (.inl hq)
      · rcases List.mem_cons.1 hq with rfl | hq
        · exact absurd hqn.symm e
        · exact List.mem_append.2 (.inr hq)
  · rw [List.map_append, List.nodup_append]
    exact ⟨n1, n2.2, fun a ha b hb => n3 a ha b (List.mem_cons_of_mem _ hb)⟩
  · have := cntB_upd f r.n false hn
    rw [hf] at this
    rw [List.length_append] at hlen ⊢
    simp at this hlen
    omega
theorem Ties.page (h : Ties rs many f pg) {r : Pg} (hr : r ∈ rs) {n : Nat} (e : (r.n : Int) = (n : Int)) : r.b = pg n := by
  have e2 : r.n = n := by omega
  subst e2
  exact (h.in_ r hr).2.2
end
end Go.Proofs.YtcbfaahnhdmagaaDoor
