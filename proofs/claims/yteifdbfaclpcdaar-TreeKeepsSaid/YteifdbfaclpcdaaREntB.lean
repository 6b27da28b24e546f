/- gunnylaw22: lives; plain laws of numbers that go round. -/
import Derived.Test.YteifdbfaclpcdaaREntA
namespace Go.Proofs.YteifdbfaclpcdaaR
open Go.RowKit

theorem nextOf_full {f : Nat → Bool} {last : Nat} (h : nextOf f last = 0) : ∀ k, k < 512 → f k = true := by
  intro k hk
  unfold nextOf at h
  split at h
  · omega
  · rename_i hi
    rw [List.find?_eq_none] at hi
    have h1 := hi ((k + (512 - last % 512)) % 512) (List.mem_range.2 (Nat.mod_lt _ (by omega)))
    have e : (last + (k + (512 - last % 512)) % 512) % 512 = k := by omega
    rw [e] at h1
    simpa using h1
theorem cntB_all {f : Nat → Bool} {n : Nat} (h : ∀ k, k < n → f k = true) : cntB f n = n := by
  induction n with
  | zero => rfl
  | succ n ih =>
    rw [cntB_succ, ih fun k hk => h k (by omega), h n (by omega)]
    rfl
theorem nextOf_some {f : Nat → Bool} {last : Nat} (h : cntB f 512 < 512) : ∃ k, nextOf f last = k + 1 ∧ k < 512 ∧ f k = false := by
  rcases hn : nextOf f last with _ | k
  · have := cntB_all (nextOf_full hn)
    omega
  · exact ⟨k, rfl, nextOf_free hn⟩
theorem inB_succ (f : Nat → Bool) {k : Nat} (hk : k < 512) : inB f ((k : Int) + 1) = f k := by
  rw [inB_yes (by omega)]
  have : mayB 512 (((k : Int) + 1) - 1) = true := by simp [mayB]; omega
  rw [this, Bool.true_and]
  simp

theorem nextOf_now {f : Nat → Bool} {last : Nat} (h : f (last % 512) = false) : nextOf f last = last % 512 + 1 := nextOf_hit (i := 0) (by omega) h (fun j hj => by omega)
theorem eTake_at {w : World} {e g gw last k : Nat} {f : Nat → Bool} (h : EntAt w e g gw f last) (hk : last % 512 = k) (hf : f k = false) :
    Calls Try.prog 33 #[.pointer (some ⟨e, 0, none⟩)] w fun x w' => x = .returned (.tuple #[.int .i64 ((k : Int) + 1), .int .i64 0]) ∧ EntAt w' e g gw (updB f k true) (k + 1) ∧ Fr (fun b => b = e ∨ b = g ∨ b = gw) w w' := by
  subst hk
  exact eTake_some h (nextOf_now hf)

set_option maxRecDepth 100000 in
set_option maxHeartbeats 2000000 in
theorem entLives (w : World) : Calls Try.prog 37 #[] w fun e w' => e = .returned (.bool true) ∧ Below w.heap.size w w' := by
  go_enter Try.func37, Try.ntmps37
  go_wp2_with (go_at_call 38; refine (eNew_any w).mono ?_; rintro x w1 ⟨e, g, gw, rfl, h1, hB1, b1, b2, b3⟩)
  refine (eTake_at (k := 0) h1 rfl rfl).mono ?_
  rintro x w2 ⟨rfl, h2, hF2⟩
  go_wp2_with fail
  refine (eTake_at (k := 1) h2 rfl rfl).mono ?_
  rintro x w3 ⟨rfl, h3, hF3⟩
  go_wp2_with fail
  have hS : ∀ b, b < w.heap.size → ¬ (b = e ∨ b = g ∨ b = gw) := fun b hb hh => by rcases hh with h | h | h <;> omega
  have hF1 := hF2.trans hF3 fun _ _ h => h
  have hB3 : Below w.heap.size w w3 := hB1.trans (hF1.below hB1.size hS)
  have hsz := h3.top.lt
  have hsz2 := h3.set.lt
  refine (eDrop_any (ks := [1]) (h3.fr ((Fr.refl (fun _ => False) w3).alloc _) id id id) (rd_lit w3 [1] rfl) (by simp) (fun ad he _ hh => by
    injection he with he
    subst he
    rcases hh with h | h | h
    · simp at h; omega
    · simp at h; omega
    · simp at h; omega) (by simp) (by simp)).mono ?_
  rintro x w4 ⟨rfl, h4, hF4⟩
  have hd : dropN (updB (updB (fun _ => false) 0 true) 1 true) [1] = 1 := by decide +kernel
  rw [hd]
  go_wp2_with fail
  have hd2 : dropE (updB (updB (fun _ => false) 0 true) 1 true) [1] 2 = false := by decide +kernel
  refine (eTake_at (k := 2) h4 rfl hd2).mono ?_
  rintro x w5 ⟨rfl, h5, hF5⟩
  go_wp2
  go_ret
  refine ⟨rfl, ?_⟩
  have hF6 := hF4.trans hF5 fun _ _ h => h
  exact (hB3.alloc hB3.size _).trans (hF6.below (by have := hB3.size; simp; omega) hS)

/-! ### EntryApart's list -/
theorem dropE_two {f : Nat → Bool} {n : Nat} (hn : n < 512) (hf : f n = true) : dropN f [(n : Int) + 1, (n : Int) + 1] = 1 ∧ dropE f [(n : Int) + 1, (n : Int) + 1] = updB f n false := by
  have h1 : inB f ((n : Int) + 1) = true := (inB_succ f hn).trans hf
  have hd : drop1 f ((n : Int) + 1) = updB f n false := by
    rw [drop1, h1]
    simp
  have h2 : inB (updB f n false) ((n : Int) + 1) = false := by
    rw [inB_succ _ hn]
    simp [updB]
  have hd2 : drop1 (updB f n false) ((n : Int) + 1) = updB f n false := by
    rw [drop1, h2]
    simp
  constructor
  · simp [dropN, hd, h1, h2]
  · simp [dropE, hd, hd2]
/-- A list of all that is in use. -/
structure OutIs (f : Nat → Bool) (l : List Int) : Prop where
  mem : ∀ z ∈ l, ∃ n : Nat, z = n + 1 ∧ n < 512 ∧ f n = true
  nodup : l.Nodup
  cnt : cntB f 512 = l.length
theorem OutIs.nil : OutIs (fun _ => false) [] := ⟨by simp, List.nodup_nil, by rw [cntB_none]; rfl⟩
theorem OutIs.in_ {f : Nat → Bool} {l : List Int} (h : OutIs f l) {z : Int} (hz : z ∈ l) : inB f z = true := by
  obtain ⟨n, rfl, hn, hf⟩ := h.mem z hz
  exact (inB_succ f hn).trans hf
theorem OutIs.new {f : Nat → Bool} {l : List Int} (h : OutIs f l) {k : Nat} (hk : k < 512) (hf : f k = false) : OutIs (updB f k true) (l ++ [(k : Int) + 1]) ∧ (k : Int) + 1 ∉ l := by
  have hno : (k : Int) + 1 ∉ l := fun hm => by
    obtain ⟨n, e, hn, hfn⟩ := h.mem _ hm
    obtain rfl : k = n := by omega
    rw [hf] at hfn
    cases hfn
  refine ⟨⟨fun z hz => ?_, ?_, ?_⟩, hno⟩
  · rcases List.mem_append.1 hz with hz | hz
    · obtain ⟨n, e, hn, hfn⟩ := h.mem z hz
      refine ⟨n, e, hn, ?_⟩
      unfold updB
      split
      · rfl
      · exact hfn
    · obtain rfl : z = (k : Int) + 1 := by simpa using hz
      exact ⟨k, rfl, hk, by simp [updB]⟩
  · refine List.nodup_append.2 ⟨h.nodup, by simp, fun a ha b hb => ?_⟩
    obtain rfl : b = (k : Int) + 1 := by simpa using hb
    exact fun e => hno (e ▸ ha)
  · have := cntB_upd f k true hk
    rw [hf, h.cnt] at this
    simp at this
    simp [this]
theorem OutIs.old {f : Nat → Bool} {l : List Int} (h : OutIs f l) {j : Nat} (hj : j < l.length) : ∃ n : Nat, l[j] = n + 1 ∧ n < 512 ∧ f n = true ∧ OutIs (updB f n false) (l.take j ++ l.drop (j + 1)) := by
  obtain ⟨n, e, hn, hf⟩ := h.mem l[j] (List.getElem_mem hj)
  have el : l = l.take j ++ l[j] :: l.drop (j + 1) := by rw [← List.drop_eq_getElem_cons hj, List.take_append_drop]
  have hnd := h.nodup
  rw [el] at hnd
  obtain ⟨n1, n2, n3⟩ := List.nodup_append.1 hnd
  obtain ⟨n4, n5⟩ := List.nodup_cons.1 n2
  refine ⟨n, e, hn, hf, ⟨fun z hz => ?_, ?_, ?_⟩⟩
  · have hzl : z ∈ l := by
      rcases List.mem_append.1 hz with hz | hz
      · exact List.mem_of_mem_take hz
      · exact List.mem_of_mem_drop hz
    obtain ⟨m, em, hm, hfm⟩ := h.mem z hzl
    refine ⟨m, em, hm, ?_⟩
    have hmn : m ≠ n := fun e2 => by
      subst e2
      have ez : z = l[j] := em.trans e.symm
      rcases List.mem_append.1 hz with hz | hz
      · exact n3 z hz l[j] List.mem_cons_self ez
      · exact n4 (ez ▸ hz)
    unfold updB
    rw [if_neg hmn]
    exact hfm
  · exact List.nodup_append.2 ⟨n1, n5, fun a ha b hb => n3 a ha b (List.mem_cons_of_mem _ hb)⟩
  · have := cntB_upd f n false hn
    rw [hf, h.cnt] at this
    simp at this
    simp
    omega
end Go.Proofs.YteifdbfaclpcdaaR
