/- A set of small numbers, by what is in it. -/
import Derived.Test.YteifdbfaclpcdaaRBitA
import Derived.Deep.OwnRows
namespace Go.Proofs.YteifdbfaclpcdaaR
open Go.RowKit

theorem bits_drop (x j : Nat) (hx : x < 2 ^ 64) (hj : j < 64) : bits BinOp.andNot IntKind.u64 x (IntKind.u64.wrap (2 ^ j)) = (noBit x j : Int) ∧ noBit x j < 2 ^ 64 := by
  have hp : 2 ^ j < 2 ^ 64 := Nat.pow_lt_pow_right (by omega) hj
  have e : ((2 : Int) ^ j) = ((2 ^ j : Nat) : Int) := by norm_cast
  have hn := bits_no x j hx hj
  rw [e]
  generalize 2 ^ j = P at *
  rw [IntWalk.u64_in _ (by omega)]
  exact ⟨hn.1, hn.2.1⟩

set_option maxHeartbeats 1000000 in
/-- Drop, of a number that is in it. -/
theorem setDrop_old {w : World} {g gw : Nat} {wd : Nat → Nat} {size many : Nat} (h : SetAt w g gw wd size many) {n : Nat} (hn : n < size) (hh : hasB wd n = true) (hm : 0 < many) :
    Calls Try.prog 65 #[.pointer (some ⟨g, 0, none⟩), .int .i64 n] w fun e w' => e = .returned (.bool true) ∧ SetAt w' g gw (updW wd (n / 64) (noBit (wd (n / 64)) (n % 64))) size (many - 1) ∧ Fr (fun k => k = g ∨ k = gw) w w' := by
  have hmay : mayB size n = true := by simp [mayB]; omega
  have HH := Lib.hid (setHas_any h n)
  rw [hmay] at HH
  rw [show ((n : Int)).toNat = n from Int.toNat_natCast n, hh] at HH
  clear hmay hh
  have h0 : w.cell? ⟨g, 0, none⟩ = some (.slice (some ⟨gw, 0, none⟩) ((size + 63) / 64) ((size + 63) / 64)) := Bk.cell h.top 0
  have h2 : w.cell? ⟨g, 2, none⟩ = some (.int .i64 many) := Bk.cell h.top 2
  have hq : n / 64 < (size + 63) / 64 := by omega
  have h1 : w.cell? ⟨gw, n / 64, none⟩ = some (.int .u64 (wd (n / 64))) := (Bk.cell h.row (n / 64)).trans (by simp [bitCells, hq])
  have hb := h.bits (n / 64)
  have hsz := h.size_le
  have hml := h.many_le
  have HT := Lib.hid h
  clear h
  generalize hnw : (size + 63) / 64 = nw at *
  have HNW := Lib.hid hnw
  clear hnw
  go_enter Try.func65, Try.ntmps65
  go_wp2_with (go_at_call 63; refine HH.out.mono ?_; rintro e w2 ⟨rfl, rfl⟩)
  obtain ⟨hV, hV2⟩ := bits_drop (wd (n / 64)) (n % 64) hb (Nat.mod_lt _ (by omega))
  have hfr1 : w.frozen? ⟨gw, n / 64, none⟩ = false := Bk.free HT.out.row (n / 64)
  have hfr2 : w.frozen? ⟨g, 2, none⟩ = false := Bk.free HT.out.top 2
  have hne1 : g ≠ gw := HT.out.ne
  have hne2 : gw ≠ g := fun e => HT.out.ne e.symm
  have HST := Lib.hid (HT.out.store (n / 64) (noBit (wd (n / 64)) (n % 64)) (many - 1) (z := (many : Int) - 1) (by omega) hV2 (by omega))
  generalize hVV : noBit (wd (n / 64)) (n % 64) = V at *
  have HVV := Lib.hid hVV
  clear hVV
  go_region
  all_goals
    go_wp2
    go_ret
    exact ⟨rfl, by rw [HVV.out]; exact HST.out.1.drew, HST.out.2.drew⟩

/-- How many numbers below n are in it. -/
def cntB (f : Nat → Bool) (n : Nat) : Nat := ((List.range n).filter f).length
theorem cntB_succ (f : Nat → Bool) (n : Nat) : cntB f (n + 1) = cntB f n + (f n).toNat := by
  unfold cntB
  rw [List.range_succ, List.filter_append, List.length_append]
  cases h : f n <;> simp [h]
theorem cntB_le (f : Nat → Bool) (n : Nat) : cntB f n ≤ n := by
  have := List.length_filter_le f (List.range n)
  simpa [cntB] using this
def updB (f : Nat → Bool) (n : Nat) (b : Bool) : Nat → Bool := fun i => if i = n then b else f i
theorem cntB_out (f : Nat → Bool) (n : Nat) (b : Bool) {k : Nat} (h : k ≤ n) : cntB (updB f n b) k = cntB f k := by
  unfold cntB
  rw [List.filter_congr fun i hi => ?_]
  have := List.mem_range.1 hi
  simp only [updB]
  rw [if_neg (by omega)]
theorem cntB_upd (f : Nat → Bool) (n : Nat) (b : Bool) {k : Nat} (h : n < k) : cntB (updB f n b) k + (f n).toNat = cntB f k + b.toNat := by
  induction k with
  | zero => omega
  | succ k ih =>
    rw [cntB_succ, cntB_succ]
    by_cases hk : n = k
    · subst hk
      rw [cntB_out _ _ _ (Nat.le_refl _)]
      simp only [updB, if_true]
      omega
    · have h1 := ih (by omega)
      have h2 : updB f n b k = f k := by simp only [updB]; rw [if_neg (by omega)]
      rw [h2]
      omega
theorem cntB_lt {f : Nat → Bool} {n k : Nat} (h : n < k) (hf : f n = false) : cntB f k < k := by
  have h1 := cntB_upd f n true h
  have h2 := cntB_le (updB f n true) k
  rw [hf] at h1
  simp at h1
  omega
theorem cntB_pos {f : Nat → Bool} {n k : Nat} (h : n < k) (hf : f n = true) : 0 < cntB f k := by
  have h1 := cntB_upd f n false h
  rw [hf] at h1
  simp at h1
  omega

/-- A set at block g (words at gw) whose numbers are those of f. -/
def SetIs (w : World) (g gw : Nat) (f : Nat → Bool) (size : Nat) : Prop := ∃ wd, SetAt w g gw wd size (cntB f size) ∧ ∀ n, n < size → hasB wd n = f n
theorem SetIs.fr {S : Nat → Prop} {w w' : World} {g gw size : Nat} {f : Nat → Bool} (h : SetIs w g gw f size) (hf : Fr S w w') (h1 : ¬ S g) (h2 : ¬ S gw) : SetIs w' g gw f size := by
  obtain ⟨wd, h, hh⟩ := h
  exact ⟨wd, h.fr hf h1 h2, hh⟩
theorem SetIs.lt {w : World} {g gw size : Nat} {f : Nat → Bool} (h : SetIs w g gw f size) : g < w.heap.size ∧ gw < w.heap.size := by
  obtain ⟨wd, h, hh⟩ := h
  exact ⟨h.top.lt, h.row.lt⟩
theorem isHas {w : World} {g gw size : Nat} {f : Nat → Bool} (h : SetIs w g gw f size) (n : Int) :
    Calls Try.prog 63 #[.pointer (some ⟨g, 0, none⟩), .int .i64 n] w fun e w' => e = .returned (.bool (mayB size n && f n.toNat)) ∧ w = w' := by
  obtain ⟨wd, h, hh⟩ := h
  refine (setHas_any h n).mono ?_
  rintro e w' ⟨rfl, rfl⟩
  refine ⟨ret_bool ?_, rfl⟩
  cases hm : mayB size n
  · rfl
  · obtain ⟨k, rfl, hk⟩ := mayB_true hm
    simp [hh k hk]
theorem isSize {w : World} {g gw size : Nat} {f : Nat → Bool} (h : SetIs w g gw f size) :
    Calls Try.prog 85 #[.pointer (some ⟨g, 0, none⟩)] w fun e w' => e = .returned (.int .i64 size) ∧ w = w' := by
  obtain ⟨wd, h, hh⟩ := h
  exact setSize_any h
theorem isLen {w : World} {g gw size : Nat} {f : Nat → Bool} (h : SetIs w g gw f size) :
    Calls Try.prog 66 #[.pointer (some ⟨g, 0, none⟩)] w fun e w' => e = .returned (.int .i64 (cntB f size)) ∧ w = w' := by
  obtain ⟨wd, h, hh⟩ := h
  exact setLen_any h
theorem isPut_new {w : World} {g gw size : Nat} {f : Nat → Bool} (h : SetIs w g gw f size) {n : Nat} (hn : n < size) (hf : f n = false) :
    Calls Try.prog 64 #[.pointer (some ⟨g, 0, none⟩), .int .i64 n] w fun e w' => e = .returned (.bool true) ∧ SetIs w' g gw (updB f n true) size ∧ Fr (fun k => k = g ∨ k = gw) w w' := by
  obtain ⟨wd, h, hh⟩ := h
  refine (setPut_new h hn ((hh n hn).trans hf) (cntB_lt hn hf)).mono ?_
  rintro e w' ⟨rfl, h1, h2⟩
  refine ⟨rfl, ⟨updW wd (n / 64) (wd (n / 64) ||| 2 ^ (n % 64)), ?_, fun m hm => ?_⟩, h2⟩
  · have := cntB_upd f n true hn
    rw [hf] at this
    simp at this
    rw [this]
    exact h1
  · rw [hasB_put, hh m hm]
    unfold updB
    by_cases e : m = n <;> simp [e]
theorem isDrop_old {w : World} {g gw size : Nat} {f : Nat → Bool} (h : SetIs w g gw f size) {n : Nat} (hn : n < size) (hf : f n = true) :
    Calls Try.prog 65 #[.pointer (some ⟨g, 0, none⟩), .int .i64 n] w fun e w' => e = .returned (.bool true) ∧ SetIs w' g gw (updB f n false) size ∧ Fr (fun k => k = g ∨ k = gw) w w' := by
  obtain ⟨wd, h, hh⟩ := h
  have hb := h.bits
  refine (setDrop_old h hn ((hh n hn).trans hf) (cntB_pos hn hf)).mono ?_
  rintro e w' ⟨rfl, h1, h2⟩
  refine ⟨rfl, ⟨updW wd (n / 64) (noBit (wd (n / 64)) (n % 64)), ?_, fun m hm => ?_⟩, h2⟩
  · have := cntB_upd f n false hn
    rw [hf] at this
    simp at this
    rw [show cntB (updB f n false) size = cntB f size - 1 by omega]
    exact h1
  · rw [hasB_drop _ hb, hh m hm]
    unfold updB
    by_cases e : m = n <;> simp [e]


theorem u64_info : (Try.prog.info? 40).map (fun i => (i.zero, i.size, i.bytes)) = some (some (.int .u64 0), 1, 8) := by kernel_rfl
theorem cntB_none (n : Nat) : cntB (fun _ => false) n = 0 := by simp [cntB]
theorem bitCells_zero (n : Nat) : bitCells (fun _ => 0) n = madeCells #[.int .u64 0] n := by
  apply Array.ext'
  simp [bitCells, madeCells]
  intro a _
  rw [Nat.mod_one]
  rfl
def newSize (n : Int) : Nat := (max 0 (min 4096 n)).toNat
set_option maxHeartbeats 1000000 in
set_option maxRecDepth 100000 in
/-- New, of any size. -/
theorem isNew (w : World) (n : Int) :
    Calls Try.prog 67 #[.int .i64 n] w fun e w' => ∃ g gw, e = .returned (.pointer (some ⟨g, 0, none⟩)) ∧ SetIs w' g gw (fun _ => false) (newSize n) ∧ Below w.heap.size w w' ∧ w.heap.size ≤ g ∧ w.heap.size ≤ gw := by
  obtain ⟨size, hs⟩ : ∃ size, newSize n = size := ⟨_, rfl⟩
  rw [hs]
  have hs2 : size = (max 0 (min 4096 n)).toNat := hs.symm
  have hle : size ≤ 4096 := by omega
  have hmk := Go.run_make_row' (P := Try.prog) 128 40 (.int .u64 0) 8 Try.underlying128 u64_info rfl .i64 .i64 ((size + 63) / 64) (by omega) (by omega)
  have hlen : ((size : Int) + 64 - 1) / 64 = ((size + 63) / 64 : Nat) := by omega
  generalize hnw : (size + 63) / 64 = nw at *
  have hcase : (n ≤ 0 ∧ size = 0) ∨ (0 < n ∧ n < 4096 ∧ n = size) ∨ (4096 ≤ n ∧ size = 4096) := by omega
  clear hs hs2
  have HN : Hid (∀ W : World, (∀ o, SetIs ((W.alloc (.cells (madeCells #[.int .u64 0] nw) 40)).alloc (.cells #[.slice (some ⟨W.heap.size, 0, none⟩) nw nw, .int .i64 size, .int .i64 0] o)) (W.heap.size + 1) W.heap.size (fun _ => false) size ∨ o ≠ 130)) := fun W o => by
    by_cases ho : o = 130
    · subst ho
      refine .inl ⟨fun _ => 0, ⟨?_, ?_, by omega, fun i => by omega, hle, by rw [cntB_none]; omega⟩, fun n hn => by simp [hasB]⟩
      · rw [hnw, cntB_none]
        have := Bk.new (W.alloc (.cells (madeCells #[.int .u64 0] nw) 40)) 130 #[.slice (some ⟨W.heap.size, 0, none⟩) nw nw, .int .i64 size, .int .i64 0]
        simpa using this
      · rw [hnw, bitCells_zero]
        exact (Bk.new W _ _).alloc _
    · exact .inr ho
  rcases hcase with ⟨hn, rfl⟩ | ⟨hn, hn2, rfl⟩ | ⟨hn, rfl⟩
  · obtain rfl : nw = 0 := by omega
    have hmk0 : ∀ w, (Instr.makeSlice 128 (.int .i64 0) (.int .i64 0)).run Try.prog w = _ := hmk
    clear hmk hlen hnw
    go_enter Try.func67, Try.ntmps67
    go_wp2
    go_ret
    exact ⟨_, _, rfl, (HN.out w _).resolve_right (fun h => h rfl), ((Below.refl _ _).alloc (Nat.le_refl _) _).alloc (by simp) _, by omega, by omega⟩
  · clear hnw
    go_enter Try.func67, Try.ntmps67
    go_wp2
    go_ret
    exact ⟨_, _, rfl, (HN.out w _).resolve_right (fun h => h rfl), ((Below.refl _ _).alloc (Nat.le_refl _) _).alloc (by simp) _, by omega, by omega⟩
  · obtain rfl : nw = 64 := by omega
    have hmk0 : ∀ w, (Instr.makeSlice 128 (.int .i64 64) (.int .i64 64)).run Try.prog w = _ := hmk
    clear hmk hlen hnw
    go_enter Try.func67, Try.ntmps67
    go_wp2
    go_ret
    exact ⟨_, _, rfl, (HN.out w _).resolve_right (fun h => h rfl), ((Below.refl _ _).alloc (Nat.le_refl _) _).alloc (by simp) _, by omega, by omega⟩
end Go.Proofs.YteifdbfaclpcdaaR
