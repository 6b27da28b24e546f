/- The reference's disk: what was written, in order; its Peek. -/
import Derived.Test.YtcbfaahnhdmagaaDskG
import Derived.Test.YtcbfaahnhdmagaaGyApp
namespace Go.Proofs.Ytcbfaahnhdmagaa
open Go.RowKit

/-- A sector that was written. -/
structure Wr where
  n : Nat
  A : Option Addr
  c : Nat
  b : List UInt8
def wrCells (rs : List Wr) : List Value := rs.flatMap fun r => [Value.int .i64 (r.n : Int), .slice r.A r.b.length r.c]
/-- What a sector has: what was written there last. -/
def pkW (rs : List Wr) (n : Nat) : List UInt8 := rs.foldl (fun acc r => if r.n = n then r.b else acc) (List.replicate 512 0)
theorem pkW_snoc (rs : List Wr) (r : Wr) (n : Nat) : pkW (rs ++ [r]) n = if r.n = n then r.b else pkW rs n := by
  unfold pkW
  rw [List.foldl_append]
  rfl
theorem pkW_take {rs : List Wr} {k : Nat} {r : Wr} (h : rs[k]? = some r) (n : Nat) : pkW (rs.take (k + 1)) n = if r.n = n then r.b else pkW (rs.take k) n := by
  rw [List.take_add_one, h]
  exact pkW_snoc _ _ _
/-- All that was written, in blocks of the call's own from base on. -/
structure RefL (w : World) (base : Nat) (v : Value) (rs : List Wr) : Prop where
  row : w.ownsRow base 64 2 v rs.length (wrCells rs)
  ys : ∀ r ∈ rs, OwnY w base (.slice r.A r.b.length r.c) r.b ∧ r.b.length = 512
section
variable {w w' : World} {base : Nat} {v : Value} {rs : List Wr}
theorem own_fr {e : TypeId} {size n : Nat} {xs : List Value} {R : Nat → Prop} (h : w.ownsRow base e size v n xs) (hf : Fr R w w') (hR : ∀ k, base ≤ k → k < w.heap.size → ¬ R k) : w'.ownsRow base e size v n xs :=
  owns_same h fun k hk => hf.block k (World.ownsRow.lt h k hk).2 (hR k (World.ownsRow.lt h k hk).1 (World.ownsRow.lt h k hk).2)
theorem RefL.fr {R : Nat → Prop} (h : RefL w base v rs) (hf : Fr R w w') (hR : ∀ k, base ≤ k → k < w.heap.size → ¬ R k) : RefL w' base v rs :=
  ⟨own_fr h.row hf hR, fun r hr => ⟨own_fr (h.ys r hr).1 hf hR, (h.ys r hr).2⟩⟩
theorem RefL.below (h : RefL w base v rs) (hb : Below w.heap.size w w') : RefL w' base v rs :=
  h.fr (Fr.of_below (S := fun k => w.heap.size ≤ k) hb fun _ _ h => h) fun k _ h2 h3 => by omega
theorem RefL.nil (w : World) (base : Nat) : RefL w base (.slice none 0 0) [] := ⟨World.ownsRow_nil _ _ _ _, fun r hr => by cases hr⟩
theorem RefL.form (h : RefL w base v rs) : ∃ A c, v = .slice A rs.length c := owns_form h.row
theorem RefL.rd {A : Option Addr} {n c : Nat} (h : RefL w base (.slice A n c) rs) : Rd w w.heap.size A (wrCells rs) := by
  intro k u hu
  have h1 := h.row.1
  have hk := (List.getElem?_eq_some_iff.1 hu).1
  have hl : (wrCells rs).length = rs.length * 2 := pair_len _ _ _
  obtain ⟨g, cap, hv, _, hlt⟩ := h.row.form (by omega)
  have hA : A = some ⟨g, 0, none⟩ := by injection hv
  subst hA
  exact ⟨_, rfl, hlt, h.row.cells (g := g) rfl k u hu⟩
theorem RefL.get {A : Option Addr} {n c : Nat} (h : RefL w base (.slice A n c) rs) {k : Nat} (hk : k < rs.length) : ∃ r g, rs[k]? = some r ∧ r ∈ rs ∧ A = some ⟨g, 0, none⟩ ∧ base ≤ g ∧ g < w.heap.size ∧ w.cell? ⟨g, k * 2, none⟩ = some (.int .i64 (r.n : Int)) ∧ w.cell? ⟨g, k * 2 + 1, none⟩ = some (.slice r.A r.b.length r.c) ∧ OwnY w base (.slice r.A r.b.length r.c) r.b ∧ r.b.length = 512 := by
  have e : rs[k]? = some rs[k] := by simp [hk]
  have hp := pair_get (fun r : Wr => Value.int .i64 (r.n : Int)) (fun r : Wr => .slice r.A r.b.length r.c) rs k
  rw [e] at hp
  obtain ⟨g, cap, hv, hg, hlt⟩ := h.row.form (by omega)
  have hA : A = some ⟨g, 0, none⟩ := by injection hv
  subst hA
  obtain ⟨_, e1, _, c1⟩ := h.rd _ _ hp.1
  obtain ⟨_, e2, _, c2⟩ := h.rd _ _ hp.2
  injection e1 with e1
  injection e2 with e2
  subst e1
  rw [← e2, off_z] at c2
  rw [off_z] at c1
  have hm : rs[k] ∈ rs := List.getElem_mem hk
  exact ⟨rs[k], g, e, hm, rfl, hg, hlt, c1, c2, (h.ys _ hm).1, (h.ys _ hm).2⟩
end
theorem w_info : (Try.prog.info? 64).map (fun i => (i.size, i.bytes, i.zero.map (·.cells.size))) = some (2, 32, some 2) := by kernel_rfl
theorem d_info : (Try.prog.info? 52).map (·.size) = some 4 := by kernel_rfl
/-- The reference's disk by value. -/
def refD (m : Nat) (A : Option Addr) (n c a : Nat) (v : Value) : Array Value := #[.int .i64 m, .slice A n c, .int .i64 a, v]

set_option maxRecDepth 100000 in
set_option maxHeartbeats 1000000 in
theorem rPeek_out (w : World) (X v : Value) (m a : Nat) (n : Int) (hn : n < 0 ∨ (0 ≤ n ∧ (m : Int) ≤ n)) :
    Calls Try.prog 28 #[.agg #[.int .i64 m, X, .int .i64 a, v], .int .i64 n] w fun e w' => e = .returned (.slice none 0 0) ∧ Below w.heap.size w w' := by
  rcases hn with hn | ⟨hn, hn2⟩
  all_goals
    go_enter Try.func28, Try.ntmps28
    go_wp2
    go_ret
    exact ⟨rfl, (Below.refl _ _).alloc (Nat.le_refl _) _⟩
set_option maxRecDepth 100000 in
set_option maxHeartbeats 2000000 in
theorem rPeek_in {w : World} {base : Nat} {v : Value} {rs : List Wr} (X : Value) (m a n : Nat) (h : RefL w base v rs) (hl : rs.length ≤ 1000) (hn : n < m) :
    Calls Try.prog 28 #[.agg #[.int .i64 m, X, .int .i64 a, v], .int .i64 n] w fun e w' => ∃ A' c', e = .returned (.slice A' 512 c') ∧ OwnY w' w.heap.size (.slice A' 512 c') (pkW rs n) ∧ (pkW rs n).length = 512 ∧ Below w.heap.size w w' := by
  obtain ⟨i0, hi0, hz0, hz1, hz2⟩ := info_parts u8_info
  obtain ⟨N, hN⟩ : ∃ N, N = 512 := ⟨_, rfl⟩
  have HN := Lib.hid hN
  obtain ⟨AL, cL, rfl⟩ := h.form
  obtain ⟨w1, hw1⟩ : ∃ w1, w1 = w.alloc (.cells #[.int .i64 m, X, .int .i64 a, .slice AL rs.length cL] 52) := ⟨_, rfl⟩
  have hB1 : Below w.heap.size w w1 := by rw [hw1]; exact (Below.refl _ _).alloc (Nat.le_refl _) _
  have hb1 : Bk w1 w.heap.size 52 #[.int .i64 m, X, .int .i64 a, .slice AL rs.length cL] := by rw [hw1]; exact Bk.new _ _ _
  have hz1' : w.heap.size < w1.heap.size ∧ w1.heap.size ≤ w.heap.size + 1 := by rw [hw1]; simp
  have HB1 := Lib.hid hb1
  have HW1 := Lib.hid hw1
  have HBl := Lib.hid hB1
  have HL := Lib.hid (h.below hB1)
  have k0 : w1.cell? ⟨w.heap.size, 0, none⟩ = some (.int .i64 m) := hb1.cell 0
  clear h hB1 hb1 hN hw1
  go_enter Try.func28, Try.ntmps28
  go_upto_region 1 with fail
  rw [← HW1.out]
  go_upto_region 4 with (at_make; refine wpList_make_full _ rfl _ _ 32 rfl w1.heap.size 5 i0 (.int .u8 0) 1 Try.underlying32 hi0 hz0 hz1 .i64 .i64 _ _ N rfl rfl (by have := HN.out; omega) (by have := HN.out; omega) (by rw [hz2]; have := HN.out; omega) (by have := HN.out; simp [maxLen]; omega) (Nat.le_refl _) ?_; intro w3 hown hg)
  have hB3 : Below w1.heap.size w1 w3 := (Below.refl w1.heap.size w1).grown hg (Nat.le_refl _) (fun q hq => by cases hq)
  have hO3 : OwnY w3 w.heap.size (.slice (some ⟨w1.heap.size, 0, none⟩) N N) (pkW (rs.take 0) n) := by
    have h1 : OwnY w3 w1.heap.size (.slice (some ⟨w1.heap.size, 0, none⟩) N N) (List.replicate N 0) := by
      unfold OwnY
      rw [← made_bytes, List.length_replicate]
      exact hown
    rw [HN.out] at h1 ⊢
    exact h1.weaken (by omega)
  have hN2 := HN.out
  subst hN2
  clear hown hg k0
  go_wp2
  go_loopw [5, 6] (fun v5 iv wr => ∃ (k : Nat) (A : Option Addr) (c : Nat), k ≤ rs.length ∧ iv = .int .i64 k ∧ v5 = .slice A 512 c ∧ OwnY wr w.heap.size (.slice A 512 c) (pkW (rs.take k) n) ∧ (pkW (rs.take k) n).length = 512 ∧ Below w1.heap.size w1 wr) (fun _ iv _ => rs.length - (intOf iv).toNat)
  case atStart => exact ⟨0, _, _, Nat.zero_le _, rfl, rfl, hO3, by simp [pkW], hB3⟩
  case round =>
    clear hO3 hB3
    obtain ⟨k, A, c, hk, rfl, rfl, hO, hlen, hB⟩ := hrel
    have k3 : wr.cell? ⟨w.heap.size, 3, none⟩ = some (.slice AL rs.length cL) := (hB.cell (p := ⟨w.heap.size, 3, none⟩) (by show w.heap.size < _; omega)).trans (HB1.out.cell 3)
    rcases Nat.lt_or_ge k rs.length with hlt | hge
    · obtain ⟨r, g, hr, hrm, rfl, hg1, hg2, c0, c1, hOr, hrl⟩ := (HL.out.below hB).get hlt
      have HT := Lib.hid (pkW_take hr n)
      by_cases hrn : r.n = n
      · have hb : ((r.n : Int) == (n : Int)) = true := beq_iff_eq.2 (by omega)
        have HT2 : Hid (pkW (rs.take (k + 1)) n = r.b) := by show _ = _; rw [HT.out, if_pos hrn]
        obtain ⟨wi, hwi⟩ : ∃ wi, wi = wr.alloc (.cells #[] 5) := ⟨_, rfl⟩
        have hBi : Below wr.heap.size wr wi := by rw [hwi]; exact (Below.refl _ _).alloc (Nat.le_refl _) _
        have HWI := Lib.hid hwi
        have HOi : Hid (wi.ownsRow w.heap.size 5 1 (.slice (some ⟨wr.heap.size, 0, none⟩) 0 0) 0 []) := by
          rw [hwi]
          exact World.ownsRow_made (base := w.heap.size) (e := 5) (size := 1) wr #[] 0 (by have := hB.size; omega) (by decide) rfl
        have HRi : Hid (Rd wi wi.heap.size r.A (r.b.map bv)) := (hOr.below hBi).rd
        have hzi : wr.heap.size < wi.heap.size ∧ wi.heap.size ≤ wr.heap.size + 1 := by rw [hwi]; simp
        have hBs := hB.size
        have h1 := Lib.hid (oneY r.b)
        have hrl2 : r.b.length ≤ 512 := by omega
        have HRL := Lib.hid hrl
        have cc1 : wi.cell? ⟨g, k * 2 + 1, none⟩ = some (.slice r.A r.b.length r.c) := (hBi.cell (p := ⟨g, _, none⟩) hg2).trans c1
        have cc3 : wi.cell? ⟨w.heap.size, 3, none⟩ = some (.slice (some ⟨g, 0, none⟩) rs.length cL) := (hBi.cell (p := ⟨w.heap.size, _, none⟩) (by show w.heap.size < _; omega)).trans k3
        have HBi := Lib.hid hBi
        have HBr := Lib.hid hB
        clear hr hrn hOr hrl hO hlen hBi hB HT
        go_upto_region 8 with fail
        rw [hwi] at cc1 cc3
        have HOj : Hid ((wr.alloc (.cells #[] 5)).ownsRow w.heap.size 5 1 (.slice (some ⟨wr.heap.size, 0, none⟩) 0 0) 0 []) := by rw [← HWI.out]; exact HOi.out
        have HRj : Hid (Rd (wr.alloc (.cells #[] 5)) wi.heap.size r.A (r.b.map bv)) := by rw [← HWI.out]; exact HRi.out
        clear hwi
        go_wp2_with (at_builtin; refine wpList_append_rd rfl (.tmp 31) (.tmp 37) 32 rfl w.heap.size 5 i0 (.int .u8 0) 1 Try.underlying32 hi0 hz0 hz1 hz2 rfl (.slice (some ⟨wr.heap.size, 0, none⟩) 0 0) 0 [] rfl HOj.out wi.heap.size r.A r.b.length r.c (r.b.map bv) rfl (by simp) HRj.out h1.out (by simp [maxLen]; omega) (by simp; omega) (by simp; omega) ?_; intro v2 w2 hown2 hg2' hat2)
        have hO2 : OwnY w2 w.heap.size v2 r.b := by
          unfold OwnY
          simpa using hown2
        obtain ⟨A3, c3, rfl⟩ := hO2.form
        have hB2 : Below w1.heap.size w1 w2 := (HBr.out.alloc HBr.out.size (.cells #[] 5)).grown hg2' (by simp; omega) (fun q hq => by simp [Value.ownBlock] at hq; omega)
        rw [HRL.out] at hO2 ⊢
        clear hown2 hg2' hat2
        go_wp2
        go_roundw
        case rel => exact ⟨k + 1, A3, c3, by omega, by go_num, rfl, by rw [HT2.out]; exact hO2, by rw [HT2.out]; exact HRL.out, hB2⟩
        case measure => simp [intOf]; omega
      · have hb : ((r.n : Int) == (n : Int)) = false := beq_eq_false_iff_ne.2 (by omega)
        have HT2 : Hid (pkW (rs.take (k + 1)) n = pkW (rs.take k) n) := by show _ = _; rw [HT.out, if_neg hrn]
        clear hr hrn hOr hrl HT
        go_wp2
        go_roundw
        case rel => exact ⟨k + 1, A, c, by omega, by go_num, rfl, by rw [HT2.out]; exact hO, by rw [HT2.out]; exact hlen, hB⟩
        case measure => simp [intOf]; omega
    · obtain rfl : k = rs.length := by omega
      rw [List.take_of_length_le (Nat.le_refl _)] at hO hlen
      go_wp2
      go_ret
      exact ⟨A, c, rfl, hO, hlen, HBl.out.trans (hB.mono (by omega))⟩
end Go.Proofs.Ytcbfaahnhdmagaa
