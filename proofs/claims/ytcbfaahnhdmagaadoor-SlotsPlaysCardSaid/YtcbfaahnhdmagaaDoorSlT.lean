/- Slots: the reference's pages; its At and asks. -/
import Derived.Test.YtcbfaahnhdmagaaDoorSlS
import Derived.Test.YtcbfaahnhdmagaaDoorGyApp
namespace Go.Proofs.YtcbfaahnhdmagaaDoor
open Go.RowKit

/-- A page that the reference has. -/
structure Pg where
  n : Nat
  A : Option Addr
  c : Nat
  b : List UInt8
def pgCells (rs : List Pg) : List Value := rs.flatMap fun r => [Value.int .i64 (r.n : Int), .slice r.A r.b.length r.c]
/-- All its pages, in blocks of the call's own from base on. -/
structure RefP (w : World) (base : Nat) (v : Value) (rs : List Pg) : Prop where
  row : w.ownsRow base 98 2 v rs.length (pgCells rs)
  ys : ∀ r ∈ rs, OwnY w base (.slice r.A r.b.length r.c) r.b ∧ r.b.length = 4096
section
variable {w w' : World} {base : Nat} {v : Value} {rs : List Pg}
theorem RefP.fr {R : Nat → Prop} (h : RefP w base v rs) (hf : Fr R w w') (hR : ∀ k, base ≤ k → k < w.heap.size → ¬ R k) : RefP w' base v rs :=
  ⟨own_fr h.row hf hR, fun r hr => ⟨own_fr (h.ys r hr).1 hf hR, (h.ys r hr).2⟩⟩
theorem RefP.below (h : RefP w base v rs) (hb : Below w.heap.size w w') : RefP w' base v rs :=
  h.fr (Fr.of_below (S := fun k => w.heap.size ≤ k) hb fun _ _ h => h) fun k _ h2 h3 => by omega
theorem RefP.nil (w : World) (base : Nat) : RefP w base (.slice none 0 0) [] := ⟨World.ownsRow_nil _ _ _ _, fun r hr => by cases hr⟩
theorem RefP.form (h : RefP w base v rs) : ∃ A c, v = .slice A rs.length c := owns_form h.row
theorem RefP.rd {A : Option Addr} {n c : Nat} (h : RefP w base (.slice A n c) rs) : Rd w w.heap.size A (pgCells rs) := by
  intro k u hu
  have h1 := h.row.1
  have hk := (List.getElem?_eq_some_iff.1 hu).1
  have hl : (pgCells rs).length = rs.length * 2 := pair_len _ _ _
  obtain ⟨g, cap, hv, _, hlt⟩ := h.row.form (by omega)
  have hA : A = some ⟨g, 0, none⟩ := by injection hv
  subst hA
  exact ⟨_, rfl, hlt, h.row.cells (g := g) rfl k u hu⟩
theorem RefP.get {A : Option Addr} {n c : Nat} (h : RefP w base (.slice A n c) rs) {k : Nat} (hk : k < rs.length) : ∃ r g, rs[k]? = some r ∧ r ∈ rs ∧ A = some ⟨g, 0, none⟩ ∧ base ≤ g ∧ g < w.heap.size ∧ w.cell? ⟨g, k * 2, none⟩ = some (.int .i64 (r.n : Int)) ∧ w.cell? ⟨g, k * 2 + 1, none⟩ = some (.slice r.A r.b.length r.c) ∧ OwnY w base (.slice r.A r.b.length r.c) r.b ∧ r.b.length = 4096 := by
  have e : rs[k]? = some rs[k] := by simp [hk]
  have hp := pair_get (fun r : Pg => Value.int .i64 (r.n : Int)) (fun r : Pg => .slice r.A r.b.length r.c) rs k
  rw [e] at hp
  obtain ⟨g, cap, hv, hg, hlt⟩ := h.row.form (by omega)
  have hA : A = some ⟨g, 0, none⟩ := by injection hv
  subst hA
  obtain ⟨_, e1, _, c1⟩ := h.rd _ _ hp.1
  obtain ⟨_, e2, _, c2⟩ := h.rd _ _ hp.2
  injection e1 with e1
  injection e2 with e2
  subst e1
  rw [← e2, off_z] at c2
  rw [off_z] at c1
  have hm : rs[k] ∈ rs := List.getElem_mem hk
  exact ⟨rs[k], g, e, hm, rfl, hg, hlt, c1, c2, (h.ys _ hm).1, (h.ys _ hm).2⟩
end
theorem s9_info : (Tryd.prog.info? 70).map (·.size) = some 4 := by kernel_rfl
theorem s9_zero (w : World) : (zeroValue 70).run Tryd.prog w = .ok (.agg #[.int .i64 0, .slice none 0 0, .int .i64 0, .slice none 0 0]) w := by kernel_rfl

set_option maxRecDepth 100000 in
set_option maxHeartbeats 2000000 in
theorem rAt_any {w : World} {base : Nat} {rs : List Pg} {AL : Option Addr} {cL : Nat} (M X Y : Value) (n : Int) (h : RefP w base (.slice AL rs.length cL) rs) (hl : rs.length ≤ 1000) :
    Calls Tryd.prog 36 #[.agg #[M, X, Y, .slice AL rs.length cL], .int .i64 n] w fun e w' => ((∃ (k : Nat) (r : Pg), e = .returned (.int .i64 (k : Int)) ∧ rs[k]? = some r ∧ (r.n : Int) = n) ∨ (e = .returned (.int .i64 (-1)) ∧ ∀ r ∈ rs, (r.n : Int) ≠ n)) ∧ Below w.heap.size w w' := by
  obtain ⟨w1, hw1⟩ : ∃ w1, w1 = w.alloc (.cells #[M, X, Y, .slice AL rs.length cL] 70) := ⟨_, rfl⟩
  have hB1 : Below w.heap.size w w1 := by rw [hw1]; exact (Below.refl _ _).alloc (Nat.le_refl _) _
  have hb1 : Bk w1 w.heap.size 70 #[M, X, Y, .slice AL rs.length cL] := by rw [hw1]; exact Bk.new _ _ _
  have HW1 := Lib.hid hw1
  have HBl := Lib.hid hB1
  have HL := Lib.hid (h.below hB1)
  have k3 : w1.cell? ⟨w.heap.size, 3, none⟩ = some (.slice AL rs.length cL) := hb1.cell 3
  clear h hB1 hb1 hw1
  go_enter Tryd.func36, Tryd.ntmps36
  go_upto_region 1 with fail
  rw [← HW1.out]
  clear HW1
  go_wp2
  go_loop [5] (fun iv => ∃ k : Nat, k ≤ rs.length ∧ iv = .int .i64 k ∧ Hid (∀ r ∈ rs.take k, (r.n : Int) ≠ n)) (fun iv => rs.length - (intOf iv).toNat)
  case atStart => exact ⟨0, Nat.zero_le _, rfl, fun r hr => by simp at hr⟩
  case round =>
    obtain ⟨k, hk, rfl, HK⟩ := hrel
    rcases Nat.lt_or_ge k rs.length with hlt | hge
    · obtain ⟨r, g, hr, hrm, rfl, hg1, hg2, c0, c1, hOr, hrl⟩ := HL.out.get hlt
      have HR := Lib.hid hr
      clear hOr hrl c1
      by_cases hrn : (r.n : Int) = n
      · have hb : ((r.n : Int) == n) = true := beq_iff_eq.2 hrn
        have HE := Lib.hid hrn
        clear hrn hr
        go_wp2
        go_ret
        exact ⟨.inl ⟨k, rfl, r, HR.out, HE.out⟩, HBl.out⟩
      · have hb : ((r.n : Int) == n) = false := beq_eq_false_iff_ne.2 hrn
        have HE := Lib.hid hrn
        clear hrn hr
        go_wp2
        go_round
        case rel =>
          refine ⟨k + 1, by omega, by go_num, fun e he => ?_⟩
          rw [List.take_add_one, HR.out] at he
          rcases List.mem_append.1 he with he | he
          · exact HK.out e he
          · simp at he
            rw [he]; exact HE.out
        case measure => simp [intOf]; omega
    · obtain rfl : k = rs.length := by omega
      rw [List.take_of_length_le (Nat.le_refl _)] at HK
      go_wp2
      go_ret
      exact ⟨.inr ⟨rfl, HK.out⟩, HBl.out⟩
theorem rAt_no {w : World} {base : Nat} {rs : List Pg} {AL : Option Addr} {cL : Nat} (M X Y : Value) (n : Int) (h : RefP w base (.slice AL rs.length cL) rs) (hl : rs.length ≤ 1000) (hn : ∀ r ∈ rs, (r.n : Int) ≠ n) :
    Calls Tryd.prog 36 #[.agg #[M, X, Y, .slice AL rs.length cL], .int .i64 n] w fun e w' => e = .returned (.int .i64 (-1)) ∧ Below w.heap.size w w' :=
  (rAt_any M X Y n h hl).mono fun e w' ⟨h1, h2⟩ => ⟨by
    rcases h1 with ⟨k, r, _, h4, h5⟩ | ⟨h3, _⟩
    · exact absurd h5 (hn r (List.mem_of_getElem? h4))
    · exact h3, h2⟩
theorem rAt_yes {w : World} {base : Nat} {rs : List Pg} {AL : Option Addr} {cL : Nat} (M X Y : Value) (n : Int) (h : RefP w base (.slice AL rs.length cL) rs) (hl : rs.length ≤ 1000) (hn : ∃ r ∈ rs, (r.n : Int) = n) :
    Calls Tryd.prog 36 #[.agg #[M, X, Y, .slice AL rs.length cL], .int .i64 n] w fun e w' => (∃ (k : Nat) (r : Pg), e = .returned (.int .i64 (k : Int)) ∧ rs[k]? = some r ∧ (r.n : Int) = n) ∧ Below w.heap.size w w' :=
  (rAt_any M X Y n h hl).mono fun e w' ⟨h1, h2⟩ => ⟨by
    rcases h1 with h1 | ⟨_, h3⟩
    · exact h1
    · obtain ⟨r, hr, he⟩ := hn
      exact absurd he (h3 r hr), h2⟩

set_option maxRecDepth 100000 in
set_option maxHeartbeats 2000000 in
theorem rAsks_any {w : World} {B : Nat} {A : Option Addr} {a c : Nat} {l : List Bool} (M Y : Value) (hA : RdB w B A l) (hB : B ≤ w.heap.size) (ha : a ≤ 1000000) :
    Calls Tryd.prog 59 #[.agg #[M, .slice A l.length c, .int .i64 a, Y]] w fun e w' => e = .returned (.tuple #[.int .i64 (cnt8 l a : Nat), .bool (bad8 l a)]) ∧ Below w.heap.size w w' := by
  obtain ⟨w1, hw1⟩ : ∃ w1, w1 = w.alloc (.cells #[M, .slice A l.length c, .int .i64 a, Y] 70) := ⟨_, rfl⟩
  have hB1 : Below w.heap.size w w1 := by rw [hw1]; exact (Below.refl _ _).alloc (Nat.le_refl _) _
  have hb1 : Bk w1 w.heap.size 70 #[M, .slice A l.length c, .int .i64 a, Y] := by rw [hw1]; exact Bk.new _ _ _
  have HW1 := Lib.hid hw1
  have HBl := Lib.hid hB1
  have HF : Hid (∀ k : Nat, Calls Tryd.prog 61 #[.slice A l.length c, .int .i64 ((a : Int) + (k : Int))] w1 fun e w' => e = .returned (.bool (l[a + k]?.getD false)) ∧ w1 = w') := fun k => by
    have := refFails_any (c := c) (hA.below (hB1.mono hB)) (a + k)
    rwa [show ((a + k : Nat) : Int) = (a : Int) + (k : Int) by omega] at this
  have k1 : w1.cell? ⟨w.heap.size, 1, none⟩ = some (.slice A l.length c) := hb1.cell 1
  have k2 : w1.cell? ⟨w.heap.size, 2, none⟩ = some (.int .i64 a) := hb1.cell 2
  clear hA hB1 hb1 hw1
  go_enter Tryd.func59, Tryd.ntmps59
  go_upto_region 1 with fail
  rw [← HW1.out]
  clear HW1
  go_wp2
  go_loop [4] (fun iv => ∃ k : Nat, k ≤ 8 ∧ iv = .int .i64 k ∧ Hid (ask8 l a k = none)) (fun iv => 8 - (intOf iv).toNat)
  case atStart => exact ⟨0, Nat.zero_le _, rfl, rfl⟩
  case round =>
    obtain ⟨k, hk, rfl, HK⟩ := hrel
    rcases Nat.lt_or_ge k 8 with hlt | hge
    · have hki : (k : Int) < 8 := by omega
      have HFk := Lib.hid (HF.out k)
      have HS := Lib.hid (ask8_succ l a k HK.out)
      cases hx : l[a + k]?.getD false
      · rw [hx] at HFk HS
        clear hx
        go_wp2_with fail
        refine HFk.out.mono ?_
        rintro e w2 ⟨rfl, rfl⟩
        go_wp2
        go_round
        case rel => exact ⟨k + 1, by omega, by go_num, HS.out⟩
        case measure => simp [intOf]; omega
      · rw [hx] at HFk HS
        have HE := Lib.hid (bad8_some (ask8_stop (m := 8) HS.out (by omega)))
        clear hx
        go_wp2_with fail
        refine HFk.out.mono ?_
        rintro e w2 ⟨rfl, rfl⟩
        go_wp2
        go_ret2
        rw [HE.out.1, HE.out.2]
        refine ⟨?_, HBl.out⟩
        rw [show ((k + 1 : Nat) : Int) = (k : Int) + 1 by omega]
        rfl
    · obtain rfl : k = 8 := by omega
      have HE := Lib.hid (bad8_none HK.out)
      go_wp2
      go_ret2
      rw [HE.out.1, HE.out.2]
      exact ⟨rfl, HBl.out⟩
end Go.Proofs.YtcbfaahnhdmagaaDoor
