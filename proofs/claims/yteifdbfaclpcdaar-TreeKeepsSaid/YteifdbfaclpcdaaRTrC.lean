/- A tree of records: New, Get, Len, Set. -/
import Derived.Test.YteifdbfaclpcdaaRTrB
namespace Go.Proofs.YteifdbfaclpcdaaR.Rr
open Go.RowKit

theorem Rec.of {v : Value} (h : VOk v) : ∃ r : Rec, v = r.v := by
  obtain ⟨a, b, c, d, rfl⟩ := h
  exact ⟨⟨a, b, c, d⟩, rfl⟩
section
variable {w w' : World} {base t n last : Nat} {f : Nat → Option Value} {fin : Nat → Bool}
theorem TwAt.val (h : TwAt w base t f n fin last) (key : Int) : ∃ r : Rec, (getF f key).getD vZero = r.v := by
  obtain ⟨g, ex, nd, e, gs, gw, h1, h2, h3, h4⟩ := h.parts
  unfold getF
  split
  · cases hf : f key.toNat with
    | none => exact ⟨⟨0, 0, 0, 0⟩, rfl⟩
    | some u => exact Rec.of (h2.ok _ _ hf)
  · exact ⟨⟨0, 0, 0, 0⟩, rfl⟩
theorem twAll (h : TwAt w base t f n fin last) : ∃ g ex nd, RxAt w base g ex nd f n ∧ Calls Try.prog 72 #[.pointer (some ⟨t, 0, none⟩)] w fun e w' => e = .returned (.pointer (some ⟨g, 0, none⟩)) ∧ w = w' := by
  obtain ⟨g, ex, nd, e, gs, gw, h1, h2, h3, h4⟩ := h.parts
  refine ⟨g, ex, nd, h2, ?_⟩
  have hc := h1.cell 0
  clear h h1 h2 h3 h4
  go_enter Try.func72, Try.ntmps72
  go_wp2_with fail
  go_ret
  exact ⟨rfl, rfl⟩
theorem twLen (h : TwAt w base t f n fin last) : Calls Try.prog 52 #[.pointer (some ⟨t, 0, none⟩)] w fun e w' => e = .returned (.int .i64 n) ∧ w = w' := by
  obtain ⟨g, ex, nd, hR, hA⟩ := twAll h
  have HA := Lib.hid hA
  have HL := Lib.hid (rLen hR.tr)
  clear h hR hA
  go_enter Try.func52, Try.ntmps52
  go_wp2_with (first
    | (go_at_call 72; refine HA.out.mono ?_; rintro e w2 ⟨rfl, rfl⟩)
    | (go_at_call 73; refine HL.out.mono ?_; rintro e w3 ⟨rfl, hw3⟩; subst hw3))
  go_ret
  exact ⟨rfl, rfl⟩
theorem twNew (w : World) : Calls Try.prog 49 #[] w fun e w' => ∃ t, e = .returned (.pointer (some ⟨t, 0, none⟩)) ∧ TwAt w' w.heap.size t (fun _ => none) 0 (fun _ => false) 0 ∧ Below w.heap.size w w' := by
  go_enter Try.func49, Try.ntmps49
  go_wp2_with fail
  refine (rNew w).mono ?_
  rintro e w1 ⟨g, rfl, hg, hb, hB1⟩
  have HB1 := Lib.hid hB1
  have HG := Lib.hid hb
  clear hB1 hb
  go_wp2_with fail
  refine (eNew_any w1).mono ?_
  rintro x w2 ⟨e, gs, gw, rfl, hE, hB2, l1, l2, l3⟩
  have HB2 := Lib.hid hB2
  have HE := Lib.hid hE
  clear hB2 hE
  go_wp2_with fail
  go_ret
  have hsz := HB1.out.size
  have hsz2 := HB2.out.size
  have hB3 : Below w2.heap.size w2 (w2.alloc (.cells #[.pointer (some ⟨g, 0, none⟩), .pointer (some ⟨e, 0, none⟩)] 125)) := (Below.refl _ _).alloc (Nat.le_refl _) _
  refine ⟨w2.heap.size, rfl, ⟨⟨g, fun _ _ => false, fun _ _ => 0, e, gs, gw, Bk.new _ _ _, ?_, HE.out.fr (S := fun _ => False) (Fr.of_below0 hB3) id id id, by omega, by omega, by omega, by omega⟩, fun k => ⟨fun h => absurd rfl h, fun ⟨j, _, _, h⟩ => by cases h⟩, (cntB_none 512).symm⟩, ?_⟩
  · have hz0 : cntN (fun _ _ => false) = 0 := by decide +kernel
    refine ⟨⟨?_, fun l p hl hp => (by cases hp), fun k u hk _ => (by cases hk), fun l p l' p' _ _ h1 _ _ => (by cases h1), hg, fun l p _ hp => (by cases hp)⟩, Full.nil, fun k hk => absurd rfl hk, fun k u hu => (by cases hu)⟩
    rw [hz0]
    exact (HG.out.below' HB2.out).alloc _
  · exact HB1.out.trans ((HB2.out.trans (hB3.mono hsz2)).mono hsz)
set_option maxRecDepth 100000 in
theorem twGet (h : TwAt w base t f n fin last) (key : Int) :
    Calls Try.prog 55 #[.pointer (some ⟨t, 0, none⟩), .int .i64 key] w fun e w' => e = .returned (.tuple #[(getF f key).getD vZero, .bool (getF f key).isSome]) ∧ Below w.heap.size w w' := by
  obtain ⟨r, hr⟩ := h.val key
  have hB0 : Below w.heap.size w (w.alloc (.cells #[.int .i64 0, .int .i64 0, .int .i64 0, .int .u64 0] 83)) := (Below.refl _ _).alloc (Nat.le_refl _) _
  have HZ0 : Hid (Bk (w.alloc (.cells #[.int .i64 0, .int .i64 0, .int .i64 0, .int .u64 0] 83)) w.heap.size 83 #[.int .i64 0, .int .i64 0, .int .i64 0, .int .u64 0]) := Bk.new _ _ _
  have HB0 := Lib.hid hB0
  obtain ⟨g, ex, nd, hR, hA⟩ := twAll (h.below0 hB0)
  have HA := Lib.hid hA
  have HG := Lib.hid (rGet hR key)
  rw [hr] at HG ⊢
  obtain ⟨a, b, c, d⟩ := r
  unfold Rec.v at HG ⊢
  simp only at HG ⊢
  generalize (getF f key).isSome = ok at *
  clear h hR hA hr hB0
  go_enter Try.func55, Try.ntmps55
  go_wp2_with fail
  refine HA.out.mono ?_
  rintro e w2 ⟨rfl, rfl⟩
  go_wp2_with fail
  refine HG.out.mono ?_
  rintro e w3 ⟨rfl, hB3⟩
  have hZ := HZ0.out.below' hB3
  have z0 : w3.cell? ⟨w.heap.size, 0, none⟩ = some (.int .i64 0) := hZ.cell 0
  have z1 : w3.cell? ⟨w.heap.size, 1, none⟩ = some (.int .i64 0) := hZ.cell 1
  have z2 : w3.cell? ⟨w.heap.size, 2, none⟩ = some (.int .i64 0) := hZ.cell 2
  have z3 : w3.cell? ⟨w.heap.size, 3, none⟩ = some (.int .u64 0) := hZ.cell 3
  have y0 := hZ.free 0
  have y1 := hZ.free 1
  have y2 := hZ.free 2
  have y3 := hZ.free 3
  have HZ := Lib.hid hZ
  have HB3 := Lib.hid (HB0.out.trans (hB3.mono HB0.out.size))
  clear hZ hB3
  go_wp2_with fail
  refine bodyPost_ret (results_rec (fn := Try.f55) rfl (rec_set4 HZ.out (.int .i64 a) (.int .i64 b) (.int .i64 c) (.int .u64 d)) rfl rfl) rfl ⟨rfl, ?_⟩
  exact HB3.out.trans ((rec_fr4 w3 w.heap.size _ _ _ _).below HB3.out.size fun k hk e => by omega)
end
end Go.Proofs.YteifdbfaclpcdaaR.Rr
