/- A tree of records: Set, Drop. -/
import Derived.Test.YteifdbfaclpcdaaRTrC
namespace Go.Proofs.YteifdbfaclpcdaaR.Rr
open Go.RowKit
section
variable {w w' : World} {base t n last : Nat} {f : Nat → Option Value} {fin : Nat → Bool}
set_option maxRecDepth 100000 in
theorem twSetNo (h : TwAt w base t f n fin last) (key : Int) (r : Rec) (hno : ((getF f key).isSome && r.may) = false) :
    Calls Try.prog 56 #[.pointer (some ⟨t, 0, none⟩), .int .i64 key, .agg #[.int .i64 r.a, .int .i64 r.b, .int .i64 r.c, .int .u64 r.d]] w fun e w' => e = .returned (.bool false) ∧ Below w.heap.size w w' := by
  obtain ⟨r0, hr0⟩ := h.val key
  have HB0 : Hid (Below w.heap.size w (w.alloc (.cells #[.int .i64 r.a, .int .i64 r.b, .int .i64 r.c, .int .u64 r.d] 83))) := (Below.refl _ _).alloc (Nat.le_refl _) _
  have HD0 : Hid (Bk (w.alloc (.cells #[.int .i64 r.a, .int .i64 r.b, .int .i64 r.c, .int .u64 r.d] 83)) w.heap.size 83 #[.int .i64 r.a, .int .i64 r.b, .int .i64 r.c, .int .u64 r.d]) := Bk.new _ _ _
  have HG := Lib.hid (twGet (h.below0 HB0.out) key)
  have HM := Lib.hid (fun W => trMay W r)
  rw [hr0] at HG
  obtain ⟨a, b, c, d⟩ := r0
  unfold Rec.v at HG
  simp only at HG
  cases hs : (getF f key).isSome
  · rw [hs] at HG
    clear h hr0 hno hs
    go_enter Try.func56, Try.ntmps56
    go_wp2_with fail
    refine HG.out.mono ?_
    rintro e w2 ⟨rfl, hB⟩
    have HB := Lib.hid (HB0.out.trans (hB.mono HB0.out.size))
    clear hB
    go_wp2_with fail
    go_ret
    exact ⟨rfl, HB.out.trans (((Below.refl _ _).alloc (Nat.le_refl _) _).mono HB.out.size)⟩
  · rw [hs, Bool.true_and] at hno
    rw [hs] at HG
    rw [hno] at HM
    clear h hr0 hno hs
    go_enter Try.func56, Try.ntmps56
    go_wp2_with fail
    refine HG.out.mono ?_
    rintro e w2 ⟨rfl, hB⟩
    have hD := HD0.out.below' hB
    have k0 : w2.cell? ⟨w.heap.size, 0, none⟩ = some (.int .i64 r.a) := hD.cell 0
    have k1 : w2.cell? ⟨w.heap.size, 1, none⟩ = some (.int .i64 r.b) := hD.cell 1
    have k2 : w2.cell? ⟨w.heap.size, 2, none⟩ = some (.int .i64 r.c) := hD.cell 2
    have k3 : w2.cell? ⟨w.heap.size, 3, none⟩ = some (.int .u64 r.d) := hD.cell 3
    have hlt := hD.lt
    have HB := Lib.hid (HB0.out.trans (hB.mono HB0.out.size))
    clear hB hD
    go_wp2_with fail
    refine (HM.out _).mono ?_
    rintro e w3 ⟨rfl, hB3⟩
    have HB3 := Lib.hid (HB.out.trans ((((Below.refl _ w2).alloc (Nat.le_refl _) _).trans (hB3.mono (by simp))).mono HB.out.size))
    clear hB3
    go_wp2_with fail
    go_ret
    exact ⟨rfl, HB3.out⟩
set_option maxRecDepth 100000 in
set_option maxHeartbeats 1000000 in
theorem twSetYes (h : TwAt w base t f n fin last) (hbase : base ≤ w.heap.size) {k : Nat} (hk : f k ≠ none) (r : Rec) (hm : r.may = true) :
    Calls Try.prog 56 #[.pointer (some ⟨t, 0, none⟩), .int .i64 (k : Int), .agg #[.int .i64 r.a, .int .i64 r.b, .int .i64 r.c, .int .u64 r.d]] w fun e w' => e = .returned (.bool true) ∧ TwAt w' base t (updF f k (some r.v)) n fin last ∧ Below base w w' ∧ Kp w w' := by
  obtain ⟨r0, hr0⟩ := h.val (k : Int)
  have HB0 : Hid (Below w.heap.size w (w.alloc (.cells #[.int .i64 r.a, .int .i64 r.b, .int .i64 r.c, .int .u64 r.d] 83))) := (Below.refl _ _).alloc (Nat.le_refl _) _
  have HD0 : Hid (Bk (w.alloc (.cells #[.int .i64 r.a, .int .i64 r.b, .int .i64 r.c, .int .u64 r.d] 83)) w.heap.size 83 #[.int .i64 r.a, .int .i64 r.b, .int .i64 r.c, .int .u64 r.d]) := Bk.new _ _ _
  have HG := Lib.hid (twGet (h.below0 HB0.out) (k : Int))
  have HM := Lib.hid (fun W => trMay W r)
  have hs : (getF f (k : Int)).isSome = true := by
    rw [getF_nat]
    cases hf : f k
    · exact absurd hf hk
    · rfl
  rw [hr0, hs] at HG
  rw [hm] at HM
  obtain ⟨a, b, c, d⟩ := r0
  unfold Rec.v at HG
  simp only at HG
  obtain ⟨g, ex, nd, e, gs, gw, h1, h2, h3, h4⟩ := h.parts
  have hk6 := h2.lt k hk
  have hcn := cntB_le fin 512
  have hnl : n ≤ 512 := by rw [h.cnt]; exact hcn
  have H := Lib.hid h
  have H1 := Lib.hid h1
  have H2 := Lib.hid h2
  have H3 := Lib.hid h3
  have H4 := Lib.hid h4
  clear hr0 hs hm h h1 h2 h3 h4 hcn
  go_enter Try.func56, Try.ntmps56
  go_wp2_with fail
  refine HG.out.mono ?_
  rintro x w2 ⟨rfl, hB⟩
  have hD := HD0.out.below' hB
  have k0 : w2.cell? ⟨w.heap.size, 0, none⟩ = some (.int .i64 r.a) := hD.cell 0
  have k1 : w2.cell? ⟨w.heap.size, 1, none⟩ = some (.int .i64 r.b) := hD.cell 1
  have k2 : w2.cell? ⟨w.heap.size, 2, none⟩ = some (.int .i64 r.c) := hD.cell 2
  have k3 : w2.cell? ⟨w.heap.size, 3, none⟩ = some (.int .u64 r.d) := hD.cell 3
  have hlt := hD.lt
  have HD := Lib.hid hD
  have HB := Lib.hid (HB0.out.trans (hB.mono HB0.out.size))
  clear hB hD
  go_wp2_with fail
  refine (HM.out _).mono ?_
  rintro x w3 ⟨rfl, hB3⟩
  have hB23 : Below w2.heap.size w2 w3 := ((Below.refl _ w2).alloc (Nat.le_refl _) _).trans (hB3.mono (by simp))
  have HB3 := Lib.hid (HB.out.trans (hB23.mono HB.out.size))
  have hD3 := HD.out.below' hB23
  clear k0 k1 k2 k3 hB3 hB23
  have k0 : w3.cell? ⟨w.heap.size, 0, none⟩ = some (.int .i64 r.a) := hD3.cell 0
  have k1 : w3.cell? ⟨w.heap.size, 1, none⟩ = some (.int .i64 r.b) := hD3.cell 1
  have k2 : w3.cell? ⟨w.heap.size, 2, none⟩ = some (.int .i64 r.c) := hD3.cell 2
  have k3 : w3.cell? ⟨w.heap.size, 3, none⟩ = some (.int .u64 r.d) := hD3.cell 3
  have H13 := Lib.hid (H1.out.below' HB3.out)
  have H23 := Lib.hid (H2.out.below0 HB3.out)
  have H33 := Lib.hid (H3.out.fr (S := fun _ => False) (Fr.of_below0 HB3.out) id id id)
  have hc0 : w3.cell? ⟨t, 0, none⟩ = some (.pointer (some ⟨g, 0, none⟩)) := H13.out.cell 0
  have HS : Hid (Calls Try.prog 71 #[.pointer (some ⟨g, 0, none⟩), .int .i64 (k : Int), .agg #[.int .i64 r.a, .int .i64 r.b, .int .i64 r.c, .int .u64 r.d]] w3.drew fun e w' => e = .returned (.bool true) ∧ SetPost w3.drew base g ex nd f n k r.v w') :=
    rSet (H23.out.below0 ((Fr.refl (fun _ => False) w3).drewN 1).below0) hk6 r.ok (by omega)
  clear hD3
  go_upto_region 4 with fail
  go_still_tail 6, (by kernel_rfl)
  change wpList _ _ _ _ _ w3.drew
  go_wp2_with fail
  refine HS.out.mono ?_
  rintro x w4 ⟨rfl, ex', nd', hR4, hF4⟩
  rw [if_neg hk, Nat.add_zero] at hR4
  have HR4 := Lib.hid hR4
  have HF4 : Hid (Fr (TrS g ex nd) w3 w4) := (((Fr.refl (fun _ => False) w3).drewN 1).mono (S' := TrS g ex nd) (fun _ _ h => h.elim)).trans hF4 fun _ _ h => h
  clear hR4 hF4
  go_wp2_with fail
  go_ret
  refine ⟨rfl, ⟨⟨g, ex', nd', e, gs, gw, H13.out.fr HF4.out (TrS_ne H23.out H13.out (by decide) (by decide)), HR4.out, H33.out.fr HF4.out ?_ ?_ ?_, H4.out⟩, fun q => ?_, H.out.cnt⟩, ?_, ?_⟩
  · exact TrS_ne H23.out H33.out.top (by decide) (by decide)
  · obtain ⟨t', cs', h4, h5⟩ := EntAt.tys H33.out (.inr (.inl rfl))
    rcases h5 with rfl | rfl | rfl <;> exact TrS_ne H23.out h4 (by decide) (by decide)
  · obtain ⟨t', cs', h4, h5⟩ := EntAt.tys H33.out (.inr (.inr rfl))
    rcases h5 with rfl | rfl | rfl <;> exact TrS_ne H23.out h4 (by decide) (by decide)
  · rw [← H.out.dom q]
    unfold updF
    split
    · rename_i e
      subst e
      exact ⟨fun _ => hk, fun _ => by simp⟩
    · exact Iff.rfl
  · have hb1 : Below base w w3 := HB3.out.mono hbase
    exact hb1.trans (HF4.out.below (Nat.le_trans hbase hb1.size) fun q hq => TrS_lo H23.out hq)
  · intro b ty cs hb a1 a2 a3 a4 a5
    have hb3 := hb.below' HB3.out
    exact hb3.fr HF4.out (TrS_ne H23.out hb3 a1 a2)
end
end Go.Proofs.YteifdbfaclpcdaaR.Rr
