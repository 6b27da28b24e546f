/- Slots: a step of both, Put. -/
import Derived.Test.YtcbfaahnhdmagaaDoorSlX
namespace Go.Proofs.YtcbfaahnhdmagaaDoor
open Go.RowKit

/-- Slots and the reference's, both. -/
structure Bth (w0 w : World) (S : Nat → Prop) (gs gd gl gb g gw : Nat) (l : List Bool) (a many : Nat) (pg : Nat → List UInt8) (f : Nat → Bool) (bs : Nat) (AL : Option Addr) (cL : Nat) (rs : List Pg) : Prop where
  sl : SlRun w0 w S gs gd gl gb g gw l a many pg f
  ref : RefP w bs (.slice AL rs.length cL) rs
  ties : Ties rs many f pg
  old : ∀ k, SlB S gs gd gb g gw k → k < bs
  lo : w0.heap.size ≤ bs
  hi : bs ≤ w.heap.size
section
variable {w0 w w' : World} {S : Nat → Prop} {gs gd gl gb g gw a many bs cL : Nat} {l : List Bool} {pg : Nat → List UInt8} {f : Nat → Bool} {AL : Option Addr} {rs : List Pg}
theorem Bth.below0 (h : Bth w0 w S gs gd gl gb g gw l a many pg f bs AL cL rs) (hb : Below w.heap.size w w') : Bth w0 w' S gs gd gl gb g gw l a many pg f bs AL cL rs :=
  ⟨h.sl.below0 hb, h.ref.below hb, h.ties, h.old, h.lo, Nat.le_trans h.hi hb.size⟩
/-- The slots turned, and tell the same. -/
theorem Bth.step {a' : Nat} (h : Bth w0 w S gs gd gl gb g gw l a many pg f bs AL cL rs) (hS : SlRun w0 w' S gs gd gl gb g gw l a' many pg f) (hF : Fr (SlW gl gb g gw) w w') : Bth w0 w' S gs gd gl gb g gw l a' many pg f bs AL cL rs :=
  ⟨hS, h.ref.fr hF fun k h1 _ h3 => (by have := h.old k (h.sl.inW k h3); omega), h.ties, h.old, h.lo, Nat.le_trans h.hi hF.size⟩
/-- A block that was made behind the slots lies apart from them. -/
theorem Bth.far (h : Bth w0 w S gs gd gl gb g gw l a many pg f bs AL cL rs) {q : Nat} (hq : bs ≤ q) : ¬ SlW gl gb g gw q := fun e => by
  have := h.old q (h.sl.inW q e)
  omega
theorem Bth.farB (h : Bth w0 w S gs gd gl gb g gw l a many pg f bs AL cL rs) {q : Nat} (hq : bs ≤ q) : ¬ SlB S gs gd gb g gw q := fun e => by
  have := h.old q e
  omega
theorem Bth.le (h : Bth w0 w S gs gd gl gb g gw l a many pg f bs AL cL rs) : rs.length ≤ 128 := Nat.le_trans h.ties.le h.sl.many_le
end
/-- What a step leaves. -/
def StepQ (w0 w : World) (S : Nat → Prop) (gs gd gl gb g gw : Nat) (l : List Bool) (a many : Nat) (bs : Nat) (A : Option Addr) (c : Nat) (e : Ending) (w' : World) : Prop :=
  ∃ (a' : Nat) (rs' : List Pg) (AL' : Option Addr) (cL' : Nat) (pg' : Nat → List UInt8) (f' : Nat → Bool), e = .returned (.tuple #[.agg #[.int .i64 many, .slice A l.length c, .int .i64 a', .slice AL' rs'.length cL'], .bool true]) ∧ a' ≤ a + 8 ∧
    Bth w0 w' S gs gd gl gb g gw l a' many pg' f' bs AL' cL' rs' ∧ Fr (SlW gl gb g gw) w w'
theorem RefP.far {w w' : World} {base q : Nat} {v : Value} {rs : List Pg} {cs : Array Value} (h : RefP w base v rs) (hZ : Bk w q 70 cs) (hf : Fr (· = q) w w') : RefP w' base v rs :=
  ⟨owns_same h.row fun k hk => hf.block k (World.ownsRow.lt h.row k hk).2 (fun e => owns_ne h.row hZ (by decide) (e ▸ hk)),
    fun r hr => ⟨owns_same (h.ys r hr).1 fun k hk => hf.block k (World.ownsRow.lt (h.ys r hr).1 k hk).2 (fun e => owns_ne (h.ys r hr).1 hZ (by decide) (e ▸ hk)), (h.ys r hr).2⟩⟩
/-- The box that is handed back, stored at last. -/
theorem stepQ_fin {w0 w wb : World} {S : Nat → Prop} {gs gd gl gb g gw a a' many bs cL c q : Nat} {l : List Bool} {pg : Nat → List UInt8} {f : Nat → Bool} {A AL : Option Addr} {rs : List Pg} {zs : Array Value} (h : Bth w0 wb S gs gd gl gb g gw l a' many pg f bs AL cL rs) (hF : Fr (SlW gl gb g gw) w wb) (hZ : Bk wb q 70 zs) (hq : w.heap.size ≤ q) (hb : bs ≤ w.heap.size) (ha : a' ≤ a + 8) (b0 b1 b2 b3 : Value) :
    StepQ w0 w S gs gd gl gb g gw l a many bs A c (.returned (.tuple #[.agg #[.int .i64 many, .slice A l.length c, .int .i64 a', .slice AL rs.length cL], .bool true])) ((((wb.setCell ⟨q, 0, none⟩ b0).setCell ⟨q, 1, none⟩ b1).setCell ⟨q, 2, none⟩ b2).setCell ⟨q, 3, none⟩ b3) := by
  have hf := fr_set4 wb q b0 b1 b2 b3
  refine ⟨a', rs, AL, cL, pg, f, rfl, ha, ⟨h.sl.far hf fun k e => ?_, h.ref.far hZ hf, h.ties, h.old, h.lo, Nat.le_trans h.hi hf.size⟩, hF.trans hf fun k hk e => by omega⟩
  subst e
  exact ⟨Nat.le_trans h.lo (Nat.le_trans hb hq), h.farB (Nat.le_trans hb hq)⟩
theorem st_new (w : World) (m a kd nd : Int) (fd : UInt8) (A AL dA : Option Addr) (nA c nL cL dn dc : Nat) : ∃ w7, w7 = ((w.alloc (.cells #[.int .i64 m, .slice A nA c, .int .i64 a, .slice AL nL cL] 70)).alloc (.cells #[.int .i64 kd, .int .i64 nd, .int .u8 (fd.toNat : Int), .slice dA dn dc] 64)).alloc (.cells #[.int .i64 0, .slice none 0 0, .int .i64 0, .slice none 0 0] 70) ∧
    Bk w7 w.heap.size 70 #[.int .i64 m, .slice A nA c, .int .i64 a, .slice AL nL cL] ∧ Bk w7 (w.heap.size + 1) 64 #[.int .i64 kd, .int .i64 nd, .int .u8 (fd.toNat : Int), .slice dA dn dc] ∧ Bk w7 (w.heap.size + 1 + 1) 70 #[.int .i64 0, .slice none 0 0, .int .i64 0, .slice none 0 0] ∧ Below w.heap.size w w7 ∧ w.heap.size + 3 ≤ w7.heap.size := by
  refine ⟨_, rfl, ((Bk.new _ _ _).alloc _).alloc _, (Bk.new_at _ _ _ (by simp)).alloc _, Bk.new_at _ _ _ (by simp), (((Below.refl _ _).alloc (Nat.le_refl _) _).alloc (by simp) _).alloc (by simp; omega) _, by simp⟩

set_option maxRecDepth 100000 in
set_option maxHeartbeats 8000000 in
theorem step_put {w0 w : World} {S : Nat → Prop} {gs gd gl gb g gw a many bs cL c : Nat} {l : List Bool} {pg : Nat → List UInt8} {f : Nat → Bool} {A AL : Option Addr} {rs : List Pg} (hT : Tab w0) (h : Bth w0 w S gs gd gl gb g gw l a many pg f bs AL cL rs)
    (hA : RdB w0 w0.heap.size A l) (hl : l.length ≤ 3000) (ha : a ≤ 800000) {kd nd : Int} {fd : UInt8} {dA : Option Addr} {dc : Nat} {db : List UInt8} (hd : RdY w0 w0.heap.size dA db) (hdc : db.length ≤ dc) (hk : kd = 0 ∨ kd = 1 ∨ kd = 2) :
    Calls Tryd.prog 34 #[.pointer (some ⟨gs, 0, none⟩), .agg #[.int .i64 many, .slice A l.length c, .int .i64 a, .slice AL rs.length cL], .agg #[.int .i64 kd, .int .i64 nd, .int .u8 (fd.toNat : Int), .slice dA db.length dc]] w (StepQ w0 w S gs gd gl gb g gw l a many bs A c) := by
  obtain ⟨w7, hw7, hbX, hbD, hbZ, hB7, hz7⟩ := st_new w many a kd nd fd A AL dA l.length c rs.length cL db.length dc
  have HX7 := Lib.hid hbX
  have HZ7 := Lib.hid hbZ
  have HB7 := Lib.hid hB7
  have HW7 := Lib.hid hw7
  have H7 := Lib.hid (h.below0 hB7)
  have HAs := Lib.hid hA
  have HDd := Lib.hid hd
  have HDc := Lib.hid hdc
  have HT := Lib.hid hT
  have c0 : w7.cell? ⟨w.heap.size + 1, 0, none⟩ = some (.int .i64 kd) := hbD.cell 0
  have c2 : w7.cell? ⟨w.heap.size + 1, 2, none⟩ = some (.int .u8 (fd.toNat : Int)) := hbD.cell 2
  have c3 : w7.cell? ⟨w.heap.size + 1, 3, none⟩ = some (.slice dA db.length dc) := hbD.cell 3
  have hfd := byte_le fd
  have hlw : w0.heap.size ≤ w.heap.size := Nat.le_trans h.lo h.hi
  have hbw : bs ≤ w.heap.size := h.hi
  obtain ⟨N, hN⟩ : ∃ N : Nat, N = 4096 := ⟨_, rfl⟩
  have HF0 := filled9_any w7 fd
  rw [← hN] at HF0
  have HF := Lib.hid HF0
  have HN := Lib.hid hN
  clear hw7 hbX hbD hbZ hB7 h hA hd hdc hT HF0 hN
  go_enter Tryd.func34, Tryd.ntmps34
  go_upto_region 1 with fail
  rw [← HW7.out]
  clear HW7
  have hk4 : kd = 0 ∨ kd = 1 ∨ (kd = 2 ∧ db.length = 4096) ∨ (kd = 2 ∧ db.length ≠ 4096) := by omega
  clear hk
  rcases hk4 with rfl | rfl | ⟨rfl, h4⟩ | ⟨rfl, h4⟩
  rotate_left 3
  · have HX := Lib.hid (rPut_len w7 A AL dA many a l.length c rs.length cL db.length dc h4)
    go_upto_region 8 with fail
    have k0 : w7.cell? ⟨w.heap.size, 0, none⟩ = some (.int .i64 many) := HX7.out.cell 0
    have k1 : w7.cell? ⟨w.heap.size, 1, none⟩ = some (.slice A l.length c) := HX7.out.cell 1
    have k2 : w7.cell? ⟨w.heap.size, 2, none⟩ = some (.int .i64 a) := HX7.out.cell 2
    have k3 : w7.cell? ⟨w.heap.size, 3, none⟩ = some (.slice AL rs.length cL) := HX7.out.cell 3
    go_wp2_with fail
    refine HX.out.mono ?_
    rintro e w9 ⟨rfl, hB9⟩
    have HX9 := Lib.hid (slPut_len (w9.alloc (.cells #[.int .i64 many, .slice A l.length c, .int .i64 a, .slice AL rs.length cL] 70)) (some ⟨gs, 0, none⟩) dA db.length dc h4)
    have hBa := hB9.alloc hB9.size (.cells #[.int .i64 many, .slice A l.length c, .int .i64 a, .slice AL rs.length cL] 70)
    have HYa := Lib.hid (Bk.new w9 70 #[.int .i64 many, .slice A l.length c, .int .i64 a, .slice AL rs.length cL])
    have HZa := Lib.hid (HZ7.out.below' hBa)
    have Ha := Lib.hid (H7.out.below0 hBa)
    have HFa : Hid (Fr (SlW gl gb g gw) w _) := Fr.of_below0 (HB7.out.trans (hBa.mono HB7.out.size))
    clear k0 k1 k2 k3 c0 c2 c3 hBa hB9 HX
    go_wp2_with fail
    refine HX9.out.mono ?_
    generalize w9.alloc (.cells #[.int .i64 many, .slice A l.length c, .int .i64 a, .slice AL rs.length cL] 70) = wa at *
    rintro e wb ⟨rfl, rfl⟩
    generalize w9.heap.size = g9 at *
    clear HX9
    have y0 : wa.cell? ⟨g9, 0, none⟩ = some (.int .i64 many) := HYa.out.cell 0
    have y1 : wa.cell? ⟨g9, 1, none⟩ = some (.slice A l.length c) := HYa.out.cell 1
    have y2 : wa.cell? ⟨g9, 2, none⟩ = some (.int .i64 a) := HYa.out.cell 2
    have y3 : wa.cell? ⟨g9, 3, none⟩ = some (.slice AL rs.length cL) := HYa.out.cell 3
    have z0 : wa.cell? ⟨w.heap.size + 1 + 1, 0, none⟩ = some (.int .i64 0) := HZa.out.cell 0
    have z1 : wa.cell? ⟨w.heap.size + 1 + 1, 1, none⟩ = some (.slice none 0 0) := HZa.out.cell 1
    have z2 : wa.cell? ⟨w.heap.size + 1 + 1, 2, none⟩ = some (.int .i64 0) := HZa.out.cell 2
    have z3 : wa.cell? ⟨w.heap.size + 1 + 1, 3, none⟩ = some (.slice none 0 0) := HZa.out.cell 3
    have f0 := HZa.out.free 0
    have f1 := HZa.out.free 1
    have f2 := HZa.out.free 2
    have f3 := HZa.out.free 3
    go_wp2
    have HS := s9_back HZa.out (.int .i64 many) (.slice A l.length c) (.int .i64 a) (.slice AL rs.length cL)
    exact bodyPost_ret (results_ct rfl _ _ (w.heap.size + 1 + 1) 70 _ _ (.bool true) rfl rfl HS.1 Tryd.underlying70 rfl HS.2) rfl (stepQ_fin Ha.out HFa.out HZa.out (by omega) hbw (by omega) _ _ _ _)
  go_upto_region 8 with (go_at_call 25; refine HF.out.mono ?_; rintro e w8 ⟨rfl, hO8, hB8⟩)
  have HB8 := Lib.hid hB8
  have HY : Hid (RdY w8 w8.heap.size (some ⟨w7.heap.size, 0, none⟩) (pgL fd N)) := hO8.rd
  have HNe : Hid (∀ ad, some (⟨w7.heap.size, 0, none⟩ : Addr) = some ad → ¬ SlB S gs gd gb g gw ad.block) := fun ad e => by
    injection e with e
    subst e
    exact H7.out.farB H7.out.hi
  have hNc : 4096 ≤ 4096 := Nat.le_refl _
  have HLb : Hid ((pgL fd N).length = 4096) := by show _ = _; rw [pgL_length]; exact HN.out
  rw [HN.out]
  clear hO8 hB8
  rotate_left
  go_upto_region 8 with (go_at_call 25; refine HF.out.mono ?_; rintro e w8 ⟨rfl, hO8, hB8⟩)
  have HB8 := Lib.hid hB8
  have HY : Hid (RdY w8 w8.heap.size (some ⟨w7.heap.size, 0, none⟩) (pgL fd N)) := hO8.rd
  have HNe : Hid (∀ ad, some (⟨w7.heap.size, 0, none⟩ : Addr) = some ad → ¬ SlB S gs gd gb g gw ad.block) := fun ad e => by
    injection e with e
    subst e
    exact H7.out.farB H7.out.hi
  have hNc : 4096 ≤ 4096 := Nat.le_refl _
  have HLb : Hid ((pgL fd N).length = 4096) := by show _ = _; rw [pgL_length]; exact HN.out
  rw [HN.out]
  clear hO8 hB8
  rotate_left
  go_upto_region 8 with fail
  obtain ⟨w8, hw8⟩ : ∃ w8, w8 = w7 := ⟨_, rfl⟩
  have HB8 : Hid (Below w7.heap.size w7 w8) := by rw [hw8]; exact Below.refl _ _
  have HY : Hid (RdY w8 w8.heap.size dA db) := by rw [hw8]; exact (HDd.out.below H7.out.sl.below).more H7.out.sl.below.size
  have HNe : Hid (∀ ad, dA = some ad → ¬ SlB S gs gd gb g gw ad.block) := fun ad e hx => by
    obtain ⟨ad', e', hlt, _⟩ := HDd.out.at_ (k := 0) (by omega)
    rw [e] at e'
    injection e' with e'
    subst e'
    have := H7.out.sl.new _ hx
    omega
  have hNc := HDc.out
  have HLb := Lib.hid h4
  rw [h4] at hNc ⊢
  rw [← hw8]
  clear hw8 h4
  rotate_left
  all_goals
    have hz8 := HB8.out.size
    have H8 := Lib.hid (H7.out.below0 HB8.out)
    have HX8 := Lib.hid (HX7.out.below' HB8.out)
    have HZ8 := Lib.hid (HZ7.out.below' HB8.out)
    have hm := H8.out.sl.many_le
    have hlen := H8.out.le
    have hcn := cnt8_le l a
    have hcast : ((a + cnt8 l a : Nat) : Int) = (a : Int) + (cnt8 l a : Nat) := by omega
    have k0 : w8.cell? ⟨w.heap.size, 0, none⟩ = some (.int .i64 many) := HX8.out.cell 0
    have k1 : w8.cell? ⟨w.heap.size, 1, none⟩ = some (.slice A l.length c) := HX8.out.cell 1
    have k2 : w8.cell? ⟨w.heap.size, 2, none⟩ = some (.int .i64 a) := HX8.out.cell 2
    have k3 : w8.cell? ⟨w.heap.size, 3, none⟩ = some (.slice AL rs.length cL) := HX8.out.cell 3
    clear HX7 HZ7 c0 c2 c3
    rcases Nat.lt_or_ge (cntB f many) many with hc | hc
    · obtain ⟨n, hn, hf, hlow⟩ := hole_of hc
      have HP := Lib.hid (fun cb => rPut_any (c := c) (cb := cb) (HAs.out.below H8.out.sl.below) (by omega) HY.out (Nat.le_refl _) HLb.out H8.out.ref H8.out.hi (by omega) (a := a) (m := many) (by omega) (n := n) (by omega) (fun j hj => H8.out.ties.yes (by omega) (hlow j hj)) (H8.out.ties.noN (.inr hf)))
      have HLow := Lib.hid hlow
      have HFn := Lib.hid hf
      clear hlow hf hc
      go_wp2_with fail
      refine (HP.out _).mono ?_
      rintro e w9 ⟨-, hbad, hok, hB9⟩
      clear k0 k1 k2 k3 HP
      have hnm : n < many := hn
      cases hb8 : bad8 l a
      · obtain ⟨A2, c2, A9, c9, rfl, hR9⟩ := hok hn hb8
        have HTi := Lib.hid (fun bb => H8.out.ties.put hn HFn.out A9 c9 bb)
        have hR9' : RefP w9 bs (.slice A2 (rs.length + 1) c2) _ := hR9
        have hBa := hB9.alloc hB9.size (.cells #[.int .i64 many, .slice A l.length c, .int .i64 ((a : Int) + (cnt8 l a : Nat)), .slice A2 (rs.length + 1) c2] 70)
        have HYa := Lib.hid (Bk.new w9 70 #[.int .i64 many, .slice A l.length c, .int .i64 ((a : Int) + (cnt8 l a : Nat)), .slice A2 (rs.length + 1) c2])
        have HZa := Lib.hid (HZ8.out.below' hBa)
        have HXa := Lib.hid (H8.out.sl.below0 hBa)
        have HFa : Hid (Fr (SlW gl gb g gw) w _) := Fr.of_below0 (HB7.out.trans ((HB8.out.trans (hBa.mono hz8)).mono HB7.out.size))
        have HRa := Lib.hid (hR9'.below ((Below.refl _ _).alloc (Nat.le_refl _) (.cells #[.int .i64 many, .slice A l.length c, .int .i64 ((a : Int) + (cnt8 l a : Nat)), .slice A2 (rs.length + 1) c2] 70)))
        have HYd := Lib.hid (HY.out.below' hBa (Nat.le_refl _))
        have hza := hBa.size
        have hg9 : w8.heap.size ≤ w9.heap.size := hB9.size
        have HPs := Lib.hid (fun cb (hcb : 4096 ≤ cb) => HXa.out.put HT.out (by omega) (by omega) HYd.out (Nat.le_trans hg9 (by simp)) HLb.out hcb HNe.out hn HFn.out HLow.out)
        clear hbad hok hR9 hR9' hB9 hBa
        go_wp2_with fail
        refine (HPs.out _ hNc).mono ?_
        rintro e wb ⟨-, hok2, hF⟩
        obtain ⟨rfl, hS⟩ := hok2 hb8
        have hgx := H8.out.hi
        have HYb := Lib.hid (HYa.out.fr hF (H8.out.far (by omega)))
        have HZb := Lib.hid (HZa.out.fr hF (H8.out.far (by omega)))
        have Hb : Bth w0 wb S gs gd gl gb g gw l (a + cnt8 l a) many _ _ bs A2 c2 _ := ⟨hS, (by simpa using HRa.out.fr hF fun k h1 _ h3 => (by have := H8.out.old k (H8.out.sl.inW k h3); omega)), HTi.out _, H8.out.old, H8.out.lo, Nat.le_trans H8.out.hi (Nat.le_trans (by omega) hF.size)⟩
        have FN := stepQ_fin (a := a) (A := A) (c := c) Hb (HFa.out.trans hF fun _ _ h => h) HZb.out (by omega) hbw (by omega) (.int .i64 many) (.slice A l.length c) (.int .i64 ((a : Int) + (cnt8 l a : Nat))) (.slice A2 (rs.length + 1) c2)
        rw [hcast, List.length_append] at FN
        have HFN := Lib.hid FN
        clear FN Hb hS hok2 hF HPs hcast HYa HZa HRa HXa HFa
        generalize w9.heap.size = g9 at *
        have y0 : wb.cell? ⟨g9, 0, none⟩ = some (.int .i64 many) := HYb.out.cell 0
        have y1 : wb.cell? ⟨g9, 1, none⟩ = some (.slice A l.length c) := HYb.out.cell 1
        have y2 : wb.cell? ⟨g9, 2, none⟩ = some (.int .i64 ((a : Int) + (cnt8 l a : Nat))) := HYb.out.cell 2
        have y3 : wb.cell? ⟨g9, 3, none⟩ = some (.slice A2 (rs.length + 1) c2) := HYb.out.cell 3
        have z0 : wb.cell? ⟨w.heap.size + 1 + 1, 0, none⟩ = some (.int .i64 0) := HZb.out.cell 0
        have z1 : wb.cell? ⟨w.heap.size + 1 + 1, 1, none⟩ = some (.slice none 0 0) := HZb.out.cell 1
        have z2 : wb.cell? ⟨w.heap.size + 1 + 1, 2, none⟩ = some (.int .i64 0) := HZb.out.cell 2
        have z3 : wb.cell? ⟨w.heap.size + 1 + 1, 3, none⟩ = some (.slice none 0 0) := HZb.out.cell 3
        have f0 := HZb.out.free 0
        have f1 := HZb.out.free 1
        have f2 := HZb.out.free 2
        have f3 := HZb.out.free 3
        go_wp2
        have HS := s9_back HZb.out (.int .i64 many) (.slice A l.length c) (.int .i64 ((a : Int) + (cnt8 l a : Nat))) (.slice A2 (rs.length + 1) c2)
        exact bodyPost_ret (results_ct rfl _ _ (w.heap.size + 1 + 1) 70 _ _ (.bool true) rfl rfl HS.1 Tryd.underlying70 rfl HS.2) rfl HFN.out
      · obtain rfl := hbad hn hb8
        have hBa := hB9.alloc hB9.size (.cells #[.int .i64 many, .slice A l.length c, .int .i64 ((a : Int) + (cnt8 l a : Nat)), .slice AL rs.length cL] 70)
        have HYa := Lib.hid (Bk.new w9 70 #[.int .i64 many, .slice A l.length c, .int .i64 ((a : Int) + (cnt8 l a : Nat)), .slice AL rs.length cL])
        have HZa := Lib.hid (HZ8.out.below' hBa)
        have HXa := Lib.hid (H8.out.below0 hBa)
        have HFa : Hid (Fr (SlW gl gb g gw) w _) := Fr.of_below0 (HB7.out.trans ((HB8.out.trans (hBa.mono hz8)).mono HB7.out.size))
        have HYd := Lib.hid (HY.out.below' hBa (Nat.le_refl _))
        have hg9 : w8.heap.size ≤ w9.heap.size := hB9.size
        have HPs := Lib.hid (fun cb (hcb : 4096 ≤ cb) => HXa.out.sl.put HT.out (by omega) (by omega) HYd.out (Nat.le_trans hg9 (by simp)) HLb.out hcb HNe.out hn HFn.out HLow.out)
        clear hbad hok hB9 hBa
        go_wp2_with fail
        refine (HPs.out _ hNc).mono ?_
        rintro e wb ⟨hbad2, -, hF⟩
        obtain ⟨rfl, hS⟩ := hbad2 hb8
        have hgx := H8.out.hi
        have HYb := Lib.hid (HYa.out.fr hF (H8.out.far (by omega)))
        have HZb := Lib.hid (HZa.out.fr hF (H8.out.far (by omega)))
        have FN := stepQ_fin (a := a) (A := A) (c := c) (HXa.out.step hS hF) (HFa.out.trans hF fun _ _ h => h) HZb.out (by omega) hbw (by omega) (.int .i64 many) (.slice A l.length c) (.int .i64 ((a : Int) + (cnt8 l a : Nat))) (.slice AL rs.length cL)
        rw [hcast] at FN
        have HFN := Lib.hid FN
        clear FN hS hbad2 hF HPs hcast HYa HZa HXa HFa
        generalize w9.heap.size = g9 at *
        have y0 : wb.cell? ⟨g9, 0, none⟩ = some (.int .i64 many) := HYb.out.cell 0
        have y1 : wb.cell? ⟨g9, 1, none⟩ = some (.slice A l.length c) := HYb.out.cell 1
        have y2 : wb.cell? ⟨g9, 2, none⟩ = some (.int .i64 ((a : Int) + (cnt8 l a : Nat))) := HYb.out.cell 2
        have y3 : wb.cell? ⟨g9, 3, none⟩ = some (.slice AL rs.length cL) := HYb.out.cell 3
        have z0 : wb.cell? ⟨w.heap.size + 1 + 1, 0, none⟩ = some (.int .i64 0) := HZb.out.cell 0
        have z1 : wb.cell? ⟨w.heap.size + 1 + 1, 1, none⟩ = some (.slice none 0 0) := HZb.out.cell 1
        have z2 : wb.cell? ⟨w.heap.size + 1 + 1, 2, none⟩ = some (.int .i64 0) := HZb.out.cell 2
        have z3 : wb.cell? ⟨w.heap.size + 1 + 1, 3, none⟩ = some (.slice none 0 0) := HZb.out.cell 3
        have f0 := HZb.out.free 0
        have f1 := HZb.out.free 1
        have f2 := HZb.out.free 2
        have f3 := HZb.out.free 3
        go_wp2
        have HS := s9_back HZb.out (.int .i64 many) (.slice A l.length c) (.int .i64 ((a : Int) + (cnt8 l a : Nat))) (.slice AL rs.length cL)
        exact bodyPost_ret (results_ct rfl _ _ (w.heap.size + 1 + 1) 70 _ _ (.bool true) rfl rfl HS.1 Tryd.underlying70 rfl HS.2) rfl HFN.out
    · have HP := Lib.hid (fun cb => rPut_any (c := c) (cb := cb) (HAs.out.below H8.out.sl.below) (by omega) HY.out (Nat.le_refl _) HLb.out H8.out.ref H8.out.hi (by omega) (a := a) (m := many) (by omega) (n := many) (by omega) (fun j hj => H8.out.ties.yes hj (all_of (by have := cntB_le f many; omega) j hj)) (H8.out.ties.noN (.inl (Nat.le_refl _))))
      have hcm : cntB f many = many := by have := cntB_le f many; omega
      have HCm := Lib.hid hcm
      clear hc hcm
      go_wp2_with fail
      refine (HP.out _).mono ?_
      rintro e w9 ⟨hfull, -, -, hB9⟩
      obtain rfl := hfull (Nat.le_refl _)
      clear k0 k1 k2 k3 HP hcast hcn
      have hBa := hB9.alloc hB9.size (.cells #[.int .i64 many, .slice A l.length c, .int .i64 a, .slice AL rs.length cL] 70)
      have HYa := Lib.hid (Bk.new w9 70 #[.int .i64 many, .slice A l.length c, .int .i64 a, .slice AL rs.length cL])
      have HZa := Lib.hid (HZ8.out.below' hBa)
      have HXa := Lib.hid (H8.out.below0 hBa)
      have HFa : Hid (Fr (SlW gl gb g gw) w _) := Fr.of_below0 (HB7.out.trans ((HB8.out.trans (hBa.mono hz8)).mono HB7.out.size))
      have HYd := Lib.hid (HY.out.below' hBa (Nat.le_refl _))
      have hg9 : w8.heap.size ≤ w9.heap.size := hB9.size
      have HPs := Lib.hid (fun A c => HXa.out.sl.putFull HCm.out A c)
      have hgx := H8.out.hi
      have FN := stepQ_fin (a := a) (A := A) (c := c) HXa.out HFa.out HZa.out (by omega) hbw (by omega) (.int .i64 many) (.slice A l.length c) (.int .i64 a) (.slice AL rs.length cL)
      have HFN := Lib.hid FN
      clear FN hfull hB9 hBa HXa HFa HYd
      go_wp2_with fail
      refine (HPs.out _ _).mono ?_
      clear HPs
      generalize w9.alloc (.cells #[.int .i64 many, .slice A l.length c, .int .i64 a, .slice AL rs.length cL] 70) = wb at *
      rintro e wc ⟨rfl, rfl⟩
      have HYb := HYa
      have HZb := HZa
      generalize w9.heap.size = g9 at *
      have y0 : wb.cell? ⟨g9, 0, none⟩ = some (.int .i64 many) := HYb.out.cell 0
      have y1 : wb.cell? ⟨g9, 1, none⟩ = some (.slice A l.length c) := HYb.out.cell 1
      have y2 : wb.cell? ⟨g9, 2, none⟩ = some (.int .i64 a) := HYb.out.cell 2
      have y3 : wb.cell? ⟨g9, 3, none⟩ = some (.slice AL rs.length cL) := HYb.out.cell 3
      have z0 : wb.cell? ⟨w.heap.size + 1 + 1, 0, none⟩ = some (.int .i64 0) := HZb.out.cell 0
      have z1 : wb.cell? ⟨w.heap.size + 1 + 1, 1, none⟩ = some (.slice none 0 0) := HZb.out.cell 1
      have z2 : wb.cell? ⟨w.heap.size + 1 + 1, 2, none⟩ = some (.int .i64 0) := HZb.out.cell 2
      have z3 : wb.cell? ⟨w.heap.size + 1 + 1, 3, none⟩ = some (.slice none 0 0) := HZb.out.cell 3
      have f0 := HZb.out.free 0
      have f1 := HZb.out.free 1
      have f2 := HZb.out.free 2
      have f3 := HZb.out.free 3
      go_wp2
      have HS := s9_back HZb.out (.int .i64 many) (.slice A l.length c) (.int .i64 a) (.slice AL rs.length cL)
      exact bodyPost_ret (results_ct rfl _ _ (w.heap.size + 1 + 1) 70 _ _ (.bool true) rfl rfl HS.1 Tryd.underlying70 rfl HS.2) rfl HFN.out
end Go.Proofs.YtcbfaahnhdmagaaDoor
