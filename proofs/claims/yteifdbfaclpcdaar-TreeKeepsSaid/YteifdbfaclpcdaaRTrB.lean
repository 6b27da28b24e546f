/- A tree of records: New, Add, Get, Set, Drop, Len. -/
import Derived.Test.YteifdbfaclpcdaaRRrJ
import Derived.Test.YteifdbfaclpcdaaRTrA
import Derived.Test.YteifdbfaclpcdaaREntB
namespace Go.Proofs.YteifdbfaclpcdaaR.Rr
open Go.RowKit

structure Rec where
  a : Int
  b : Int
  c : Int
  d : Int
def Rec.v (r : Rec) : Value := .agg #[.int .i64 r.a, .int .i64 r.b, .int .i64 r.c, .int .u64 r.d]
theorem Rec.ok (r : Rec) : VOk r.v := ⟨r.a, r.b, r.c, r.d, rfl⟩
def Rec.may (r : Rec) : Bool := (r.a != 0) && mayRec r.a r.b r.c r.d
set_option maxRecDepth 100000 in
theorem trMay (w : World) (r : Rec) : Calls Try.prog 70 #[.agg #[.int .i64 r.a, .int .i64 r.b, .int .i64 r.c, .int .u64 r.d]] w fun e w' => e = .returned (.bool r.may) ∧ Below w.heap.size w w' := by
  obtain ⟨a, b, c, d⟩ := r
  simp only
  have HB0 : Hid (Below w.heap.size w (w.alloc (.cells #[.int .i64 a, .int .i64 b, .int .i64 c, .int .u64 d] 83))) := (Below.refl _ _).alloc (Nat.le_refl _) _
  have HM := Lib.hid (fun W => recMay W a b c d)
  by_cases h0 : a = 0
  · subst h0
    go_enter Try.func70, Try.ntmps70
    go_wp2_with fail
    go_ret
    exact ⟨rfl, HB0.out⟩
  · have d0 : (a == 0) = false := beq_eq_false_iff_ne.2 h0
    have d1 : (a != 0) = true := by rw [bne, d0]; rfl
    have HE : Hid ((Rec.mk a b c d).may = mayRec a b c d) := by
      show _ = _
      unfold Rec.may
      simp only [d1, Bool.true_and]
    generalize mayRec a b c d = mb at HM HE
    clear h0
    go_enter Try.func70, Try.ntmps70
    go_wp2_with fail
    refine (HM.out _).mono ?_
    rintro e w2 ⟨rfl, hB⟩
    have HB := Lib.hid hB
    clear hB
    go_wp2_with fail
    go_ret
    rw [HE.out]
    exact ⟨rfl, HB0.out.trans (HB.out.mono HB0.out.size)⟩

/-- A tree: its entries' records, and the numbers in use. -/
structure TwAt (w : World) (base t : Nat) (f : Nat → Option Value) (n : Nat) (fin : Nat → Bool) (last : Nat) : Prop where
  parts : ∃ g ex nd e gs gw, Bk w t 125 #[.pointer (some ⟨g, 0, none⟩), .pointer (some ⟨e, 0, none⟩)] ∧ RxAt w base g ex nd f n ∧ EntAt w e gs gw fin last ∧ base ≤ t ∧ base ≤ e ∧ base ≤ gs ∧ base ≤ gw
  dom : ∀ k, f k ≠ none ↔ ∃ j, k = j + 1 ∧ j < 512 ∧ fin j = true
  cnt : n = cntB fin 512
section
variable {w w' : World} {base t n last : Nat} {f : Nat → Option Value} {fin : Nat → Bool}
theorem EntAt.tys {e gs gw : Nat} (h : EntAt w e gs gw fin last) {b : Nat} (hb : b = e ∨ b = gs ∨ b = gw) : ∃ t cs, Bk w b t cs ∧ (t = 117 ∨ t = 130 ∨ t = 40) := by
  obtain ⟨wd, hs, _⟩ := h.set
  rcases hb with rfl | rfl | rfl
  · exact ⟨_, _, h.top, .inl rfl⟩
  · exact ⟨_, _, hs.top, .inr (.inl rfl)⟩
  · exact ⟨_, _, hs.row, .inr (.inr rfl)⟩
theorem TwAt.below0 (h : TwAt w base t f n fin last) (hb : Below w.heap.size w w') : TwAt w' base t f n fin last := by
  obtain ⟨g, ex, nd, e, gs, gw, h1, h2, h3, h4⟩ := h.parts
  have hF : Fr (fun _ => False) w w' := Fr.of_below0 hb
  exact ⟨⟨g, ex, nd, e, gs, gw, h1.below' hb, h2.below0 hb, h3.fr hF id id id, h4⟩, h.dom, h.cnt⟩
theorem twAddNo (w : World) (x : Option Addr) (r : Rec) (hr : r.may = false) : Calls Try.prog 51 #[.pointer x, .agg #[.int .i64 r.a, .int .i64 r.b, .int .i64 r.c, .int .u64 r.d]] w fun e w' => e = .returned (.tuple #[.int .i64 0, .int .i64 1]) ∧ Below w.heap.size w w' := by
  have HM := Lib.hid (fun W => trMay W r)
  rw [hr] at HM
  have HB0 : Hid (Below w.heap.size w (w.alloc (.cells #[.int .i64 r.a, .int .i64 r.b, .int .i64 r.c, .int .u64 r.d] 83))) := (Below.refl _ _).alloc (Nat.le_refl _) _
  clear hr
  go_enter Try.func51, Try.ntmps51
  go_wp2_with fail
  refine (HM.out _).mono ?_
  rintro e w2 ⟨rfl, hB⟩
  have HB := Lib.hid hB
  clear hB
  go_wp2_with fail
  go_ret2
  exact ⟨rfl, HB0.out.trans (HB.out.mono HB0.out.size)⟩
theorem twAddFull (h : TwAt w base t f n fin last) (r : Rec) (hr : r.may = true) (hn : nextOf fin last = 0) : Calls Try.prog 51 #[.pointer (some ⟨t, 0, none⟩), .agg #[.int .i64 r.a, .int .i64 r.b, .int .i64 r.c, .int .u64 r.d]] w fun e w' => e = .returned (.tuple #[.int .i64 0, .int .i64 11]) ∧ Below w.heap.size w w' := by
  have HM := Lib.hid (fun W => trMay W r)
  rw [hr] at HM
  have HB0 : Hid (Below w.heap.size w (w.alloc (.cells #[.int .i64 r.a, .int .i64 r.b, .int .i64 r.c, .int .u64 r.d] 83))) := (Below.refl _ _).alloc (Nat.le_refl _) _
  obtain ⟨g, ex, nd, e, gs, gw, h1, h2, h3, h4⟩ := h.parts
  have H1 := Lib.hid h1
  have H3 := Lib.hid h3
  clear hr h1 h3
  go_enter Try.func51, Try.ntmps51
  go_wp2_with fail
  refine (HM.out _).mono ?_
  rintro e w2 ⟨rfl, hB⟩
  have HB := Lib.hid (HB0.out.trans (hB.mono HB0.out.size))
  clear hB
  have hc := (H1.out.below' HB.out).cell 1
  have hE := H3.out.fr (S := fun _ => False) (Fr.of_below0 HB.out) id id id
  have HT := Lib.hid (eTake_none hE hn)
  clear hE
  go_wp2_with fail
  refine HT.out.mono ?_
  rintro e w3 ⟨rfl, rfl⟩
  go_wp2_with fail
  go_ret2
  exact ⟨rfl, HB.out⟩
/-- Blocks of other types stay. -/
def Kp (w w' : World) : Prop := ∀ b t cs, Bk w b t cs → t ≠ 133 → t ≠ 139 → t ≠ 117 → t ≠ 130 → t ≠ 40 → Bk w' b t cs
theorem EntS_ne {e gs gw : Nat} (h : EntAt w e gs gw fin last) {b : Nat} {ty : TypeId} {cs : Array Value} (hb : Bk w b ty cs) (h1 : ty ≠ 117) (h2 : ty ≠ 130) (h3 : ty ≠ 40) : ¬(b = e ∨ b = gs ∨ b = gw) := fun hh => by
  obtain ⟨t', cs', h4, h5⟩ := EntAt.tys h hh
  rcases h5 with rfl | rfl | rfl
  · exact hb.ne h4 h1 rfl
  · exact hb.ne h4 h2 rfl
  · exact hb.ne h4 h3 rfl
theorem TrS_ne {g : Nat} {ex : Nat → Nat → Bool} {nd : Nat → Nat → Nat} (h : RxAt w base g ex nd f n) {b : Nat} {ty : TypeId} {cs : Array Value} (hb : Bk w b ty cs) (h1 : ty ≠ 133) (h2 : ty ≠ 139) : ¬ TrS g ex nd b := fun hh => by
  rcases hh with rfl | ⟨l, p, hl, hp, rfl⟩
  · exact hb.ne h.tr.top h1 rfl
  · obtain ⟨cs', hb'⟩ := (h.tr.node l p hl hp).ty
    exact hb.ne hb' h2 rfl
theorem TrS_lo {g : Nat} {ex : Nat → Nat → Bool} {nd : Nat → Nat → Nat} (h : RxAt w base g ex nd f n) {b : Nat} (hb : b < base) : ¬ TrS g ex nd b := fun hh => by
  rcases hh with rfl | ⟨l, p, hl, hp, rfl⟩
  · have := h.tr.lo
    omega
  · have := h.tr.loN l p hl hp
    omega
set_option maxRecDepth 100000 in
set_option maxHeartbeats 1000000 in
theorem twAdd (h : TwAt w base t f n fin last) (hbase : base ≤ w.heap.size) (r : Rec) (hr : r.may = true) {k : Nat} (hn : nextOf fin last = k + 1) :
    Calls Try.prog 51 #[.pointer (some ⟨t, 0, none⟩), .agg #[.int .i64 r.a, .int .i64 r.b, .int .i64 r.c, .int .u64 r.d]] w fun e w' => e = .returned (.tuple #[.int .i64 ((k : Int) + 1), .int .i64 0]) ∧ TwAt w' base t (updF f (k + 1) (some r.v)) (n + 1) (updB fin k true) (k + 1) ∧ Below base w w' ∧ Kp w w' := by
  have HM := Lib.hid (fun W => trMay W r)
  rw [hr] at HM
  have HB0 : Hid (Below w.heap.size w (w.alloc (.cells #[.int .i64 r.a, .int .i64 r.b, .int .i64 r.c, .int .u64 r.d] 83))) := (Below.refl _ _).alloc (Nat.le_refl _) _
  have HD0 : Hid (Bk (w.alloc (.cells #[.int .i64 r.a, .int .i64 r.b, .int .i64 r.c, .int .u64 r.d] 83)) w.heap.size 83 #[.int .i64 r.a, .int .i64 r.b, .int .i64 r.c, .int .u64 r.d]) := Bk.new _ _ _
  obtain ⟨g, ex, nd, e, gs, gw, h1, h2, h3, h4⟩ := h.parts
  obtain ⟨hk, hfk⟩ := nextOf_free hn
  have H := Lib.hid h
  have H1 := Lib.hid h1
  have H2 := Lib.hid h2
  have H3 := Lib.hid h3
  have H4 := Lib.hid h4
  clear hr h h1 h2 h3 h4
  go_enter Try.func51, Try.ntmps51
  go_wp2_with fail
  refine (HM.out _).mono ?_
  rintro e w2 ⟨rfl, hB⟩
  have HD2 := Lib.hid (HD0.out.below' hB)
  have HB := Lib.hid (HB0.out.trans (hB.mono HB0.out.size))
  clear hB
  have H12 := Lib.hid (H1.out.below' HB.out)
  have H22 := Lib.hid (H2.out.below0 HB.out)
  have H32 := Lib.hid (H3.out.fr (S := fun _ => False) (Fr.of_below0 HB.out) id id id)
  have hc := H12.out.cell 1
  have HT := Lib.hid (eTake_some H32.out hn)
  go_wp2_with fail
  refine HT.out.mono ?_
  rintro e w3 ⟨rfl, hE3, hF3⟩
  have hne : ∀ (b : Nat) (ty : TypeId) (cs : Array Value), Bk w2 b ty cs → ty ≠ 117 → ty ≠ 130 → ty ≠ 40 → Bk w3 b ty cs := fun _ _ _ hb a1 a2 a3 => hb.fr hF3 (EntS_ne H32.out hb a1 a2 a3)
  have H13 := Lib.hid (hne _ _ _ H12.out (by decide) (by decide) (by decide))
  have HD3 := Lib.hid (hne _ _ _ HD2.out (by decide) (by decide) (by decide))
  have H23 : Hid (RxAt w3 base g ex nd f n) := H22.out.fr hF3 fun b _ hb ty cs hbk => by
    refine ⟨fun e => ?_, fun e => ?_, fun e => ?_⟩
    all_goals subst e; exact EntS_ne H32.out hbk (by decide) (by decide) (by decide) hb
  have HE3 := Lib.hid hE3
  have HF3 := Lib.hid hF3
  have HNe := Lib.hid hne
  clear hne hE3 hF3 HT hc
  have hc0 : w3.cell? ⟨t, 0, none⟩ = some (.pointer (some ⟨g, 0, none⟩)) := H13.out.cell 0
  have k0 : w3.cell? ⟨w.heap.size, 0, none⟩ = some (.int .i64 r.a) := HD3.out.cell 0
  have k1 : w3.cell? ⟨w.heap.size, 1, none⟩ = some (.int .i64 r.b) := HD3.out.cell 1
  have k2 : w3.cell? ⟨w.heap.size, 2, none⟩ = some (.int .i64 r.c) := HD3.out.cell 2
  have k3 : w3.cell? ⟨w.heap.size, 3, none⟩ = some (.int .u64 r.d) := HD3.out.cell 3
  have hfn : f (k + 1) = none := by
    cases hf : f (k + 1) with
    | none => rfl
    | some u =>
      obtain ⟨j, e1, _, e2⟩ := (H.out.dom (k + 1)).1 (by rw [hf]; simp)
      obtain rfl : k = j := by omega
      rw [hfk] at e2
      cases e2
  have hcn := cntB_le fin 512
  have hnl : n ≤ 512 := by rw [H.out.cnt]; exact hcn
  have HS : Hid (Calls Try.prog 71 #[.pointer (some ⟨g, 0, none⟩), .int .i64 ((k : Int) + 1), .agg #[.int .i64 r.a, .int .i64 r.b, .int .i64 r.c, .int .u64 r.d]] w3.drew fun e w' => e = .returned (.bool true) ∧ SetPost w3.drew base g ex nd f n (k + 1) r.v w') := by
    have h23 := H23.out.below0 ((Fr.refl (fun _ => False) w3).drewN 1).below0
    have := rSet h23 (key := k + 1) (by omega) r.ok (by omega)
    rwa [show ((k + 1 : Nat) : Int) = (k : Int) + 1 by omega] at this
  have HCn : Hid (n + 1 = cntB (updB fin k true) 512) := by
    have := cntB_upd fin k true hk
    rw [hfk, ← H.out.cnt] at this
    show _ = _
    simpa using this.symm
  have HDom : Hid (∀ q, updF f (k + 1) (some r.v) q ≠ none ↔ ∃ j, q = j + 1 ∧ j < 512 ∧ updB fin k true j = true) := fun q => by
    unfold updF updB
    by_cases e : q = k + 1
    · subst e
      rw [if_pos rfl]
      exact ⟨fun _ => ⟨k, rfl, hk, by simp⟩, fun _ => by simp⟩
    · rw [if_neg e, H.out.dom q]
      constructor
      · rintro ⟨j, e1, e2, e3⟩
        exact ⟨j, e1, e2, by rw [if_neg (by omega)]; exact e3⟩
      · rintro ⟨j, e1, e2, e3⟩
        rw [if_neg (by omega)] at e3
        exact ⟨j, e1, e2, e3⟩
  clear hfk hcn
  go_upto_region 7 with fail
  go_still_tail 6, (by kernel_rfl)
  change wpList _ _ _ _ _ w3.drew
  go_wp2_with fail
  refine HS.out.mono ?_
  rintro x w4 ⟨rfl, ex', nd', hR4, hF4⟩
  rw [hfn, if_pos rfl] at hR4
  have HR4 := Lib.hid hR4
  have HF4 : Hid (Fr (TrS g ex nd) w3 w4) := (((Fr.refl (fun _ => False) w3).drewN 1).mono (S' := TrS g ex nd) (fun _ _ h => h.elim)).trans hF4 fun _ _ h => h
  clear hR4 hF4
  go_wp2_with fail
  go_ret2
  refine ⟨rfl, ⟨⟨g, ex', nd', e, gs, gw, H13.out.fr HF4.out (TrS_ne H23.out H13.out (by decide) (by decide)), HR4.out, HE3.out.fr HF4.out ?_ ?_ ?_, H4.out⟩, HDom.out, HCn.out⟩, ?_, ?_⟩
  · exact TrS_ne H23.out HE3.out.top (by decide) (by decide)
  · obtain ⟨t', cs', h4, h5⟩ := EntAt.tys HE3.out (.inr (.inl rfl))
    rcases h5 with rfl | rfl | rfl <;> exact TrS_ne H23.out h4 (by decide) (by decide)
  · obtain ⟨t', cs', h4, h5⟩ := EntAt.tys HE3.out (.inr (.inr rfl))
    rcases h5 with rfl | rfl | rfl <;> exact TrS_ne H23.out h4 (by decide) (by decide)
  · have hb1 : Below base w w2 := HB.out.mono hbase
    have hb2 : Below base w2 w3 := HF3.out.below (Nat.le_trans hbase hb1.size) fun q hq hh => by
      have := H4.out
      rcases hh with rfl | rfl | rfl <;> omega
    have hb3 : Below base w3 w4 := HF4.out.below (Nat.le_trans (Nat.le_trans hbase hb1.size) hb2.size) fun q hq => TrS_lo H23.out hq
    exact hb1.trans (hb2.trans hb3)
  · intro b ty cs hb a1 a2 a3 a4 a5
    have hb3 := HNe.out _ _ _ (hb.below' HB.out) a3 a4 a5
    exact hb3.fr HF4.out (TrS_ne H23.out hb3 a1 a2)
end
end Go.Proofs.YteifdbfaclpcdaaR.Rr
