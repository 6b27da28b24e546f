/- A tree of records: what a node tells to a loop's body. -/
import Derived.Test.YteifdbfaclpcdaaRTrE
import Derived.RangeFuncNested
import Derived.RangeFuncBound
import Derived.RangeFuncCalls
import Derived.RangeFuncLeaves
import Derived.Shelf.Abstract
import Derived.Shelf.RegionOpen
import Derived.OwnWalkIn
import Derived.TacticsInMore
import Derived.LoopNIn
import Derived.LoopIn
namespace Go.Proofs.YteifdbfaclpcdaaR.Rr
open Go.RowKit Go.Shelf
attribute [local go_sem] Oper.semAt_some

abbrev KsR := List (Nat × Value)
/-- What a loop's rounds keep. -/
structure KpJ (w0 : World) (J : KsR → World → Prop) : Prop where
  below : ∀ o W, J o W → Below w0.heap.size w0 W
  drew : ∀ o W q, J o W → J o (W.drewN q)
/-- A round takes a key and its record. -/
def YldJ (l : Nat) (J : KsR → World → Prop) : Prop :=
  ∀ o W (k : Nat) (zk : Int) (r : Rec), zk = k → J o W → o.length ≤ 65536 →
    YieldAt Fence.wide 0 Try.prog l #[.int .i64 zk, .agg #[.int .i64 r.a, .int .i64 r.b, .int .i64 r.c, .int .u64 r.d]] W fun e W' =>
      e = .returned (.bool true) ∧ J (o ++ [(k, r.v)]) W'
theorem round_wide {n m l f : Nat} {tmps : Array Value} {assign body : Code} {w : World} {Q : Ending → World → Prop} (h : RoundIn Fence.wide n Try.prog l f tmps assign body w Q) : RoundIn Fence.wide m Try.prog l f tmps assign body w Q :=
  ⟨h.1, fun c cs _ => h.2 c cs (room_wide _)⟩
theorem wide_d {m : Nat} : Fence.wide.depth.isSome = true → 1 ≤ m := fun h => absurd h (by decide)
theorem wide_ab : ∀ f : FuncId, none = some f → Fence.wide.fn f := fun _ _ => trivial
theorem seg_len {α : Type} (f : Nat → Option α) (fr : Int) (a n : Nat) : (seg f fr a n).length ≤ n := by
  unfold seg
  have := List.length_filterMap_le (fun (k : Nat) => if fr ≤ (k : Int) then (f k).map fun v => (k, v) else none) (List.range' a n)
  simpa using this
section
variable {w0 w w' : World} {base g many lp : Nat} {ex : Nat → Nat → Bool} {nd : Nat → Nat → Nat} {f : Nat → Option Value} {J : KsR → World → Prop}
theorem RxAt.bnd (h : RxAt w base g ex nd f many) {l p : Nat} (hl : l ≤ 4) (hp : ex l p = true) : p < 16 ^ l := by
  obtain ⟨k, h1, h2⟩ := (h.full l p hl).1 hp
  rw [← h2]
  exact rxD_lt hl (h.lt k h1)
theorem Full.none_in (h : RxAt w base g ex nd f many) {l q : Nat} (hl : l ≤ 4) (hq : ex l q = false) : ∀ k, q * rxD l ≤ k → k < q * rxD l + rxD l → f k = none := by
  intro k h1 h2
  cases hf : f k with
  | none => rfl
  | some x =>
    have h3 : k / rxD l = q := by
      have h0 := rxD_pos l
      refine Nat.div_eq_of_lt_le ?_ ?_
      · rw [Nat.mul_comm] at h1; rw [Nat.mul_comm]; exact h1
      · rw [Nat.succ_mul]; exact h2
    have := (h.full l q hl).2 ⟨k, by rw [hf]; simp, h3⟩
    rw [hq] at this
    cases this
theorem tellNil (w : World) (bs l fr : Int) (x : Value) : Calls Try.prog 87 #[.pointer none, .int .i64 bs, .int .i64 l, .int .i64 fr, x] w fun e w' => e = .returned (.bool true) ∧ w = w' := by
  go_enter Try.func87, Try.ntmps87
  go_wp2_with fail
  go_ret
  exact ⟨rfl, rfl⟩
/-- A node's tell. -/
def TellIn (ex : Nat → Nat → Bool) (nd : Nat → Nat → Nat) (f : Nat → Option Value) (J : KsR → World → Prop) (lp l : Nat) : Prop :=
  ∀ (m : Nat) (W : World) (p : Nat) (bs : Int) (o : KsR), bs = (p * rxD l : Nat) → ex l p = true → o.length ≤ p * rxD l → J o W →
    CallsIn Fence.wide m Try.prog 87 #[.pointer (some ⟨nd l p, 0, none⟩), .int .i64 bs, .int .i64 (l : Int), .int .i64 0, .func (.yield lp) #[] #[]] W fun e W' =>
      e = .returned (.bool true) ∧ J (o ++ seg f 0 (p * rxD l) (rxD l)) W'
set_option maxRecDepth 100000 in
set_option maxHeartbeats 4000000 in
theorem tell3 (hR : RxAt w0 base g ex nd f many) (hK : KpJ w0 J) (hY : YldJ lp J) : TellIn ex nd f J lp 3 := by
  rintro m w p bs o rfl hp hacc h
  have HH := Lib.hid h
  have HR := Lib.hid hR
  have HK := Lib.hid hK
  have HY := Lib.hid hY
  have hpb := hR.bnd (by omega) hp
  have HA := Lib.hid hacc
  have HP := Lib.hid hp
  have hpl : p < 4096 := hpb
  have e1 : ((p * rxD 3 : Nat) : Int) = (p : Int) * 16 := by rw [rxD_3]; omega
  rw [e1]
  clear h hacc hpb e1 hR hK hY hp
  refine callsIn_of_wp Try.func87 rfl trivial ?_ rfl
  simp only [Try.ntmps87, List.size_toArray, List.length_cons, List.length_nil, Nat.reduceAdd, Nat.reduceSub, Array.replicate_succ, Array.replicate_zero, List.push_toArray, List.append_toArray, List.nil_append, List.cons_append]
  gi_wp2_with fail
  gi_loopw [20] (fun i wr => ∃ (d : Nat), d ≤ 16 ∧ i = .int .i64 (d : Int) ∧ J (o ++ seg f 0 (p * rxD 3) d) wr) (fun i _ => 16 - (intOf i).toNat)
  case atStart => exact ⟨0, by omega, rfl, by rw [seg_zero, List.append_nil]; exact HH.out⟩
  case round =>
    clear HH
    obtain ⟨d, hd, rfl, hJ⟩ := hrel
    rcases Nat.lt_or_ge d 16 with hlt | hge
    · obtain ⟨o1, ho1⟩ : ∃ o1, o1 = o ++ seg f 0 (p * rxD 3) d := ⟨_, rfl⟩
      have hl1 : o1.length ≤ 65536 := by
        have h2 := seg_len f 0 (p * rxD 3) d
        have h3 := HA.out
        rw [ho1, List.length_append]
        rw [rxD_3] at h3
        omega
      have hS := seg_add f 0 (p * rxD 3) d 1
      rw [seg_one, show p * rxD 3 + d = 16 * p + d by rw [rxD_3]; omega, if_pos (by omega)] at hS
      have hS2 : o ++ seg f 0 (p * rxD 3) (d + 1) = o1 ++ ((f (16 * p + d)).map fun v => (16 * p + d, v)).toList := by rw [hS, ho1, List.append_assoc]
      rw [← ho1] at hJ
      have HJ := Lib.hid hJ
      have HS := Lib.hid hS2
      have HL1 := Lib.hid hl1
      have hRw := HR.out.below0 (HK.out.below _ _ hJ)
      have hhc := hRw.tr.hsC HP.out hlt
      have hn := (hRw.tr.node 3 p (by omega) HP.out).dn hlt
      unfold dnOf at hn
      rw [if_pos rfl] at hn
      have hdi : (d : Int) < 16 := by omega
      have hsk2 : ¬ (p : Int) * 16 + (d : Int) + 1 ≤ 0 := by omega
      have hsk3 : 0 < (p : Int) * 16 + (d : Int) + 1 := by omega
      have hk4 : ex 4 (16 * p + d) = (f (16 * p + d)).isSome := hRw.full.key _
      clear hS hS2 hl1 hJ ho1
      cases hfx : f (16 * p + d) with
      | none =>
        rw [hfx] at HS hk4
        rw [hk4] at hhc
        simp only [Option.map_none, Option.toList_none, List.append_nil] at HS
        simp only [ptrIf, Option.isSome_none, Bool.false_eq_true, if_false] at hhc
        clear hk4 hRw
        gi_wp2_with (with_reducible refine ⟨wide_ab, ?_⟩)
        refine ⟨trivial, wide_d, ?_⟩
        refine (callsIn_wide.2 (tellNil _ _ _ _ _)).mono ?_
        rintro x w9 ⟨rfl, rfl⟩
        gi_wp2
        go_roundw
        case rel =>
          (repeat apply Exists.intro (α := Value))
          exact ⟨⟨d + 1, by omega, by go_num, by rw [HS.out]; exact HJ.out⟩, rfl⟩
        case measure => simp [intOf]; omega
      | some x =>
        rw [hfx] at HS hk4
        obtain ⟨r, rfl⟩ := Rec.of (hRw.ok _ _ hfx)
        have hvb := hRw.tr.val _ _ hk4 hfx
        rw [hk4] at hhc
        simp only [Option.map_some, Option.toList_some] at HS
        simp only [ptrIf, Option.isSome_some, if_true] at hhc
        have hb : Bk wr (nd 4 (16 * p + d)) 83 #[.int .i64 r.a, .int .i64 r.b, .int .i64 r.c, .int .u64 r.d] := hvb
        have k0 := hb.cell 0
        have k1 := hb.cell 1
        have k2 := hb.cell 2
        have k3 := hb.cell 3
        obtain ⟨fn, tmps, assign, body, hy, hRd⟩ := HY.out o1 wr (16 * p + d) ((p : Int) * 16 + (d : Int)) r (by omega) HJ.out HL1.out
        have HRd := Lib.hid hRd
        generalize nd 4 (16 * p + d) = vb at *
        have hy : (Instr.yield lp #[.int .i64 ((p : Int) * 16 + (d : Int)), .agg #[.int .i64 r.a, .int .i64 r.b, .int .i64 r.c, .int .u64 r.d]]).run Try.prog wr = .ok (.round lp fn tmps assign body) wr := hy
        clear hk4 hRw hRd hvb hb hfx
        gi_wp2_with fail
        refine ⟨fun h => absurd h (by decide), (round_wide HRd.out).mono ?_⟩
        rintro x w9 ⟨rfl, hJ9⟩
        have HJ9 := Lib.hid hJ9
        have hn9 := ((HR.out.below0 (HK.out.below _ _ hJ9)).tr.node 3 p (by omega) HP.out).dn hlt
        unfold dnOf at hn9
        rw [if_pos rfl] at hn9
        clear hJ9 hy HRd k0 k1 k2 k3
        gi_wp2_with (with_reducible refine ⟨wide_ab, ?_⟩)
        refine ⟨trivial, wide_d, ?_⟩
        refine (callsIn_wide.2 (tellNil _ _ _ _ _)).mono ?_
        rintro x w10 ⟨rfl, rfl⟩
        gi_wp2
        go_roundw
        case rel =>
          (repeat apply Exists.intro (α := Value))
          exact ⟨⟨d + 1, by omega, by go_num, by rw [HS.out]; exact HJ9.out⟩, rfl⟩
        case measure => simp [intOf]; omega
    · obtain rfl : d = 16 := by omega
      have HJ := Lib.hid hJ
      clear hJ
      gi_wp2_with fail
      go_ret
      exact ⟨rfl, HJ.out⟩
set_option maxRecDepth 100000 in
set_option maxHeartbeats 4000000 in
theorem tell2 (hR : RxAt w0 base g ex nd f many) (hK : KpJ w0 J) (ih : TellIn ex nd f J lp 3) : TellIn ex nd f J lp 2 := by
  rintro m w p bs o rfl hp hacc h
  have HH := Lib.hid h
  have HR := Lib.hid hR
  have HK := Lib.hid hK
  have HIH := Lib.hid ih
  have hpb := hR.bnd (by omega) hp
  have HA := Lib.hid hacc
  have HP := Lib.hid hp
  have hpl : p < 256 := hpb
  have e1 : ((p * rxD 2 : Nat) : Int) = (p : Int) * 256 := by rw [rxD_2]; omega
  rw [e1]
  clear h hacc hpb e1 hR hK ih hp
  refine callsIn_of_wp Try.func87 rfl trivial ?_ rfl
  simp only [Try.ntmps87, List.size_toArray, List.length_cons, List.length_nil, Nat.reduceAdd, Nat.reduceSub, Array.replicate_succ, Array.replicate_zero, List.push_toArray, List.append_toArray, List.nil_append, List.cons_append]
  gi_wp2_with fail
  gi_loopw [20] (fun i wr => ∃ (d : Nat), d ≤ 16 ∧ i = .int .i64 (d : Int) ∧ J (o ++ seg f 0 (p * rxD 2) (d * 16)) wr) (fun i _ => 16 - (intOf i).toNat)
  case atStart => exact ⟨0, by omega, rfl, by rw [Nat.zero_mul, seg_zero, List.append_nil]; exact HH.out⟩
  case round =>
    clear HH
    obtain ⟨d, hd, rfl, hJ⟩ := hrel
    rcases Nat.lt_or_ge d 16 with hlt | hge
    · obtain ⟨o1, ho1⟩ : ∃ o1, o1 = o ++ seg f 0 (p * rxD 2) (d * 16) := ⟨_, rfl⟩
      have eq1 : (16 * p + d) * rxD 3 = p * rxD 2 + d * 16 := by rw [rxD_2, rxD_3]; omega
      have hl1 : o1.length ≤ (16 * p + d) * rxD 3 := by
        have h2 := seg_len f 0 (p * rxD 2) (d * 16)
        have h3 := HA.out
        rw [ho1, List.length_append]
        omega
      have hS : o ++ seg f 0 (p * rxD 2) ((d + 1) * 16) = o1 ++ seg f 0 ((16 * p + d) * rxD 3) (rxD 3) := by
        rw [ho1, List.append_assoc, eq1, show (d + 1) * 16 = d * 16 + 16 by omega, seg_add, show rxD 3 = 16 from rfl]
      rw [← ho1] at hJ
      have HJ := Lib.hid hJ
      have HS := Lib.hid hS
      have hRw := HR.out.below0 (HK.out.below _ _ hJ)
      have hhc := hRw.tr.dnC (by omega) HP.out hlt
      have hn := (hRw.tr.node 2 p (by omega) HP.out).hs hlt
      unfold hsOf at hn
      rw [if_neg (by omega)] at hn
      have hdi : (d : Int) < 16 := by omega
      have hsk3 : 0 < (p : Int) * 256 + (d : Int) * 16 + 16 := by omega
      cases hx : ex (2 + 1) (16 * p + d)
      · have HS0 : Hid (seg f 0 ((16 * p + d) * rxD 3) (rxD 3) = []) := seg_none (Full.none_in hRw (by omega) hx)
        rw [HS0.out, List.append_nil] at HS
        rw [hx] at hhc
        simp only [ptrIf, Bool.false_eq_true, if_false] at hhc
        clear hS hJ ho1 hl1 eq1 hRw
        gi_wp2_with (with_reducible refine ⟨wide_ab, ?_⟩)
        refine ⟨trivial, wide_d, ?_⟩
        refine (callsIn_wide.2 (tellNil _ _ _ _ _)).mono ?_
        rintro x w9 ⟨rfl, rfl⟩
        gi_wp2
        go_roundw
        case rel =>
          (repeat apply Exists.intro (α := Value))
          exact ⟨⟨d + 1, by omega, by go_num, by rw [HS.out]; exact HJ.out⟩, rfl⟩
        case measure => simp [intOf]; omega
      · rw [hx] at hhc
        simp only [ptrIf, if_true] at hhc
        have HC := Lib.hid (fun mm => HIH.out mm wr (16 * p + d) ((p : Int) * 256 + (d : Int) * 16) o1 (by rw [eq1, rxD_2]; omega) hx hl1 hJ)
        generalize nd (2 + 1) (16 * p + d) = vb at *
        clear hS hJ ho1 hl1 eq1 hRw
        gi_wp2_with (with_reducible refine ⟨wide_ab, ?_⟩)
        refine ⟨trivial, wide_d, ?_⟩
        refine (HC.out _).mono ?_
        rintro x w9 ⟨rfl, hJ9⟩
        have HJ9 := Lib.hid hJ9
        clear hJ9
        gi_wp2
        go_roundw
        case rel =>
          (repeat apply Exists.intro (α := Value))
          exact ⟨⟨d + 1, by omega, by go_num, by rw [HS.out]; exact HJ9.out⟩, rfl⟩
        case measure => simp [intOf]; omega
    · obtain rfl : d = 16 := by omega
      have HJ := Lib.hid hJ
      clear hJ
      gi_wp2_with fail
      go_ret
      exact ⟨rfl, HJ.out⟩
set_option maxRecDepth 100000 in
set_option maxHeartbeats 4000000 in
theorem tell1 (hR : RxAt w0 base g ex nd f many) (hK : KpJ w0 J) (ih : TellIn ex nd f J lp 2) : TellIn ex nd f J lp 1 := by
  rintro m w p bs o rfl hp hacc h
  have HH := Lib.hid h
  have HR := Lib.hid hR
  have HK := Lib.hid hK
  have HIH := Lib.hid ih
  have hpb := hR.bnd (by omega) hp
  have HA := Lib.hid hacc
  have HP := Lib.hid hp
  have hpl : p < 16 := hpb
  have e1 : ((p * rxD 1 : Nat) : Int) = (p : Int) * 4096 := by rw [rxD_1]; omega
  rw [e1]
  clear h hacc hpb e1 hR hK ih hp
  refine callsIn_of_wp Try.func87 rfl trivial ?_ rfl
  simp only [Try.ntmps87, List.size_toArray, List.length_cons, List.length_nil, Nat.reduceAdd, Nat.reduceSub, Array.replicate_succ, Array.replicate_zero, List.push_toArray, List.append_toArray, List.nil_append, List.cons_append]
  gi_wp2_with fail
  gi_loopw [20] (fun i wr => ∃ (d : Nat), d ≤ 16 ∧ i = .int .i64 (d : Int) ∧ J (o ++ seg f 0 (p * rxD 1) (d * 256)) wr) (fun i _ => 16 - (intOf i).toNat)
  case atStart => exact ⟨0, by omega, rfl, by rw [Nat.zero_mul, seg_zero, List.append_nil]; exact HH.out⟩
  case round =>
    clear HH
    obtain ⟨d, hd, rfl, hJ⟩ := hrel
    rcases Nat.lt_or_ge d 16 with hlt | hge
    · obtain ⟨o1, ho1⟩ : ∃ o1, o1 = o ++ seg f 0 (p * rxD 1) (d * 256) := ⟨_, rfl⟩
      have eq1 : (16 * p + d) * rxD 2 = p * rxD 1 + d * 256 := by rw [rxD_1, rxD_2]; omega
      have hl1 : o1.length ≤ (16 * p + d) * rxD 2 := by
        have h2 := seg_len f 0 (p * rxD 1) (d * 256)
        have h3 := HA.out
        rw [ho1, List.length_append]
        omega
      have hS : o ++ seg f 0 (p * rxD 1) ((d + 1) * 256) = o1 ++ seg f 0 ((16 * p + d) * rxD 2) (rxD 2) := by
        rw [ho1, List.append_assoc, eq1, show (d + 1) * 256 = d * 256 + 256 by omega, seg_add, show rxD 2 = 256 from rfl]
      rw [← ho1] at hJ
      have HJ := Lib.hid hJ
      have HS := Lib.hid hS
      have hRw := HR.out.below0 (HK.out.below _ _ hJ)
      have hhc := hRw.tr.dnC (by omega) HP.out hlt
      have hn := (hRw.tr.node 1 p (by omega) HP.out).hs hlt
      unfold hsOf at hn
      rw [if_neg (by omega)] at hn
      have hdi : (d : Int) < 16 := by omega
      have hsk3 : 0 < (p : Int) * 4096 + (d : Int) * 256 + 256 := by omega
      cases hx : ex (1 + 1) (16 * p + d)
      · have HS0 : Hid (seg f 0 ((16 * p + d) * rxD 2) (rxD 2) = []) := seg_none (Full.none_in hRw (by omega) hx)
        rw [HS0.out, List.append_nil] at HS
        rw [hx] at hhc
        simp only [ptrIf, Bool.false_eq_true, if_false] at hhc
        clear hS hJ ho1 hl1 eq1 hRw
        gi_wp2_with (with_reducible refine ⟨wide_ab, ?_⟩)
        refine ⟨trivial, wide_d, ?_⟩
        refine (callsIn_wide.2 (tellNil _ _ _ _ _)).mono ?_
        rintro x w9 ⟨rfl, rfl⟩
        gi_wp2
        go_roundw
        case rel =>
          (repeat apply Exists.intro (α := Value))
          exact ⟨⟨d + 1, by omega, by go_num, by rw [HS.out]; exact HJ.out⟩, rfl⟩
        case measure => simp [intOf]; omega
      · rw [hx] at hhc
        simp only [ptrIf, if_true] at hhc
        have HC := Lib.hid (fun mm => HIH.out mm wr (16 * p + d) ((p : Int) * 4096 + (d : Int) * 256) o1 (by rw [eq1, rxD_1]; omega) hx hl1 hJ)
        generalize nd (1 + 1) (16 * p + d) = vb at *
        clear hS hJ ho1 hl1 eq1 hRw
        gi_wp2_with (with_reducible refine ⟨wide_ab, ?_⟩)
        refine ⟨trivial, wide_d, ?_⟩
        refine (HC.out _).mono ?_
        rintro x w9 ⟨rfl, hJ9⟩
        have HJ9 := Lib.hid hJ9
        clear hJ9
        gi_wp2
        go_roundw
        case rel =>
          (repeat apply Exists.intro (α := Value))
          exact ⟨⟨d + 1, by omega, by go_num, by rw [HS.out]; exact HJ9.out⟩, rfl⟩
        case measure => simp [intOf]; omega
    · obtain rfl : d = 16 := by omega
      have HJ := Lib.hid hJ
      clear hJ
      gi_wp2_with fail
      go_ret
      exact ⟨rfl, HJ.out⟩
set_option maxRecDepth 100000 in
set_option maxHeartbeats 4000000 in
theorem tell0 (hR : RxAt w0 base g ex nd f many) (hK : KpJ w0 J) (ih : TellIn ex nd f J lp 1) : TellIn ex nd f J lp 0 := by
  rintro m w p bs o rfl hp hacc h
  have HH := Lib.hid h
  have HR := Lib.hid hR
  have HK := Lib.hid hK
  have HIH := Lib.hid ih
  have hpb := hR.bnd (by omega) hp
  have HA := Lib.hid hacc
  have HP := Lib.hid hp
  have hpl : p < 1 := hpb
  have e1 : ((p * rxD 0 : Nat) : Int) = (p : Int) * 65536 := by rw [rxD_0]; omega
  rw [e1]
  clear h hacc hpb e1 hR hK ih hp
  refine callsIn_of_wp Try.func87 rfl trivial ?_ rfl
  simp only [Try.ntmps87, List.size_toArray, List.length_cons, List.length_nil, Nat.reduceAdd, Nat.reduceSub, Array.replicate_succ, Array.replicate_zero, List.push_toArray, List.append_toArray, List.nil_append, List.cons_append]
  gi_wp2_with fail
  gi_loopw [20] (fun i wr => ∃ (d : Nat), d ≤ 16 ∧ i = .int .i64 (d : Int) ∧ J (o ++ seg f 0 (p * rxD 0) (d * 4096)) wr) (fun i _ => 16 - (intOf i).toNat)
  case atStart => exact ⟨0, by omega, rfl, by rw [Nat.zero_mul, seg_zero, List.append_nil]; exact HH.out⟩
  case round =>
    clear HH
    obtain ⟨d, hd, rfl, hJ⟩ := hrel
    rcases Nat.lt_or_ge d 16 with hlt | hge
    · obtain ⟨o1, ho1⟩ : ∃ o1, o1 = o ++ seg f 0 (p * rxD 0) (d * 4096) := ⟨_, rfl⟩
      have eq1 : (16 * p + d) * rxD 1 = p * rxD 0 + d * 4096 := by rw [rxD_0, rxD_1]; omega
      have hl1 : o1.length ≤ (16 * p + d) * rxD 1 := by
        have h2 := seg_len f 0 (p * rxD 0) (d * 4096)
        have h3 := HA.out
        rw [ho1, List.length_append]
        omega
      have hS : o ++ seg f 0 (p * rxD 0) ((d + 1) * 4096) = o1 ++ seg f 0 ((16 * p + d) * rxD 1) (rxD 1) := by
        rw [ho1, List.append_assoc, eq1, show (d + 1) * 4096 = d * 4096 + 4096 by omega, seg_add, show rxD 1 = 4096 from rfl]
      rw [← ho1] at hJ
      have HJ := Lib.hid hJ
      have HS := Lib.hid hS
      have hRw := HR.out.below0 (HK.out.below _ _ hJ)
      have hhc := hRw.tr.dnC (by omega) HP.out hlt
      have hn := (hRw.tr.node 0 p (by omega) HP.out).hs hlt
      unfold hsOf at hn
      rw [if_neg (by omega)] at hn
      have hdi : (d : Int) < 16 := by omega
      have hsk3 : 0 < (p : Int) * 65536 + (d : Int) * 4096 + 4096 := by omega
      cases hx : ex (0 + 1) (16 * p + d)
      · have HS0 : Hid (seg f 0 ((16 * p + d) * rxD 1) (rxD 1) = []) := seg_none (Full.none_in hRw (by omega) hx)
        rw [HS0.out, List.append_nil] at HS
        rw [hx] at hhc
        simp only [ptrIf, Bool.false_eq_true, if_false] at hhc
        clear hS hJ ho1 hl1 eq1 hRw
        gi_wp2_with (with_reducible refine ⟨wide_ab, ?_⟩)
        refine ⟨trivial, wide_d, ?_⟩
        refine (callsIn_wide.2 (tellNil _ _ _ _ _)).mono ?_
        rintro x w9 ⟨rfl, rfl⟩
        gi_wp2
        go_roundw
        case rel =>
          (repeat apply Exists.intro (α := Value))
          exact ⟨⟨d + 1, by omega, by go_num, by rw [HS.out]; exact HJ.out⟩, rfl⟩
        case measure => simp [intOf]; omega
      · rw [hx] at hhc
        simp only [ptrIf, if_true] at hhc
        have HC := Lib.hid (fun mm => HIH.out mm wr (16 * p + d) ((p : Int) * 65536 + (d : Int) * 4096) o1 (by rw [eq1, rxD_0]; omega) hx hl1 hJ)
        generalize nd (0 + 1) (16 * p + d) = vb at *
        clear hS hJ ho1 hl1 eq1 hRw
        gi_wp2_with (with_reducible refine ⟨wide_ab, ?_⟩)
        refine ⟨trivial, wide_d, ?_⟩
        refine (HC.out _).mono ?_
        rintro x w9 ⟨rfl, hJ9⟩
        have HJ9 := Lib.hid hJ9
        clear hJ9
        gi_wp2
        go_roundw
        case rel =>
          (repeat apply Exists.intro (α := Value))
          exact ⟨⟨d + 1, by omega, by go_num, by rw [HS.out]; exact HJ9.out⟩, rfl⟩
        case measure => simp [intOf]; omega
    · obtain rfl : d = 16 := by omega
      have HJ := Lib.hid hJ
      clear hJ
      gi_wp2_with fail
      go_ret
      exact ⟨rfl, HJ.out⟩
end
end Go.Proofs.YteifdbfaclpcdaaR.Rr
