/- Squeeze: the walk of SqueezeSpoilt. -/
import Derived.Test.YtckdellcnoojaaaRRRSqK
import Derived.Test.YtckdellcnoojaaaRRRRi
import Derived.OpenShut
namespace Go.Proofs.YtckdellcnoojaaaRRR
open Go.RowKit

theorem unp_more {P : List UInt8} (hP : P.length = 4096) (x : UInt8) : unpF (packB P ++ [x]) [] 0 0 = ([], 0, 3) := by
  obtain ⟨L, h1, h2, -⟩ := packB_plays hP
  have := unp_plays h2 hP [] [x] 0
  rw [h1]
  simpa using this
theorem unp_less {P : List UInt8} (hP : P.length = 4096) {k : Nat} (hk : k < (packB P).length) : (unpF ((packB P).take k) [] 0 0).2.2 ≠ 0 := by
  obtain ⟨L, h1, h2, -⟩ := packB_plays hP
  rw [h1] at hk ⊢
  have := unp_cut h2 hP [] 0 hk
  simpa using this
theorem bits_u8 (op : BinOp) (x y : Int) : ∃ z : UInt8, bits op .u8 x y = (z.toNat : Int) := by
  obtain ⟨n, hn, h⟩ := wf_u8 (wf_bits op .u8 x y)
  refine ⟨UInt8.ofNat n, ?_⟩
  rw [hn]
  simp
  omega
theorem run_headY {w : World} {b o n c : Nat} {k : Nat} (h : k ≤ c) : (Instr.slice 22 (.slice (some ⟨b, o, none⟩) n c) none (some (.int .i64 (k : Int))) none).run Try.prog w = .ok (.slice (some ⟨b, o, none⟩) k c) w := by
  have hi8 : Try.prog.elem 22 = 5 := by kernel_rfl
  rw [run_slice_h w 22 (some ⟨b, o, none⟩) n c (by rw [hi8]; exact Try.underlying22) .i64 (k : Int) (by omega) (by omega), hi8]
  have hs : (sizeOf 5).run Try.prog w = .ok 1 w := by kernel_rfl
  rw [hs]
  simp only [Result.andThen_ok, sliced, Int.toNat_natCast, Nat.zero_mul, Option.map_some, off_pq, Nat.add_zero, Nat.sub_zero, ite_self]

/-- What the three say of any bytes. -/
def Three (w : World) : Prop := ∀ (A : Option Addr) (c : Nat) (l : List UInt8), RdY w w.heap.size A l → l.length ≤ 9000 → l.length ≤ c → ∀ W, Below w.heap.size w W →
  Calls Try.prog 48 #[.slice A l.length c] W (fun e w' => ∃ A' c', e = .returned (.tuple #[.slice A' (unpF l [] 0 0).1.length c', .int .i64 ((unpF l [] 0 0).2.2 : Nat)]) ∧ OwnY w' W.heap.size (.slice A' (unpF l [] 0 0).1.length c') (unpF l [] 0 0).1 ∧ Below W.heap.size W w') ∧
  Calls Try.prog 49 #[.slice A l.length c] W (fun e w' => ∃ A' c', e = .returned (.tuple #[.slice A' (unpF l [] 0 0).1.length c', .int .i64 ((unpF l [] 0 0).2.1 : Nat), .int .i64 ((unpF l [] 0 0).2.2 : Nat)]) ∧ OwnY w' W.heap.size (.slice A' (unpF l [] 0 0).1.length c') (unpF l [] 0 0).1 ∧ Below W.heap.size W w') ∧
  Calls Try.prog 50 #[.slice A l.length c] W (fun e w' => e = .returned (.int .i64 ((unpF l [] 0 0).2.1 : Nat)) ∧ Below W.heap.size W w')
theorem three (w : World) : Three w := fun A c l h hl hc W hW =>
  ⟨unpack_any (h.below hW) hW.size (by omega) hc, rUnpack_any (h.below hW) hW.size (by omega) hc, tokens_any (h.below hW) hW.size (by omega) hc⟩

set_option maxRecDepth 100000 in
set_option maxHeartbeats 2000000 in
theorem sqSpoilt_great {w : World} {A2 : Option Addr} {c2 : Nat} (at_ x : Int) {L : List Pc} (h2 : PcsAt w w.heap.size A2 L) (hl : L.length ≤ 9223372036854775807) (hgr : greatL L = true) :
    Calls Try.prog 14 #[.slice A2 L.length c2, .int .u16 at_, .int .u8 x] w fun e w' => e = .returned (.bool true) ∧ Below w.heap.size w w' := by
  have HG := Lib.hid (qGreat_any (c := c2) h2 hl)
  rw [hgr] at HG
  clear h2 hgr
  go_enter Try.func14, Try.ntmps14
  go_wp2_with fail
  refine HG.out.mono ?_
  rintro e w3 ⟨rfl, rfl⟩
  go_wp2_with fail
  refine (sqLives _).mono ?_
  rintro e w3 ⟨rfl, hB3⟩
  go_wp2
  go_ret
  exact ⟨rfl, hB3⟩

set_option maxRecDepth 100000 in
set_option maxHeartbeats 8000000 in
theorem sqSpoilt_any {w : World} {A2 : Option Addr} {c2 : Nat} (at_ : Nat) (x : UInt8) {L : List Pc} (hat : at_ ≤ 65535) (h2 : PcsAt w w.heap.size A2 L) (hgr : greatL L = false) :
    Calls Try.prog 14 #[.slice A2 L.length c2, .int .u16 at_, .int .u8 (x.toNat : Int)] w fun e w' => e = .returned (.bool true) ∧ Below w.heap.size w w' := by
  obtain ⟨i0, hi0, hz0, hz1, hz2⟩ := info_parts u8_info
  obtain ⟨hl, hL⟩ := greatL_no hgr
  have HG := Lib.hid (qGreat_any (c := c2) h2 (by omega))
  have HP := Lib.hid (page_any (c := c2) h2 (Nat.le_refl _) (by omega) hL)
  rw [hgr] at HG
  have hati : (at_ : Int) ≤ 65535 := by omega
  have hx := byte_le x
  clear h2 hgr hL hl
  go_enter Try.func14, Try.ntmps14
  go_wp2_with fail
  refine HG.out.mono ?_
  rintro e w0 ⟨rfl, rfl⟩
  go_wp2_with fail
  refine HP.out.mono ?_
  rintro e w1 ⟨A1, c1, P, rfl, hp, hO1, hB1⟩
  obtain ⟨T, -, -, hT⟩ := packB_plays hp
  have HSo := packB_some hp
  have HPk := Lib.hid (hO1.pack hp (Below.refl _ _))
  have HB1 := Lib.hid hB1
  have HM := Lib.hid (unp_more hp x)
  have HLs : Hid (∀ k, k < (packB P).length → (unpF ((packB P).take k) [] 0 0).2.2 ≠ 0) := fun k hk => unp_less hp hk
  clear hO1 hB1 hp HP HG
  generalize packB P = b at *
  go_wp2_with fail
  refine HPk.out.mono ?_
  rintro e w2 ⟨A2, c2, rfl, hO2, hB2⟩
  obtain ⟨g2, rfl, -, hg2, hc2, -, -, -⟩ := hO2.at_ HSo
  have HO2 := Lib.hid hO2
  have HB2 : Hid (Below w.heap.size w w2) := HB1.out.trans (hB2.mono HB1.out.size)
  have hz := HB2.out.size
  obtain ⟨k, hk, hkl⟩ : ∃ k, at_ % b.length = k ∧ k < b.length := ⟨_, rfl, Nat.mod_lt _ HSo⟩
  have hkm : (at_ : Int) % (b.length : Int) = (k : Int) := by omega
  have hlb0 : ((b.length : Int) == 0) = false := beq_eq_false_iff_ne.2 (by omega)
  have hkb : (k : Int) < (b.length : Int) := by omega
  have hl4 : (b.length : Int) ≤ 4128 := by omega
  have hl0 : (0 : Int) < (b.length : Int) := by omega
  have HO := Lib.hid (World.ownsRow_made (base := w2.heap.size) (e := 5) (size := 1) w2 #[] 0 (Nat.le_refl _) (by decide) rfl)
  have HR2 : Hid (Rd (w2.alloc (.cells #[] 5)) w2.heap.size (some ⟨g2, 0, none⟩) (b.map bv)) := HO2.out.rd.below ((Below.refl _ _).alloc (Nat.le_refl _) (.cells #[] 5))
  clear hO2 hB2 HPk HB1 hk
  go_upto_region 8 with (refine wpList_dst 42 ?_; at_builtin; refine wpList_append_rd rfl (.tmp 40) (.tmp 41) 22 rfl w2.heap.size 5 i0 (.int .u8 0) 1 Try.underlying22 hi0 hz0 hz1 hz2 rfl (.slice (some ⟨w2.heap.size, 0, none⟩) 0 0) 0 [] rfl HO.out w2.heap.size (some ⟨g2, 0, none⟩) b.length c2 (b.map bv) rfl (by simp) HR2.out (oneY b) (by simp [maxLen]; omega) (by simp; omega) (by simp) ?_; intro v3 w3 hown hg hat3)
  have hB23 : Below w2.heap.size w2 w3 := ((Below.refl _ _).alloc (Nat.le_refl _) _).grown hg (by simp) (fun q hq => by simp [Value.ownBlock] at hq; omega)
  have hO3 : OwnY w3 w2.heap.size v3 b := by simpa [OwnY] using hown
  have HRb := Lib.hid HO2.out.rd
  have HB3 : Hid (Below w.heap.size w w3) := HB2.out.trans (hB23.mono hz)
  clear hown hg hat3 HO HR2 HO2
  obtain ⟨A3, c3, rfl⟩ := hO3.form
  obtain ⟨g3, rfl, hg3, hg3', hc3, -, hcell, hfr⟩ := hO3.at_ HSo
  have hc := hcell k hkl
  have hfz := hfr k
  generalize (b[k]?.getD 0).toNat = xk at hc
  obtain ⟨z, hzz⟩ := bits_u8 .xor (xk : Int) (bits .or .u8 (x.toNat : Int) 1)
  have hO4 := hO3.set hkl z
  rw [← hzz] at hO4
  have HC4 := Lib.hid hO4
  have hB4 : Below w2.heap.size w2 (w3.setCell ⟨g3, k, none⟩ (.int .u8 (bits BinOp.xor IntKind.u8 (xk : Int) (bits BinOp.or IntKind.u8 (x.toNat : Int) 1)))) := hB23.setCell (p := ⟨g3, k, none⟩) hg3 _
  clear hcell hfr hO3 hO4 hzz
  go_upto_region 9 with fail
  generalize w3.setCell ⟨g3, k, none⟩ (.int .u8 (bits BinOp.xor IntKind.u8 (xk : Int) (bits BinOp.or IntKind.u8 (x.toNat : Int) 1))) = w4 at *
  have HB4 : Hid (Below w.heap.size w w4) := HB2.out.trans (hB4.mono hz)
  have HO2 : Hid (RdY w4 w2.heap.size (some ⟨g2, 0, none⟩) b) := HRb.out.below hB4
  have HO := Lib.hid (World.ownsRow_made (base := w4.heap.size) (e := 5) (size := 1) w4 #[] 0 (Nat.le_refl _) (by decide) rfl)
  have HR2 : Hid (Rd (w4.alloc (.cells #[] 5)) w2.heap.size (some ⟨g2, 0, none⟩) (b.map bv)) := RdY.below' HO2.out ((Below.refl w4.heap.size w4).alloc (Nat.le_refl _) (.cells #[] 5)) hB4.size
  have hz4 : w2.heap.size ≤ w4.heap.size := hB4.size
  clear hB23 HRb hc hfz hB4 hg3' hg3 HB2
  go_upto_region 10 with (first
    | (refine wpList_dst 55 ?_; at_builtin; refine wpList_append_rd rfl (.tmp 53) (.tmp 54) 22 rfl w4.heap.size 5 i0 (.int .u8 0) 1 Try.underlying22 hi0 hz0 hz1 hz2 rfl (.slice (some ⟨w4.heap.size, 0, none⟩) 0 0) 0 [] rfl HO.out w2.heap.size (some ⟨g2, 0, none⟩) b.length c2 (b.map bv) rfl (by simp) HR2.out (oneY b) (by simp [maxLen]; omega) (by simp; omega) (by simp) ?_; intro v5 w5 hown hg hat3; have hO5 : OwnY w5 w4.heap.size v5 b := (by simpa [OwnY] using hown); have HR := Lib.hid (rd_one w5 x rfl); have hB45 : Below w4.heap.size w4 w5 := ((Below.refl _ _).alloc (Nat.le_refl _) _).grown hg (by simp) (fun q hq => by simp [Value.ownBlock] at hq; omega); have hz5 : w4.heap.size ≤ w5.heap.size := hB45.size; have HOo := Lib.hid (World.ownsRow.alloc hO5 (.cells #[.int .u8 (x.toNat : Int)] 5)))
    | (refine wpList_dst 58 ?_; at_builtin; refine wpList_append_rd rfl (.tmp 55) (.tmp 57) 22 rfl w4.heap.size 5 i0 (.int .u8 0) 1 Try.underlying22 hi0 hz0 hz1 hz2 rfl v5 b.length _ rfl HOo.out _ (some ⟨w5.heap.size, 0, none⟩) 1 1 ([x].map bv) rfl rfl HR.out (oneY _) (by simp [maxLen]; omega) (by simp; omega) (by simp; omega) ?_; intro v6 w6 hown6 hg6 hat6))
  have hD : OwnY w6 w4.heap.size v6 (b ++ [x]) := own_app rfl hown6
  have hB46 : Below w4.heap.size w4 w6 := (hB45.alloc hz5 _).grown hg6 (by simp; omega) (fun q hq => (hO5.lt hq).1)
  have hz6 : w4.heap.size ≤ w6.heap.size := hB46.size
  obtain ⟨A6, c6, rfl⟩ := hD.form
  obtain ⟨g6, rfl, -, -, hc6, -, -, -⟩ := hD.at_ (by simp)
  have T1 := Lib.hid (three w6 (some ⟨g3, 0, none⟩) c3 (b.set k z) (HC4.out.below hB46).rd (by rw [List.length_set]; omega) (by rw [List.length_set]; exact hc3))
  have T2 := Lib.hid (three w6 (some ⟨g6, 0, none⟩) c6 (b ++ [x]) hD.rd (by rw [List.length_append]; simp; omega) hc6)
  have T3 := Lib.hid (three w6 (some ⟨g2, 0, none⟩) c2 (b.take k) (((RdY.below' HO2.out hB46 hz4).take k).more (by omega)) (by rw [List.length_take]; omega) (by rw [List.length_take]; omega))
  have hU3 := HLs.out k hkl
  rw [List.length_take, Nat.min_eq_left (by omega : k ≤ b.length)] at T3
  rw [List.length_set] at T1
  have HB6 : Hid (Below w.heap.size w w6) := HB4.out.trans (hB46.mono (by omega))
  have hkc : k ≤ c2 := by omega
  have cut := fun W : World => run_headY (w := W) (b := g2) (o := 0) (n := b.length) hkc
  clear hown hg hat3 hO5 HR hB45 HOo hown6 hg6 hat6 hD hB46 HC4 HO2 HB4 HR2 HO HB3 HLs hx hati
  generalize unpF (b.set k z) [] 0 0 = U1 at *
  generalize unpF (b.take k) [] 0 0 = U3 at *
  have hU2 : (unpF (b ++ [x]) [] 0 0).2.2 ≠ 0 := by rw [HM.out]; decide
  generalize unpF (b ++ [x]) [] 0 0 = U2 at *
  obtain ⟨p1, m1, e1⟩ := U1
  obtain ⟨p2, m2, e2⟩ := U2
  obtain ⟨p3, m3, e3⟩ := U3
  simp only [] at T1 T2 T3 hU3 hU2
  have he2 : ((e2 : Int) == 0) = false := beq_eq_false_iff_ne.2 (by omega)
  have he3 : ((e3 : Int) == 0) = false := beq_eq_false_iff_ne.2 (by omega)
  clear HM
  generalize (b ++ [x]).length = n6 at *
  generalize b.length = nb at *
  go_wp2
  go_loopw [12] (fun i wr => ∃ j : Nat, j ≤ 3 ∧ i = .int .i64 j ∧ Below w6.heap.size w6 wr) (fun i _ => 3 - (intOf i).toNat)
  case atStart => exact ⟨0, by omega, rfl, Below.refl _ _⟩
  case round =>
    obtain ⟨j, hj, rfl, hBr⟩ := hrel
    have HBr := Lib.hid hBr
    clear hBr
    have hcase : j = 0 ∨ j = 1 ∨ j = 2 ∨ j = 3 := by omega
    rcases hcase with rfl | rfl | rfl | rfl
    rotate_left 3
    · go_wp2_with fail
      refine (sqLives _).mono ?_
      rintro e wz ⟨rfl, hBz⟩
      go_wp2
      go_ret
      have hBq := HB6.out.trans (HBr.out.mono HB6.out.size)
      exact ⟨rfl, hBq.trans (hBz.mono hBq.size)⟩
    have T := T1
    rotate_left
    have T := T2
    rotate_left
    have T := T3
    rotate_left
    all_goals
      clear T1 T2 T3
      go_wp2_with fail
      refine (T.out _ HBr.out).1.mono ?_
      rintro e wa ⟨Aa, ca, rfl, hOa, hBa⟩
      have HBa : Hid (Below w6.heap.size w6 wa) := HBr.out.trans (hBa.mono HBr.out.size)
      have HOa := Lib.hid hOa
      clear hOa hBa
      go_wp2_with fail
      refine (T.out _ HBa.out).2.1.mono ?_
      rintro e wb ⟨Ab, cb, rfl, hOb, hBb⟩
      have HE := Lib.hid (refBytes_any (c := ca) (c2 := cb) (HOa.out.below hBb).rd hOb.rd)
      rw [beq_self_eq_true] at HE
      have HBb : Hid (Below w6.heap.size w6 wb) := HBa.out.trans (hBb.mono HBa.out.size)
      clear hOb hBb HOa
      go_wp2_with fail
      refine HE.out.mono ?_
      rintro e wc ⟨rfl, rfl⟩
      clear HE
      go_wp2_with fail
      refine (T.out _ HBb.out).2.2.mono ?_
      rintro e wd ⟨rfl, hBd⟩
      have HBd : Hid (Below w6.heap.size w6 wd) := HBb.out.trans (hBd.mono HBb.out.size)
      clear hBd
      go_wp2
      go_round
      case rel => first | exact ⟨1, by omega, by go_num, HBd.out⟩ | exact ⟨2, by omega, by go_num, HBd.out⟩ | exact ⟨3, by omega, by go_num, HBd.out⟩
      case measure => simp [intOf]
end Go.Proofs.YtckdellcnoojaaaRRR
