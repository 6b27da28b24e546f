/- The reference gunnyref27: In and Out. -/
import Derived.Test.YteifdbfaclpcdaaRCntD
import Derived.Deep.RegionLaw
namespace Go.Proofs.YteifdbfaclpcdaaR
open Go.RowKit

theorem int_info : (Try.prog.info? 3).map (fun i => (i.zero, i.size, i.bytes)) = some (some (.int .i64 0), 1, 8) := by kernel_rfl

/-- A list of kinds that the call owns. -/
def OwnI (w : World) (base : Nat) (v : Value) (l : List Int) : Prop := w.ownsRow base 3 1 v l.length (l.map (Value.int .i64))

set_option maxRecDepth 100000 in
set_option maxHeartbeats 2000000 in
theorem refIn_any {w : World} {B C : Nat} {A A2 : Option Addr} {c c2 : Nat} {l ks : List Int} (hA : RdI w B A l) (hB : B ≤ w.heap.size) (hK : RdI w C A2 ks) (hC : C ≤ w.heap.size) (hl : l.length ≤ 100000) (hk : ks.length ≤ 100000) :
    Calls Try.prog 22 #[.slice A l.length c, .slice A2 ks.length c2] w fun e w' => ∃ v, e = .returned (.tuple #[v, .int .i64 (valid ks)]) ∧ OwnI w' w.heap.size v (l ++ ks.filter isK) ∧ Below w.heap.size w w' := by
  obtain ⟨i0, hi0, hz0, hz1, hz2⟩ := info_parts int_info
  have h1 := Lib.hid (oneI l)
  have HO := Lib.hid (World.ownsRow_made (base := w.heap.size) (e := 3) (size := 1) w #[] 0 (Nat.le_refl _) (by decide) rfl)
  have HR2 : Hid (Rd (w.alloc (.cells #[] 3)) B A (l.map (Value.int .i64))) := hA.below' ((Below.refl w.heap.size w).alloc (Nat.le_refl _) (.cells #[] 3)) hB
  have HK := Lib.hid hK
  clear hA hK
  go_enter Try.func22, Try.ntmps22
  go_wp2_with (at_builtin; refine wpList_append_rd rfl (.tmp 9) (.tmp 10) 23 rfl w.heap.size 3 i0 (.int .i64 0) 8 Try.underlying23 hi0 hz0 hz1 hz2 rfl (.slice (some ⟨w.heap.size, 0, none⟩) 0 0) 0 [] rfl HO.out B A l.length c (l.map (Value.int .i64)) rfl (by simp) HR2.out h1.out (by simp [maxLen]; omega) (by simp; omega) (by simp) ?_; intro v1 w1 hown hg hat)
  have hb1 : Below w.heap.size w w1 := ((Below.refl _ _).alloc (Nat.le_refl _) _).grown hg (by simp) (fun k hk => by simp [Value.ownBlock] at hk; omega)
  simp only [List.length_map, Nat.zero_add, List.nil_append] at hown
  have HO1 : Hid (OwnI w1 w.heap.size v1 (l ++ (ks.take 0).filter isK)) := by show OwnI _ _ _ _; simpa [OwnI] using hown
  clear hg hat hown
  go_wp2
  go_loopw [6, 7, 8] (fun v n i wr => ∃ k : Nat, k ≤ ks.length ∧ i = .int .i64 k ∧ n = .int .i64 (valid (ks.take k)) ∧ Hid (OwnI wr w.heap.size v (l ++ (ks.take k).filter isK)) ∧ Below w.heap.size w wr) (fun _ _ i _ => ks.length - (intOf i).toNat)
  case atStart => exact ⟨0, Nat.zero_le _, rfl, rfl, HO1, hb1⟩
  case round =>
    clear HO1 hb1
    obtain ⟨k, hk', rfl, rfl, HO1, hb1⟩ := hrel
    have hvk := valid_take_le ks k
    rcases Nat.lt_or_ge k ks.length with hlt | hge
    · obtain ⟨ad, rfl, hab, hc⟩ := RdI.at_ (w := wr) (Rd.below' HK.out hb1 hC) hlt
      have HS := Lib.hid (valid_succ ks hlt)
      have HT : Hid ((ks.take (k + 1)).filter isK = (ks.take k).filter isK ++ if isK (ks[k]?.getD 0) then [ks[k]?.getD 0] else []) := by
        show _ = _
        rw [List.take_succ_eq_append_getElem hlt, List.filter_append]
        simp only [List.filter_cons, List.filter_nil, List.getElem?_eq_getElem hlt, Option.getD_some]
      have hfl : ((ks.take k).filter isK).length ≤ 100000 := by
        have := List.length_filter_le isK (ks.take k)
        have := List.length_take_le k ks
        omega
      generalize ks[k]?.getD 0 = x at *
      cases hx : isK x
      · have HX := Lib.hid hx
        have hx' := isK_false hx
        clear hx
        rcases hx' with hx' | hx'
        all_goals
          go_wp2
          go_roundw
          case rel => exact ⟨k + 1, by omega, by go_num, by rw [HS.out, HX.out]; simp, by rw [HT.out, HX.out]; simpa using HO1, hb1⟩
          case measure => simp [intOf]; omega
      · obtain ⟨n, rfl, hn⟩ := isK_true hx
        have HX := Lib.hid hx
        clear hx
        have HO2 : Hid ((wr.alloc (.cells #[.int .i64 n] 3)).ownsRow w.heap.size 3 1 u6 (l ++ (ks.take k).filter isK).length ((l ++ (ks.take k).filter isK).map (Value.int .i64))) := (HO1.out : wr.ownsRow _ _ _ _ _ _).alloc _
        have HR3 : Hid (Rd (wr.alloc (.cells #[.int .i64 n] 3)) (wr.heap.size + 1) (some ⟨wr.heap.size, 0, none⟩) [.int .i64 (n : Int)]) := fun j u hj => by
          have hb0 : Bk (wr.alloc (.cells #[.int .i64 (n : Int)] 3)) wr.heap.size 3 #[.int .i64 n] := Bk.new _ _ _
          refine ⟨_, rfl, by simp, ?_⟩
          match j, hj with
          | 0, hj => simpa [Addr.add, hb0.cell] using hj
        go_wp2_with (at_builtin; refine wpList_append_rd rfl (.tmp 30) (.tmp 35) 23 rfl w.heap.size 3 i0 (.int .i64 0) 8 Try.underlying23 hi0 hz0 hz1 hz2 rfl u6 _ _ rfl HO2.out _ (some ⟨wr.heap.size, 0, none⟩) 1 1 [.int .i64 (n : Int)] rfl rfl HR3.out (by simp [Value.oneCell']) (by simp [maxLen]; omega) (by simp; omega) (by have := hb1.size; simp; omega) ?_; intro v2 w2 hown hg hat)
        have hb2 : Below w.heap.size w w2 := (hb1.alloc hb1.size _).grown hg (by have := hb1.size; simp; omega) (fun k hk => (World.ownsRow.lt HO2.out k hk).1)
        have HO3 : Hid (OwnI w2 w.heap.size v2 (l ++ (ks.take (k + 1)).filter isK)) := by
          show OwnI _ _ _ _
          rw [HT.out, HX.out]
          simpa [OwnI, List.append_assoc, Nat.add_assoc] using hown
        clear hown hg hat HO2 HR3
        go_wp2
        go_roundw
        case rel => exact ⟨k + 1, by omega, by go_num, by rw [HS.out, HX.out]; simp, HO3, hb2⟩
        case measure => simp [intOf]; omega
    · obtain rfl : k = ks.length := by omega
      rw [List.take_of_length_le (Nat.le_refl _)] at *
      go_wp2
      go_ret2
      exact ⟨u6, rfl, HO1, hb1⟩
end Go.Proofs.YteifdbfaclpcdaaR
