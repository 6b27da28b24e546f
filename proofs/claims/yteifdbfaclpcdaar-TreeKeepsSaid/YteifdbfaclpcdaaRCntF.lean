/- The reference gunnyref27.Out. -/
import Derived.Test.YteifdbfaclpcdaaRCntE
namespace Go.Proofs.YteifdbfaclpcdaaR
open Go.RowKit

def remN (l : List Int) (ks : List Int) : List Int := ks.foldl List.erase l
def rhits : List Int → List Int → Nat
  | _, [] => 0
  | l, k :: r => (l.contains k).toNat + rhits (l.erase k) r
theorem rhits_snoc (l ks : List Int) (k : Int) : rhits l (ks ++ [k]) = rhits l ks + ((remN l ks).contains k).toNat := by
  induction ks generalizing l with
  | nil => simp [rhits, remN]
  | cons a r ih =>
    simp only [List.cons_append, rhits, ih, remN, List.foldl_cons]
    omega
theorem remN_succ (l ks : List Int) {k : Nat} (hk : k < ks.length) : remN l (ks.take (k + 1)) = (remN l (ks.take k)).erase (ks[k]?.getD 0) := by
  rw [List.take_succ_eq_append_getElem hk, remN, List.foldl_append]
  simp [hk, remN]
theorem rhits_succ (l ks : List Int) {k : Nat} (hk : k < ks.length) : rhits l (ks.take (k + 1)) = rhits l (ks.take k) + ((remN l (ks.take k)).contains (ks[k]?.getD 0)).toNat := by
  rw [List.take_succ_eq_append_getElem hk, rhits_snoc]
  simp [hk]
theorem rhits_le (l ks : List Int) : rhits l ks ≤ ks.length := by
  induction ks generalizing l with
  | nil => simp [rhits]
  | cons a r ih =>
    have := ih (l.erase a)
    simp only [rhits, List.length_cons]
    have := Bool.toNat_le (l.contains a)
    omega
theorem rhits_take_le (l ks : List Int) (k : Nat) : rhits l (ks.take k) ≤ k := Nat.le_trans (rhits_le _ _) (List.length_take_le _ _)
theorem remN_len (l ks : List Int) : (remN l ks).length ≤ l.length := by
  induction ks generalizing l with
  | nil => exact Nat.le_refl _
  | cons a r ih => exact Nat.le_trans (ih _) (List.length_erase_le)
theorem erase_at (l : List Int) (x : Int) {j : Nat} (hj : j < l.length) (hx : l[j] = x) (hn : x ∉ l.take j) : l.erase x = l.take j ++ l.drop (j + 1) ∧ l.contains x = true := by
  have e : l = l.take j ++ x :: l.drop (j + 1) := by
    rw [← hx, ← List.drop_eq_getElem_cons hj, List.take_append_drop]
  constructor
  · conv => lhs; rw [e]
    rw [List.erase_append_right _ hn]
    simp
  · rw [List.contains_iff_mem, ← hx]
    exact List.getElem_mem hj

theorem own_grow {w w' : World} {base : Nat} {v : Value} {l : List Int} (h : OwnI w base v l) (hb : Below w.heap.size w w') : OwnI w' base v l := owns_same h fun k hk => hb.block k (World.ownsRow.lt h k hk).2

/-- A row of the call's own, from a place on, in whatever world its block is as it was. -/
theorem own_rd {w w' : World} {base b n c : Nat} {l : List Int} (h : OwnI w base (.slice (some ⟨b, 0, none⟩) n c) l) (hn : n = l.length) (hb : w'.heap[b]? = w.heap[b]?) (k : Nat) : Rd w' w.heap.size (some ⟨b, k, none⟩) ((l.drop k).map (Value.int .i64)) := by
  subst hn
  intro j u hu
  have hlt := (World.ownsRow.lt h b rfl).2
  rw [List.map_drop, List.getElem?_drop] at hu
  have hj : k + j < l.length := by have := (List.getElem?_eq_some_iff.1 hu).1; simpa using this
  refine ⟨_, rfl, hlt, ?_⟩
  have hc := World.ownsRow.cellAt h (k + j) (by omega)
  have e : ((⟨b, k, none⟩ : Addr).add j) = ⟨b, k + j, none⟩ := by unfold Addr.add; split <;> simp_all
  rw [e, World.cell?_of_block (w := w) (w' := w') (a := ⟨b, k + j, none⟩) hb, hc]
  exact hu
theorem own_rd_take {w w' : World} {base b n c : Nat} {l : List Int} (h : OwnI w base (.slice (some ⟨b, 0, none⟩) n c) l) (hn : n = l.length) (hb : w'.heap[b]? = w.heap[b]?) (k : Nat) : Rd w' w.heap.size (some ⟨b, 0, none⟩) ((l.take k).map (Value.int .i64)) := by
  have := (own_rd h hn hb 0).take k
  rwa [List.drop_zero, ← List.map_take] at this

set_option maxRecDepth 100000 in
set_option maxHeartbeats 4000000 in
theorem refOut_any {w : World} {C base : Nat} {A A2 : Option Addr} {c c2 : Nat} {l ks : List Int} (hA : OwnI w base (.slice A l.length c) l) (_hbase : base ≤ w.heap.size) (hK : RdI w C A2 ks) (hC : C ≤ w.heap.size) (hl : l.length ≤ 100000) (hk : ks.length ≤ 100000) :
    Calls Try.prog 23 #[.slice A l.length c, .slice A2 ks.length c2] w fun e w' => ∃ v, e = .returned (.tuple #[v, .int .i64 (rhits l ks)]) ∧ OwnI w' base v (remN l ks) ∧ Below w.heap.size w w' := by
  obtain ⟨i0, hi0, hz0, hz1, hz2⟩ := info_parts int_info
  have HK := Lib.hid hK
  have HO1 : Hid (OwnI w base (.slice A (remN l (ks.take 0)).length c) (remN l (ks.take 0))) := hA
  clear hK hA
  go_enter Try.func23, Try.ntmps23
  go_wp2
  go_loopw [0, 6, 7] (fun v n i wr => ∃ (k : Nat) (A1 : Option Addr) (c1 : Nat), k ≤ ks.length ∧ i = .int .i64 k ∧ n = .int .i64 (rhits l (ks.take k)) ∧ v = .slice A1 (remN l (ks.take k)).length c1 ∧ Hid (OwnI wr base (.slice A1 (remN l (ks.take k)).length c1) (remN l (ks.take k))) ∧ Below w.heap.size w wr) (fun _ _ i _ => ks.length - (intOf i).toNat)
  case atStart => exact ⟨0, A, c, Nat.zero_le _, rfl, rfl, rfl, HO1, Below.refl _ _⟩
  case round =>
    clear HO1
    obtain ⟨k, A1, c1, hk', rfl, rfl, rfl, HO1, hb1⟩ := hrel
    have hvk := rhits_take_le l ks k
    rcases Nat.lt_or_ge k ks.length with hlt | hge
    · obtain ⟨ad, rfl, hab, hc⟩ := RdI.at_ (w := wr) (Rd.below' HK.out hb1 hC) hlt
      have HS := Lib.hid (rhits_succ l ks hlt)
      have HT := Lib.hid (remN_succ l ks hlt)
      have hln : (remN l (ks.take k)).length ≤ 100000 := Nat.le_trans (remN_len _ _) hl
      generalize ks[k]?.getD 0 = x at *
      generalize remN l (ks.take k) = lk at *
      go_wp2
      go_loopw [0, 6, 8] (fun v n j wi => ∃ jn m : Nat, jn ≤ lk.length ∧ j = .int .i64 jn ∧ v = .slice A1 lk.length c1 ∧ n = .int .i64 (rhits l (ks.take k)) ∧ Hid (x ∉ lk.take jn) ∧ wi = wr.drewN m) (fun _ _ j _ => lk.length - (intOf j).toNat)
      case atStart => exact ⟨0, 0, Nat.zero_le _, rfl, rfl, rfl, by show x ∉ List.take 0 lk; simp, rfl⟩
      case round =>
        obtain ⟨j, m, hj, rfl, rfl, rfl, HN, rfl⟩ := hrel
        rcases Nat.lt_or_ge j lk.length with hjl | hjl
        · obtain ⟨b, cap, hv, hbb, hbl⟩ := World.ownsRow.form HO1.out (by omega)
          injection hv with hv1 hv2 hv3
          subst hv1 hv3
          clear hv2
          have hcj : wr.cell? ⟨b, j, none⟩ = some (.int .i64 lk[j]) := by
            have := World.ownsRow.cellAt HO1.out j (by omega)
            rw [this]
            simp [hjl]
          by_cases hx : lk[j] = x
          · have HE := Lib.hid (erase_at lk x hjl hx HN.out)
            rw [hx] at hcj
            clear hx
            have hlc : lk.length ≤ c1 := by
              rcases (HO1.out : wr.ownsRow _ _ _ _ _ _).2 with ⟨h, _⟩ | ⟨g', cap', cur', h, _, _, hle, _⟩
              · cases h
              · injection h with _ _ h3; omega
            go_wp2
            go_quiet (fail)
            go_wp2
            have hjc : j ≤ c1 := by omega
            have hjc1 : j + 1 ≤ lk.length := by omega
            have hw : IntKind.i64.wrap ((j : Int) + 1) = (j : Int) + 1 := IntWalk.i64_in _ (by omega)
            have hw0 : (0 : Int) ≤ (j : Int) + 1 := by omega
            have hw1 : ((j : Int) + 1).toNat = j + 1 := by omega
            have hw2 : (j : Int) + 1 ≤ lk.length := by omega
            have hbw : wr.heap.size ≤ ((wr.drewN (m + nq + 1)).alloc (.cells #[] 3)).heap.size := by simp
            have E1 : Hid (((wr.drewN (m + nq + 1)).alloc (.cells #[] 3)).ownsRow base 3 1 (.slice (some ⟨wr.heap.size, 0, none⟩) 0 0) 0 []) := World.ownsRow_made (wr.drewN (m + nq + 1)) #[] 0 (by have := hb1.size; simp; omega) (by decide) rfl
            have R1 : Hid (Rd ((wr.drewN (m + nq + 1)).alloc (.cells #[] 3)) wr.heap.size (some ⟨b, 0, none⟩) ((lk.take j).map (Value.int .i64))) := own_rd_take HO1.out rfl (Below.heap_alloc (wr.drewN (m + nq + 1)) _ b hbl) j
            have R2 : Hid (∀ w1, ((wr.drewN (m + nq + 1)).alloc (.cells #[] 3)).grownBy w1 (some wr.heap.size) → Rd w1 wr.heap.size (some ⟨b, j + 1, none⟩) ((lk.drop (j + 1)).map (Value.int .i64))) := fun w1 hg =>
              own_rd HO1.out rfl ((hg.block b (by simp; omega) (by simp; omega)).trans (Below.heap_alloc (wr.drewN (m + nq + 1)) _ b hbl)) (j + 1)
            have B1 : Hid (Below w.heap.size w ((wr.drewN (m + nq + 1)).alloc (.cells #[] 3))) := (show Below w.heap.size w (wr.drewN (m + nq + 1)) from hb1.trans ⟨rfl, rfl, rfl, Nat.le_refl _, fun _ _ => rfl⟩).alloc hb1.size _
            obtain ⟨ad2, had2⟩ : ∃ ad2, (if c1 = j + 1 then (some ⟨b, 0, none⟩ : Option Addr) else some ⟨b, j + 1, none⟩) = ad2 := ⟨_, rfl⟩
            have R3 : Hid (∀ w1, ((wr.drewN (m + nq + 1)).alloc (.cells #[] 3)).grownBy w1 (some wr.heap.size) → Rd w1 wr.heap.size ad2 ((lk.drop (j + 1)).map (Value.int .i64))) := fun w1 hg => by
              subst had2
              split
              · rw [List.drop_of_length_le (by omega)]
                exact Rd.nil _ _ _
              · exact R2.out w1 hg
            go_region_law (first
              | (refine step_append_rd rfl (.tmp 30) (.tmp 33) 23 rfl base 3 i0 (.int .i64 0) 8 Try.underlying23 hi0 hz0 hz1 hz2 rfl (.slice (some ⟨wr.heap.size, 0, none⟩) 0 0) 0 [] (by simp [Act.eval]) E1.out wr.heap.size (some ⟨b, 0, none⟩) j c1 ((lk.take j).map (Value.int .i64)) (by simp [Act.eval]) (by simp; omega) R1.out (oneI _) (by simp [maxLen]; omega) (by simp; omega) (by have := hb1.size; simp; omega) ?_; intro v1 w1 hown1 hg1 hat1)
              | (refine step_append_rd rfl (.tmp 34) (.tmp 38) 23 rfl base 3 i0 (.int .i64 0) 8 Try.underlying23 hi0 hz0 hz1 hz2 rfl v1 _ _ (by simp [Act.eval]) hown1 wr.heap.size ad2 (lk.length - (j + 1)) (c1 - (j + 1)) ((lk.drop (j + 1)).map (Value.int .i64)) (by simp [Act.eval]) (by simp) (R3.out w1 hg1) (oneI _) (by simp [maxLen]; omega) (by simp; omega) (by have := hb1.size; have := hg1.size; simp at this; omega) ?_; intro v2 w2 hown2 hg2 hat2))
            all_goals
              have hb2 : Below w.heap.size w w2 := (B1.out.grown hg1 B1.out.size (fun k hk => by simp [Value.ownBlock] at hk; have := hb1.size; omega)).grown hg2 (B1.out.grown hg1 B1.out.size (fun k hk => by simp [Value.ownBlock] at hk; have := hb1.size; omega)).size (fun k hk => by
                have := hb1.size
                rcases hat1 with h | h
                · rw [h] at hk; simp [Value.ownBlock] at hk; omega
                · rw [h] at hk; simp at hk; omega)
              have HO2 : Hid (OwnI w2 base v2 (lk.erase x)) := by
                show OwnI _ _ _ _
                rw [HE.out.1]
                have e : 0 + ((lk.take j).map (Value.int .i64)).length + ((lk.drop (j + 1)).map (Value.int .i64)).length = (lk.take j ++ lk.drop (j + 1)).length := by simp
                rw [e, List.nil_append, ← List.map_append] at hown2
                exact hown2
              clear hown1 hown2 hg1 hg2 hat1 hat2 E1 R1 R2 R3 B1 had2
              obtain ⟨A3, c3, rfl⟩ := owns_form HO2.out
              go_wp2
              go_roundw
              case rel => exact ⟨k + 1, A3, c3, by omega, by go_num, by rw [HS.out, HE.out.2]; rfl, by rw [HT.out], by rw [HT.out]; exact HO2, hb2⟩
              case measure => simp [intOf]; omega
          · have hq : (lk[j] == x) = false := by simp [hx]
            have HN2 : Hid (x ∉ lk.take (j + 1)) := by
              show x ∉ _
              rw [List.take_succ_eq_append_getElem hjl]
              simp only [List.mem_append, List.mem_singleton, not_or]
              exact ⟨HN.out, fun e => hx e.symm⟩
            generalize lk[j] = y at *
            clear hx
            go_wp2
            go_quiet (fail)
            go_wp2
            exact ⟨⟨j + 1, m + nq, by omega, by go_num, rfl, rfl, HN2, rfl⟩, by simp [intOf]; omega⟩
        · obtain rfl : j = lk.length := by omega
          rw [List.take_of_length_le (Nat.le_refl _)] at HN
          have HE : Hid (lk.erase x = lk ∧ lk.contains x = false) := ⟨List.erase_of_not_mem HN.out, by simpa using HN.out⟩
          go_wp2
          go_roundw
          case rel => exact ⟨k + 1, _, c1, by omega, by go_num, by rw [HS.out, HE.out.2]; simp, by rw [HT.out, HE.out.1], by rw [HT.out, HE.out.1]; exact HO1, hb1.trans ⟨rfl, rfl, rfl, Nat.le_refl _, fun _ _ => rfl⟩⟩
          case measure => simp [intOf]; omega
    · obtain rfl : k = ks.length := by omega
      rw [List.take_of_length_le (Nat.le_refl _)] at *
      go_wp2
      go_ret2
      exact ⟨_, rfl, HO1, hb1⟩
end Go.Proofs.YteifdbfaclpcdaaR
