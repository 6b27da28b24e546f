/- The reference gunnyref22: Take and Drop. -/
import Derived.Test.YteifdbfaclpcdaaREntE
import Derived.Test.YteifdbfaclpcdaaRGyRow
namespace Go.Proofs.YteifdbfaclpcdaaR
open Go.RowKit

theorem refOf_upd (f : Nat → Bool) (k : Nat) (b : Bool) : updB (refOf f) (k + 1) b = refOf (updB f k b) := by
  funext i
  unfold updB refOf
  rcases i with _ | i
  · simp
  · simp
theorem Bk.refSet {w : World} {g : Nat} {f : Nat → Bool} {last : Nat} (h : Bk w g 62 (refCells (refOf f) last)) {k : Nat} (hk : k < 512) (b : Bool) : Bk (w.setCell ⟨g, k + 1, none⟩ (.bool b)) g 62 (refCells (refOf (updB f k b)) last) := by
  have := h.set (k + 1) (.bool b)
  rwa [refCells_set _ _ _ _ (by omega), refOf_upd] at this
theorem Bk.refLast {w : World} {g : Nat} {f : Nat → Bool} {last : Nat} (h : Bk w g 62 (refCells (refOf f) last)) (v : Nat) {z : Int} (hz : z = v) : Bk (w.setCell ⟨g, 513, none⟩ (.int .i64 z)) g 62 (refCells (refOf f) v) := by
  subst hz
  have := h.set 513 (.int .i64 v)
  rwa [refCells_setLast] at this
theorem ref_size (r : Nat → Bool) (last : Nat) : (Try.prog.info? 62).map (·.size) = some (refCells r last).size := ref_info.trans (by rw [refCells_size])
theorem refZero_size : Try.zeroCells62.size = 514 := by kernel_rfl
theorem refZero : Try.zeroCells62 = refCells (refOf fun _ => false) 0 := by
  have e : refCells (refOf fun _ => false) 0 = refCells (fun _ => false) 0 := by
    congr 1
    funext i
    simp [refOf]
  have e2 : Try.zeroCells62 = refCells (fun _ => false) 0 := by kernel_rfl
  exact e2.trans e.symm
/-- What is handed back: a struct out of its cell, and a number. -/
theorem results_row_tmp {P : Program} {fn : Func} {p q : Tmp} {ty : TypeId} (h : fn.results = #[.cell p ty, .tmp q]) (tmps : Array Value) (w : World) (g : Nat) (t : TypeId) (cs : Array Value) (d : TypeDesc) (v : Value)
    (hp : tmps.getD p undef = .pointer (some ⟨g, 0, none⟩)) (hq : tmps.getD q undef = v) (hg : Bk w g t cs)
    (hu : P.underlying ty = some d) (hd : (match d with | .struct _ | .array _ _ => true | _ => false) = true) (hi : (P.info? ty).map (·.size) = some cs.size) :
    (results fn tmps).run P w = .ok (.tuple #[.agg cs, v]) w := by
  have hp' : tmps[p]?.getD undef = .pointer (some ⟨g, 0, none⟩) := by simpa using hp
  have hq' : tmps[q]?.getD undef = v := by simpa using hq
  simp [results, h, hp', hq', asAddr, run_loadVar_row w g t ty cs (0, 0) d hg hu hd hi]

theorem inB_false {f : Nat → Bool} {k : Int} (h : inB f k = false) : k < 1 ∨ 512 < k ∨ ∃ n : Nat, k = n + 1 ∧ n < 512 ∧ f n = false := by
  rcases Int.lt_or_le k 1 with h1 | h1
  · exact .inl h1
  rcases Int.lt_or_le 512 k with h2 | h2
  · exact .inr (.inl h2)
  refine .inr (.inr ⟨(k - 1).toNat, by omega, by omega, ?_⟩)
  rw [inB_yes h1] at h
  have : mayB 512 (k - 1) = true := by simp [mayB]; omega
  simpa [this] using h
theorem refZV (w : World) : (zeroValue 62).run Try.prog w = .ok (.agg (refCells (refOf fun _ => false) 0)) w := by
  rw [← refZero]
  exact Try.zeroValue62 w

set_option maxRecDepth 100000 in
set_option maxHeartbeats 1000000 in
theorem refTake_none (w : World) (f : Nat → Bool) (last : Nat) (hl : last ≤ 512) (hn : nextOf f last = 0) :
    Calls Try.prog 39 #[.agg (refCells (refOf f) last)] w fun x w' => x = .returned (.tuple #[.agg (refCells (refOf f) last), .int .i64 0]) ∧ Below w.heap.size w w' := by
  have HN := Lib.hid (fun W => refNext_any W f last hl)
  rw [hn] at HN
  clear hn
  have HI := Lib.hid (ref_size (refOf f) last)
  have HZV := Lib.hid refZV
  go_enter Try.func39, Try.ntmps39
  go_wp2_with (first
    | ((with_reducible refine wpList_dst 1 ?_); refine wpList_box_abs rfl 62 (.tmp 0) rfl (refCells (refOf f) last) rfl ?_; intro W1 b hb hb1 hB1)
    | ((with_reducible refine wpList_dst 2 ?_); refine wpList_alloc_abs rfl 62 rfl (refCells (refOf fun _ => false) 0) HZV.out ?_; intro W2 z hz hz2 hB2; have hb2 := Lib.hid (hb1.below' hB2))
    | ((with_reducible refine wpList_dst 5 ?_); refine wpList_load_row rfl 62 (.tmp 1) rfl b rfl 62 (refCells (refOf f) last) (0, 0) _ hb2.out Try.underlying62 rfl HI.out ?_)
    | (go_at_call 41; refine (HN.out _).mono ?_; rintro x w3 ⟨rfl, hB3⟩; have hb3 := Lib.hid (hb2.out.below' hB3); have hz3 := Lib.hid (hz2.below' hB3))
    | ((with_reducible refine wpList_dst 14 ?_); refine wpList_load_row rfl 62 (.tmp 1) rfl b rfl 62 (refCells (refOf f) last) (0, 0) _ hb3.out Try.underlying62 rfl HI.out ?_)
    | ((with_reducible refine wpList_sto 2 14 ?_); refine wpList_store_abs rfl 62 (.tmp 2) (.tmp 14) rfl z rfl 62 (refCells (refOf fun _ => false) 0) (refCells (refOf f) last) rfl hz3.out HI.out (by rw [refCells_size, refCells_size]) (refCells_one _ _) ?_; intro w4 hz4 hF4 hs4))
  have hB : Below w.heap.size w w3 := hB1.trans ((hB2.mono hB1.size).trans (hB3.mono (Nat.le_trans hB1.size hB2.size)))
  exact bodyPost_ret (results_row_tmp rfl _ _ z 62 (refCells (refOf f) last) _ _ rfl rfl hz4 Try.underlying62 rfl HI.out) rfl ⟨rfl, hB.trans (hF4.below hB.size (fun k hk e => by have := hB1.size; omega))⟩

set_option maxRecDepth 100000 in
set_option maxHeartbeats 1000000 in
theorem refTake_some (w : World) (f : Nat → Bool) (last k : Nat) (hl : last ≤ 512) (hn : nextOf f last = k + 1) :
    Calls Try.prog 39 #[.agg (refCells (refOf f) last)] w fun x w' => x = .returned (.tuple #[.agg (refCells (refOf (updB f k true)) (k + 1)), .int .i64 ((k : Int) + 1)]) ∧ Below w.heap.size w w' := by
  obtain ⟨hk, _⟩ := nextOf_free hn
  have HN : Hid (∀ W, Calls Try.prog 41 #[.agg (refCells (refOf f) last)] W fun x w' => x = .returned (.int .i64 ((k : Int) + 1)) ∧ Below W.heap.size W w') := fun W => by
    have := refNext_any W f last hl
    rw [hn] at this
    exact this
  clear hn
  have HI := Lib.hid (ref_size (refOf f) last)
  have HI2 := Lib.hid (ref_size (refOf (updB f k true)) (k + 1))
  have HZV := Lib.hid refZV
  go_enter Try.func39, Try.ntmps39
  go_wp2_with (first
    | ((with_reducible refine wpList_dst 1 ?_); refine wpList_box_abs rfl 62 (.tmp 0) rfl (refCells (refOf f) last) rfl ?_; intro W1 b hb hb1 hB1)
    | ((with_reducible refine wpList_dst 2 ?_); refine wpList_alloc_abs rfl 62 rfl (refCells (refOf fun _ => false) 0) HZV.out ?_; intro W2 z hz hz2 hB2; have hb2 := Lib.hid (hb1.below' hB2))
    | ((with_reducible refine wpList_dst 5 ?_); refine wpList_load_row rfl 62 (.tmp 1) rfl b rfl 62 (refCells (refOf f) last) (0, 0) _ hb2.out Try.underlying62 rfl HI.out ?_)
    | (go_at_call 41; refine (HN.out _).mono ?_; rintro x w3 ⟨rfl, hB3⟩; have hb3 := Lib.hid (hb2.out.below' hB3); have hz3 := Lib.hid (hz2.below' hB3); have hc3 := (Bk.cell hb3.out (k + 1)).trans (refCells_bit (refOf f) last (by omega)); have hf3 := Bk.free hb3.out (k + 1); have hc4 := (Bk.cell (hb3.out.refSet hk true) 513).trans (refCells_last (refOf (updB f k true)) last); have hf4 := Bk.free (hb3.out.refSet hk true) 513)
    | ((with_reducible refine wpList_dst 14 ?_); refine wpList_load_row rfl 62 (.tmp 1) rfl b rfl 62 (refCells (refOf (updB f k true)) (k + 1)) (0, 0) _ ((hb3.out.refSet hk true).refLast (k + 1) (by simp)) Try.underlying62 rfl HI2.out ?_)
    | ((with_reducible refine wpList_sto 2 14 ?_); refine wpList_store_abs rfl 62 (.tmp 2) (.tmp 14) rfl z rfl 62 (refCells (refOf fun _ => false) 0) (refCells (refOf (updB f k true)) (k + 1)) rfl ((hz3.out.far (by have := hb1.lt; show z ≠ b; omega) _).far (by have := hb1.lt; show z ≠ b; omega) _) HI2.out (by rw [refCells_size, refCells_size]) (refCells_one _ _) ?_; intro w4 hz4 hF4 hs4))
  have hB : Below w.heap.size w w3 := hB1.trans ((hB2.mono hB1.size).trans (hB3.mono (Nat.le_trans hB1.size hB2.size)))
  have hF : Fr (fun b' => b' = b ∨ b' = z) w3 w4 := (((Fr.refl _ w3).set _ _ (fun _ => .inl rfl)).set _ _ (fun _ => .inl rfl)).trans hF4 (fun _ _ h => .inr h)
  exact bodyPost_ret (results_row_tmp rfl _ _ z 62 (refCells (refOf (updB f k true)) (k + 1)) _ _ rfl rfl hz4 Try.underlying62 rfl HI2.out) rfl ⟨rfl, hB.trans (hF.below hB.size (fun k hk e => by have := hB1.size; rcases e with e | e <;> omega))⟩

set_option maxRecDepth 100000 in
set_option maxHeartbeats 2000000 in
theorem refDrop_any {w : World} {B : Nat} {f : Nat → Bool} {last : Nat} {A : Option Addr} {c : Nat} {ks : List Int} (hA : RdI w B A ks) (hB : B ≤ w.heap.size) (hl : ks.length ≤ 100000) :
    Calls Try.prog 40 #[.agg (refCells (refOf f) last), .slice A ks.length c] w fun x w' => x = .returned (.tuple #[.agg (refCells (refOf (dropE f ks)) last), .int .i64 (dropN f ks)]) ∧ Below w.heap.size w w' := by
  have HA := Lib.hid hA
  have HI := Lib.hid (ref_size (refOf (dropE f ks)) last)
  have HZV := Lib.hid refZV
  clear hA
  go_enter Try.func40, Try.ntmps40
  go_wp2_with (first
    | ((with_reducible refine wpList_dst 2 ?_); refine wpList_box_abs rfl 62 (.tmp 0) rfl (refCells (refOf f) last) rfl ?_; intro W1 b hb hb1 hB1)
    | ((with_reducible refine wpList_dst 4 ?_); refine wpList_alloc_abs rfl 62 rfl (refCells (refOf fun _ => false) 0) HZV.out ?_; intro W2 z hz hz2 hB2; have hb2 := Lib.hid (hb1.below' hB2)))
  have hbl := hb1.lt
  have hzb : z ≠ b := by omega
  have hb0 : Bk W2 b 62 (refCells (refOf (dropE f (ks.take 0))) last) := hb2.out
  have hB0 : Below w.heap.size w W2 := hB1.trans (hB2.mono hB1.size)
  clear hb1 hB1 hB2 hb2
  go_loopw [6, 7] (fun m j wr => ∃ k : Nat, k ≤ ks.length ∧ j = .int .i64 k ∧ m = .int .i64 (dropN f (ks.take k)) ∧ Bk wr b 62 (refCells (refOf (dropE f (ks.take k))) last) ∧ Bk wr z 62 (refCells (refOf fun _ => false) 0) ∧ Below w.heap.size w wr) (fun _ j _ => ks.length - (intOf j).toNat)
  case atStart => exact ⟨0, Nat.zero_le _, rfl, rfl, hb0, hz2, hB0⟩
  case round =>
    clear hb0 hz2 hB0
    obtain ⟨k, hk', rfl, rfl, hbb, hzz, hBB⟩ := hrel
    have hdl : dropN f (ks.take k) ≤ 100000 := Nat.le_trans (dropN_le _ _) (Nat.le_trans (List.length_take_le _ _) (by omega))
    rcases Nat.lt_or_ge k ks.length with hlt | hge
    · obtain ⟨ad, rfl, hab, hc⟩ := RdI.at_ (w := wr) (Rd.below' HA.out hBB hB) hlt
      have HS := Lib.hid (dropN_succ f ks hlt)
      have HD := Lib.hid (dropE_succ f ks hlt)
      generalize ks[k]?.getD 0 = y at *
      generalize dropE f (ks.take k) = fk at *
      generalize dropN f (ks.take k) = dn at *
      cases hb : inB fk y
      · have HX := Lib.hid hb
        have hb2 := inB_false hb
        clear hb
        rcases hb2 with h | h | ⟨n, rfl, hn, hf⟩
        · go_wp2
          go_roundw
          case rel => exact ⟨k + 1, by omega, by go_num, by rw [HS.out, HX.out]; simp, by rw [HD.out, drop1, HX.out]; exact hbb, hzz, hBB⟩
          case measure => simp [intOf]; omega
        · go_wp2
          go_roundw
          case rel => exact ⟨k + 1, by omega, by go_num, by rw [HS.out, HX.out]; simp, by rw [HD.out, drop1, HX.out]; exact hbb, hzz, hBB⟩
          case measure => simp [intOf]; omega
        · have hc2 := (Bk.cell hbb (n + 1)).trans (refCells_bit (refOf fk) last (by omega))
          have e : refOf fk (n + 1) = false := by simp [refOf, hf]
          rw [e] at hc2
          clear e hf
          go_wp2
          go_roundw
          case rel => exact ⟨k + 1, by omega, by go_num, by rw [HS.out, HX.out]; simp, by rw [HD.out, drop1, HX.out]; exact hbb, hzz, hBB⟩
          case measure => simp [intOf]; omega
      · have HX := Lib.hid hb
        obtain ⟨n, rfl, hn, hf⟩ := inB_true hb
        clear hb
        have hc2 := (Bk.cell hbb (n + 1)).trans (refCells_bit (refOf fk) last (by omega))
        have hfz := Bk.free hbb (n + 1)
        have e : refOf fk (n + 1) = true := by simp [refOf, hf]
        rw [e] at hc2
        have HB2 := Lib.hid (hbb.refSet hn false)
        have HZ2 := Lib.hid (hzz.far (p := ⟨b, n + 1, none⟩) hzb (.bool false))
        have HBB2 := Lib.hid (hBB.setCell (p := ⟨b, n + 1, none⟩) (by show w.heap.size ≤ b; omega) (.bool false))
        clear e hf hbb hzz hBB
        go_wp2
        go_roundw
        case rel => exact ⟨k + 1, by omega, by go_num, by rw [HS.out, HX.out]; simp, by rw [HD.out, drop1, HX.out]; simpa using HB2.out, HZ2.out, HBB2.out⟩
        case measure => simp [intOf]; omega
    · obtain rfl : k = ks.length := by omega
      rw [List.take_of_length_le (Nat.le_refl _)] at *
      go_wp2_with (first
        | ((with_reducible refine wpList_dst 43 ?_); refine wpList_load_row rfl 62 (.tmp 2) rfl b rfl 62 (refCells (refOf (dropE f ks)) last) (0, 0) _ hbb Try.underlying62 rfl HI.out ?_)
        | ((with_reducible refine wpList_sto 4 43 ?_); refine wpList_store_abs rfl 62 (.tmp 4) (.tmp 43) rfl z rfl 62 (refCells (refOf fun _ => false) 0) (refCells (refOf (dropE f ks)) last) rfl hzz HI.out (by rw [refCells_size, refCells_size]) (refCells_one _ _) ?_; intro w4 hz4 hF4 hs4))
      exact bodyPost_ret (results_row_tmp rfl _ _ z 62 (refCells (refOf (dropE f ks)) last) _ _ rfl rfl hz4 Try.underlying62 rfl HI.out) rfl ⟨rfl, hBB.trans (hF4.below hBB.size (fun k hk e => by omega))⟩
end Go.Proofs.YteifdbfaclpcdaaR
