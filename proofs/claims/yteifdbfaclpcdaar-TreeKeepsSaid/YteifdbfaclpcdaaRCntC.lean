/- Contracts of package count, third part: Turn, All, New; counts that aren't there. -/
import Derived.Test.YteifdbfaclpcdaaRCntB
import Derived.RegionTactic
namespace Go.Proofs.YteifdbfaclpcdaaR
open Go.RowKit

/-- One of a kind turned into one of another. -/
def turnOk (f : Nat → Nat) (a b : Int) : Bool := isK a && isK b && decide (0 < f a.toNat)
def turned (f : Nat → Nat) (a b : Int) : Nat → Nat := if turnOk f a b then upd (upd f a.toNat (f a.toNat - 1)) b.toNat (upd f a.toNat (f a.toNat - 1) b.toNat + 1) else f

set_option maxHeartbeats 1000000 in
theorem cTurn_any {w : World} {g : Nat} {f : Nat → Nat} (hg : CntAt w g f) (M : Nat) (hM : ∀ i, f i ≤ M) (hMM : M ≤ 1000000) (a b : Int) :
    Calls Try.prog 16 #[.pointer (some ⟨g, 0, none⟩), .int .i64 a, .int .i64 b] w fun e w' => e = .returned (.bool (turnOk f a b)) ∧ CntAt w' g (turned f a b) ∧ Fr (· = g) w w' := by
  have HM := Lib.hid hM
  clear hM
  cases ha : isK a
  · have HX : Hid (turnOk f a b = false) := by show turnOk f a b = false; simp [turnOk, ha]
    have HC := Lib.hid (cmay_no w ⟨g, 0, none⟩ a (isK_false ha))
    clear ha
    go_enter Try.func16, Try.ntmps16
    go_wp2_with (go_at_call 57; refine HC.out.mono ?_; rintro e w2 ⟨rfl, rfl⟩)
    go_ret
    exact ⟨ret_bool HX.out.symm, by rw [turned, HX.out]; exact hg, Fr.refl _ _⟩
  · obtain ⟨n, rfl, hn⟩ := isK_true ha
    have HC := Lib.hid (cmay_yes w ⟨g, 0, none⟩ n hn)
    cases hb : isK b
    · have HX : Hid (turnOk f n b = false) := by show turnOk f n b = false; simp [turnOk, hb]
      have HC2 := Lib.hid (cmay_no w ⟨g, 0, none⟩ b (isK_false hb))
      clear ha hb
      go_enter Try.func16, Try.ntmps16
      go_wp2_with fail
      refine HC.out.mono ?_
      rintro e w2 ⟨rfl, rfl⟩
      go_wp2_with fail
      refine HC2.out.mono ?_
      rintro e w2 ⟨rfl, rfl⟩
      go_wp2
      go_ret
      exact ⟨ret_bool HX.out.symm, by rw [turned, HX.out]; exact hg, Fr.refl _ _⟩
    · obtain ⟨m, rfl, hm⟩ := isK_true hb
      have HC2 := Lib.hid (cmay_yes w ⟨g, 0, none⟩ m hm)
      have h1 := hg.cell hn
      have f1 := hg.free n
      have f2 := hg.free m
      have hle := HM.out n
      rcases Nat.eq_zero_or_pos (f n) with h0 | h0
      · have HX : Hid (turnOk f n m = false) := by show turnOk f n m = false; simp [turnOk, h0]
        rw [h0] at h1
        clear ha hb h0 hle f1 f2
        go_enter Try.func16, Try.ntmps16
        go_wp2_with fail
        refine HC.out.mono ?_
        rintro e w2 ⟨rfl, rfl⟩
        go_wp2_with fail
        refine HC2.out.mono ?_
        rintro e w2 ⟨rfl, rfl⟩
        go_wp2
        go_ret
        exact ⟨ret_bool HX.out.symm, by rw [turned, HX.out]; exact hg, Fr.refl _ _⟩
      · have HX : Hid (turnOk f n m = true) := by show turnOk f n m = true; simp [turnOk, ha, hb, h0]
        have hset := hg.set n (f n - 1) (x := (f n : Int) - 1) (by omega)
        have hFs := Lib.hid ((Fr.refl (· = g) w).set ⟨g, n, none⟩ (.int .i64 ((f n : Int) - 1)) (fun _ => rfl))
        have hle2 : upd f n (f n - 1) m ≤ 1000000 := by
          unfold upd
          split
          · omega
          · have := HM.out m; omega
        have h2 := hset.cell hm
        have f3 := hset.free m
        have HT : Hid (turned f n m = upd (upd f n (f n - 1)) m (upd f n (f n - 1) m + 1)) := by show turned f n m = _; rw [turned, HX.out]; rfl
        have HS := Lib.hid hset
        generalize upd f n (f n - 1) = f' at *
        have hb0 : ((f n : Int) == 0) = false := by rw [beq_eq_false_iff_ne]; omega
        clear ha hb hg hset
        go_enter Try.func16, Try.ntmps16
        go_wp2_with fail
        refine HC.out.mono ?_
        rintro e w2 ⟨rfl, rfl⟩
        go_wp2_with fail
        refine HC2.out.mono ?_
        rintro e w2 ⟨rfl, rfl⟩
        go_wp2
        go_region
        all_goals
          go_wp2
          go_region
        all_goals
          go_wp2
          go_ret
          refine ⟨ret_bool HX.out.symm, ?_, ?_⟩
          · rw [HT.out]
            exact (HS.out.set m (f' m + 1) (x := (f' m : Int) + 1) (by omega))
          · exact (hFs.out.set ⟨g, m, none⟩ (.int .i64 ((f' m : Int) + 1)) (fun _ => rfl)).drew.drew

/-- The counts as a list. -/
def cntL (f : Nat → Nat) : List Int := (List.range 16).map fun i => (f i : Int)
theorem cntCells_L (f : Nat → Nat) : cntCells f = ((cntL f).map (Value.int .i64)).toArray := by simp [cntCells, cntL]
theorem cntL_len (f : Nat → Nat) : (cntL f).length = 16 := by simp [cntL]
theorem cntL_get (f : Nat → Nat) {i : Nat} (hi : i < 16) : (cntL f)[i]?.getD 0 = f i := by simp [cntL, hi]
theorem cntL_inj {f f' : Nat → Nat} (h : ∀ i, i < 16 → f i = f' i) : cntL f = cntL f' := by
  unfold cntL
  exact List.map_congr_left fun i hi => by rw [h i (by simpa using hi)]
theorem cells_one (f : Nat → Nat) : ∀ v ∈ (cntCells f).toList, v.oneCell' = true := by
  intro v hv
  simp [cntCells] at hv
  obtain ⟨i, _, rfl⟩ := hv
  rfl
theorem cells_size (f : Nat → Nat) : (cntCells f).size = 16 := by simp [cntCells]
theorem arr_info : (Try.prog.info? 27).map (·.size) = some 16 := by kernel_rfl

theorem cNew_any (w : World) : Calls Try.prog 21 #[] w fun e w' => e = .returned (.pointer (some ⟨w.heap.size, 0, none⟩)) ∧ w' = w.alloc (.cells (cntCells fun _ => 0) 99) := by
  go_enter Try.func21, Try.ntmps21
  go_wp2
  go_ret
  exact ⟨rfl, rfl⟩

set_option maxHeartbeats 1000000 in
theorem cAll_any {w : World} {g : Nat} {f : Nat → Nat} (hg : CntAt w g f) : Calls Try.prog 18 #[.pointer (some ⟨g, 0, none⟩)] w fun e w' => e = .returned (.agg (cntCells f)) ∧ Below w.heap.size w w' := by
  have H1 : Hid (∀ o, (w.alloc o).heap[g]? = some (.cells (cntCells f) 99 (0, 0))) := fun o => Bk.alloc hg o
  have H2 := Lib.hid (show ∀ v ∈ (cntCells f).toList, v.oneCell' = true from cells_one f)
  have H3 := Lib.hid (cells_size f)
  have H4 := Lib.hid arr_info
  clear hg
  generalize cntCells f = cs at *
  go_enter Try.func18, Try.ntmps18
  go_wp2_with (first
    | (refine wpList_load_row rfl 27 (.tmp 8) rfl g rfl 99 cs (0, 0) _ (H1.out _) Try.underlying27 rfl (H4.out.trans (by rw [H3.out])) ?_)
    | (refine wpList_store_row rfl 27 (.tmp 2) (.tmp 9) rfl w.heap.size rfl 27 _ cs rfl (heap_alloc_new w _) (H4.out.trans (by rw [H3.out])) (H3.out.symm ▸ rfl) H2.out ?_))
  refine bodyPost_ret (v := .agg cs) (results_cell_row rfl _ _ w.heap.size 27 cs (0, 0) _ rfl (setRow_heap _ _ _ _ _ _ (heap_alloc_new w _)) Try.underlying27 rfl (H4.out.trans (by rw [H3.out]))) rfl ⟨rfl, ?_⟩
  exact ((((Fr.refl (fun _ => False) w).alloc _).setRow _ _ (fun h => by omega))).below0

def zeros16 : Array Value := cntCells fun _ => 0
set_option maxHeartbeats 1000000 in
theorem cAll_nil (w : World) : Calls Try.prog 18 #[.pointer none] w fun e w' => e = .returned (.agg zeros16) ∧ Below w.heap.size w w' := by
  have H4 := Lib.hid arr_info
  have HZ := Lib.hid (show ∀ v ∈ zeros16.toList, v.oneCell' = true from cells_one _)
  go_enter Try.func18, Try.ntmps18
  go_wp2_with (refine wpList_store_row rfl 27 (.tmp 2) (.tmp 5) rfl w.heap.size rfl 27 _ zeros16 rfl (heap_alloc_new w _) H4.out rfl HZ.out ?_)
  refine bodyPost_ret (v := .agg zeros16) (results_cell_row rfl _ _ w.heap.size 27 zeros16 (0, 0) _ rfl (setRow_heap _ _ _ _ _ _ (heap_alloc_new w _)) Try.underlying27 rfl H4.out) rfl ⟨rfl, ?_⟩
  exact ((((Fr.refl (fun _ => False) w).alloc _).setRow _ _ (fun h => by omega))).below0

set_option maxHeartbeats 1000000 in
theorem cIn_nil {w : World} {B : Nat} {A : Option Addr} {c : Nat} {ks : List Int} (hA : RdI w B A ks) (hl : ks.length ≤ 1000) :
    Calls Try.prog 14 #[.pointer none, .slice A ks.length c] w fun e w' => e = .returned (.int .i64 0) ∧ w = w' := by
  have HA := Lib.hid hA
  clear hA
  go_enter Try.func14, Try.ntmps14
  go_wp2_with fail
  go_loop [5, 10] (fun n i => ∃ k : Nat, k ≤ ks.length ∧ i = .int .i64 k ∧ n = .int .i64 0) (fun _ i => ks.length - (intOf i).toNat)
  case atStart => exact ⟨0, Nat.zero_le _, rfl, rfl⟩
  case round =>
    obtain ⟨k, hk, rfl, rfl⟩ := hrel
    rcases Nat.lt_or_ge k ks.length with hlt | hge
    · obtain ⟨ad, rfl, hab, hc⟩ := HA.out.at_ hlt
      generalize ks[k]?.getD 0 = x at *
      go_wp2_with (go_at_call 57; refine (cmay_nil _ _).mono ?_; rintro e w2 ⟨rfl, rfl⟩)
      go_round
      case rel => exact ⟨k + 1, by omega, by go_num, rfl⟩
      case measure => simp [intOf]; omega
    · obtain rfl : k = ks.length := by omega
      go_wp2
      go_ret
      exact ⟨rfl, rfl⟩

set_option maxHeartbeats 1000000 in
theorem cOut_nil {w : World} {B : Nat} {A : Option Addr} {c : Nat} {ks : List Int} (hA : RdI w B A ks) (hl : ks.length ≤ 1000) :
    Calls Try.prog 15 #[.pointer none, .slice A ks.length c] w fun e w' => e = .returned (.int .i64 0) ∧ w = w' := by
  have HA := Lib.hid hA
  clear hA
  go_enter Try.func15, Try.ntmps15
  go_wp2_with fail
  go_loop [5, 10] (fun n i => ∃ k : Nat, k ≤ ks.length ∧ i = .int .i64 k ∧ n = .int .i64 0) (fun _ i => ks.length - (intOf i).toNat)
  case atStart => exact ⟨0, Nat.zero_le _, rfl, rfl⟩
  case round =>
    obtain ⟨k, hk, rfl, rfl⟩ := hrel
    rcases Nat.lt_or_ge k ks.length with hlt | hge
    · obtain ⟨ad, rfl, hab, hc⟩ := HA.out.at_ hlt
      generalize ks[k]?.getD 0 = x at *
      go_wp2_with (go_at_call 57; refine (cmay_nil _ _).mono ?_; rintro e w2 ⟨rfl, rfl⟩)
      go_round
      case rel => exact ⟨k + 1, by omega, by go_num, rfl⟩
      case measure => simp [intOf]; omega
    · obtain rfl : k = ks.length := by omega
      go_wp2
      go_ret
      exact ⟨rfl, rfl⟩

set_option maxHeartbeats 1000000 in
theorem cOf_nil {w : World} {B : Nat} {A : Option Addr} {c : Nat} {ks : List Int} (hA : RdI w B A ks) (hl : ks.length ≤ 1000) :
    Calls Try.prog 17 #[.pointer none, .slice A ks.length c] w fun e w' => e = .returned (.int .i64 0) ∧ w = w' := by
  have HA := Lib.hid hA
  clear hA
  go_enter Try.func17, Try.ntmps17
  go_wp2_with fail
  go_loop [5, 10] (fun n i => ∃ k : Nat, k ≤ ks.length ∧ i = .int .i64 k ∧ n = .int .i64 0) (fun _ i => ks.length - (intOf i).toNat)
  case atStart => exact ⟨0, Nat.zero_le _, rfl, rfl⟩
  case round =>
    obtain ⟨k, hk, rfl, rfl⟩ := hrel
    rcases Nat.lt_or_ge k ks.length with hlt | hge
    · obtain ⟨ad, rfl, hab, hc⟩ := HA.out.at_ hlt
      generalize ks[k]?.getD 0 = x at *
      go_wp2_with (go_at_call 57; refine (cmay_nil _ _).mono ?_; rintro e w2 ⟨rfl, rfl⟩)
      go_round
      case rel => exact ⟨k + 1, by omega, by go_num, rfl⟩
      case measure => simp [intOf]; omega
    · obtain rfl : k = ks.length := by omega
      go_wp2
      go_ret
      exact ⟨rfl, rfl⟩

theorem cTurn_nil (w : World) (a b : Int) : Calls Try.prog 16 #[.pointer none, .int .i64 a, .int .i64 b] w fun e w' => e = .returned (.bool false) ∧ w = w' := by
  go_enter Try.func16, Try.ntmps16
  go_wp2_with (go_at_call 57; refine (cmay_nil _ _).mono ?_; rintro e w2 ⟨rfl, rfl⟩)
  go_ret
  exact ⟨rfl, rfl⟩
end Go.Proofs.YteifdbfaclpcdaaR
