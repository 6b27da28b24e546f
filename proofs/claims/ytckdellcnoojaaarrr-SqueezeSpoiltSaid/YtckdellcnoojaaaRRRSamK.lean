/- bytes.Repeat of 8 bytes, 512 times; same.Page. -/
import Derived.Test.YtckdellcnoojaaaRRRSamJ
import Derived.Test.YtckdellcnoojaaaRRRGyRow
import Derived.Laws.CopyOwn
import Derived.Lib.MakeNoZero
import Derived.Laws.Externs
import Derived.Deep.RegionHeld3
namespace Go.Proofs.YtckdellcnoojaaaRRR
open Go.RowKit

/-- A block whose first bytes are l. -/
def HasY (w : World) (g : Nat) (l : List UInt8) : Prop := ∃ r : List Value, Bk w g 5 (l.map bv ++ r).toArray
section
variable {w w' : World} {g : Nat} {l : List UInt8}
theorem HasY.lt (h : HasY w g l) : g < w.heap.size := by obtain ⟨r, hb⟩ := h; exact hb.lt
theorem HasY.cell (h : HasY w g l) {k : Nat} (hk : k < l.length) : w.cell? ⟨g, k, none⟩ = some (.int .u8 ((l[k]?.getD 0).toNat : Int)) := by
  obtain ⟨r, hb⟩ := h
  rw [hb.cell k]
  simp [List.getElem?_append, hk, bv]
theorem HasY.free (h : HasY w g l) (k : Nat) : w.frozen? ⟨g, k, none⟩ = false := by obtain ⟨r, hb⟩ := h; exact hb.free k
theorem HasY.rd (h : HasY w g l) : RdY w w.heap.size (some ⟨g, 0, none⟩) l := by
  obtain ⟨r, hb⟩ := h
  intro k u hu
  refine ⟨_, rfl, hb.lt, ?_⟩
  have e : ((⟨g, 0, none⟩ : Addr).add k) = ⟨g, k, none⟩ := by unfold Addr.add; split <;> simp_all
  rw [e, hb.cell k]
  have hk := (List.getElem?_eq_some_iff.1 hu).1
  simp only [List.length_map] at hk
  simpa [List.getElem?_append, hk] using hu
theorem HasY.below {D : Nat} (h : HasY w g l) (hb : Below D w w') (hg : g < D) : HasY w' g l := by
  obtain ⟨r, h⟩ := h
  exact ⟨r, h.below hb hg⟩
theorem HasY.below' (h : HasY w g l) (hb : Below w.heap.size w w') : HasY w' g l := h.below hb h.lt
theorem HasY.same (h : HasY w g l) (hb : w'.heap[g]? = w.heap[g]?) : HasY w' g l := by
  obtain ⟨r, h⟩ := h
  exact ⟨r, h.same hb⟩
theorem HasY.set (h : HasY w g l) {k : Nat} (hk : k < l.length) (x : UInt8) : HasY (w.setCell ⟨g, k, none⟩ (.int .u8 (x.toNat : Int))) g (l.set k x) := by
  obtain ⟨r, h⟩ := h
  refine ⟨r, ?_⟩
  have := h.set k (bv x)
  rw [List.setIfInBounds_toArray, List.set_append_left _ _ (by simpa using hk)] at this
  rw [List.map_set]
  exact this
end

/-- Bytes, said again and again, n in all. -/
def repB (b : List UInt8) (n : Nat) : List UInt8 := (List.range n).map fun i => b[i % 8]?.getD 0
theorem repB_len (b : List UInt8) (n : Nat) : (repB b n).length = n := by simp [repB]
theorem repB_add (b : List UInt8) {n : Nat} (m : Nat) (h : n % 8 = 0) : repB b (n + m) = repB b n ++ repB b m := by
  unfold repB
  rw [List.range_add, List.map_append, List.map_map]
  congr 1
  refine List.map_congr_left fun i _ => ?_
  simp only [Function.comp]
  rw [show (n + i) % 8 = i % 8 by omega]
theorem repB_eight {b : List UInt8} (h : b.length = 8) : repB b 8 = b := by
  apply List.ext_getElem?
  intro i
  unfold repB
  rw [List.getElem?_map]
  rcases Nat.lt_or_ge i 8 with h1 | h1
  · rw [List.getElem?_range h1]
    simp [Nat.mod_eq_of_lt h1, h, h1]
  · rw [List.getElem?_eq_none (by simpa using h1), List.getElem?_eq_none (by omega)]
    rfl
theorem repB_take (b : List UInt8) {n m : Nat} (h : m ≤ n) : (repB b n).take m = repB b m := by
  unfold repB
  rw [← List.map_take, List.take_range, Nat.min_eq_left h]
theorem pageL_rep (n : Nat) : pageL n = repB (putN n 8) 4096 := by
  unfold pageL pgTo repB
  refine List.map_congr_left fun i hi => ?_
  rw [if_pos (List.mem_range.1 hi)]

theorem nmin_a {n : Nat} (h : n ≤ 4096) : n + Nat.min n (4096 - n) ≤ 4096 := by
  have := Nat.min_le_right n (4096 - n)
  show n + min n (4096 - n) ≤ 4096
  omega
theorem nmin_b {n : Nat} (h0 : 0 < n) (h : n < 4096) : 0 < Nat.min n (4096 - n) := by
  show 0 < min n (4096 - n)
  omega
theorem nmin_c {n : Nat} (h : n ≤ 4096) (h8 : n % 8 = 0) : Nat.min n (4096 - n) % 8 = 0 := by
  show min n (4096 - n) % 8 = 0
  rcases Nat.le_total n (4096 - n) with h1 | h1
  · rw [Nat.min_eq_left h1]; exact h8
  · rw [Nat.min_eq_right h1]; omega
set_option maxRecDepth 100000 in
set_option maxHeartbeats 4000000 in
theorem repeat_any {w : World} {g c : Nat} {b : List UInt8} (h : RdY w w.heap.size (some ⟨g, 0, none⟩) b) (hb : b.length = 8) :
    Calls Try.prog 60 #[.slice (some ⟨g, 0, none⟩) 8 c, .int .i64 512] w fun e w' => ∃ q, e = .returned (.slice (some ⟨q, 0, none⟩) 4096 4096) ∧ w.heap.size ≤ q ∧ HasY w' q (repB b 4096) ∧ Below w.heap.size w w' := by
  obtain ⟨cs, hrunM, hle, _⟩ := Lib.run_makeNoZero (P := Try.prog) (w := w) #[3] 22 5 Try.underlying22 4096 (by omega)
  have hrunL : (Extern.BytealgMakeNoZero.makeNoZero #[3] #[22] #[.int .i64 4096]).run Try.prog w = .ok (.slice (some ⟨w.heap.size, 0, none⟩) 4096 cs.size) (w.drew.drew.alloc (.cells cs 5)) := hrunM
  have hcall : (callFunc 68 #[.int .i64 4096]).run Try.prog w = .ok (.value (.slice (some ⟨w.heap.size, 0, none⟩) 4096 cs.size)) ((w.alloc (.cells cs 5)).drewN 2) := by
    rw [run_callFunc_extern Try.func68 (by kernel_rfl) (by kernel_rfl) (by kernel_rfl) (e := Extern.BytealgMakeNoZero.makeNoZero #[3] #[22]) (by kernel_rfl), hrunL]
    rfl
  have hs1 : (Try.prog.info? 5).map (·.size) = some 1 := by kernel_rfl
  have hle4 : (4096 : Int) ≤ (cs.size : Int) := by omega
  have hne : ¬ cs.size = 0 := by omega
  have HM := mul_page w
  have HH := Lib.hid h
  have hbb := Lib.hid hb
  obtain ⟨Z, hZ⟩ : ∃ Z, Z = b.map bv := ⟨_, rfl⟩
  have HZ := Lib.hid hZ
  have hZl : Z.length = 8 := by rw [hZ]; simpa using hb
  have HZ1 : Hid (∀ v ∈ Z, v.oneCell' = true) := by
    show ∀ v ∈ Z, _
    rw [hZ]; exact oneY b
  have hgl : g < w.heap.size := by
    obtain ⟨ad, e, h1, _⟩ := h.at_ (k := 0) (by omega)
    injection e with e
    subst e
    exact h1
  clear hrunM hrunL h hb hZ
  go_enter Try.func60, Try.ntmps60
  go_upto_region 17 with (go_at_call 67; refine HM.mono ?_; rintro e w2 ⟨rfl, rfl⟩)
  have HW2 : Hid (Below w.heap.size w ((w.alloc (.cells cs 5)).drewN 2)) := ⟨rfl, rfl, rfl, by simp [World.drewN], fun k hk => Below.heap_alloc w _ k hk⟩
  have HG2 : Hid (((w.alloc (.cells cs 5)).drewN 2).heap[w.heap.size]? = some (.cells cs.toList.toArray 5 (0, 0))) := by
    show _ = _
    rw [Array.toArray_toList]
    exact Bk.new w 5 cs
  have HC2 : Hid (∀ j v, Z[j]? = some v → ((w.alloc (.cells cs 5)).drewN 2).cell? ((⟨g, 0, none⟩ : Addr).add j) = some v) := fun j v hv => by
    rw [HZ.out] at hv
    obtain ⟨ad, e, _, h2⟩ := HH.out j v hv
    injection e with e
    subst e
    exact (HW2.out.cell (by rw [block_add]; exact hgl)).trans h2
  generalize (w.alloc (.cells cs 5)).drewN 2 = w2 at *
  obtain ⟨L0, hL0⟩ : ∃ L0, L0 = cs.toList := ⟨_, rfl⟩
  have hLl : L0.length = cs.size := by rw [hL0]; simp
  rw [← hL0] at HG2
  clear hcall hL0
  go_wp2_with ((with_reducible refine wpList_dst 60 ?_); refine wpList_copy_splice rfl (.tmp 58) (.tmp 59) 22 22 rfl 5 Try.underlying22 hs1 (some ⟨w.heap.size, 0, none⟩) (some ⟨g, 0, none⟩) 4096 4096 8 c rfl rfl w.heap.size 0 L0 5 HG2.out Z (by rw [hZl]; rfl) (fun _ => ⟨rfl, _, rfl, HC2.out⟩) (by omega) HZ1.out w.heap.size w HW2.out (Nat.le_refl _) ?_; intro w3 HG3 HB3)
  have HG4 : Hid (w3.heap[w.heap.size]? = some (.cells ((repB b 8).map bv ++ L0.drop 8).toArray 5 (0, 0))) := by
    have h3 := HG3.out
    rw [show splice L0 0 Z = (repB b 8).map bv ++ L0.drop 8 by rw [repB_eight hbb.out, ← HZ.out]; simp [splice, hZl]] at h3
    exact h3
  clear HG3 HG2 HC2 HW2
  clear HH HZ HZ1 hZl
  go_loopw [10] (fun v wr => ∃ (n : Nat) (r : List Value), v = .int .i64 n ∧ 8 ≤ n ∧ n ≤ 4096 ∧ n % 8 = 0 ∧ 4096 ≤ n + r.length ∧ Hid (wr.heap[w.heap.size]? = some (.cells ((repB b n).map bv ++ r).toArray 5 (0, 0))) ∧ Below w.heap.size w wr) (fun v _ => 4096 - (intOf v).toNat)
  case atStart => exact ⟨8, L0.drop 8, rfl, by omega, by omega, rfl, by simp; omega, HG4, HB3⟩
  case round =>
    clear HG4 HB3
    obtain ⟨n, r, rfl, hn8, hn, hnm, hr, HG, HB⟩ := hrel
    rcases Nat.lt_or_ge n 4096 with h | h
    · have hni : (n : Int) < 4096 := by omega
      have hnj : (n : Int) ≤ 4096 := by omega
      have hnz : (0 : Int) ≤ (n : Int) := by omega
      have hne4 : ¬ 4096 = n := by omega
      obtain ⟨m, hm, hm1, hm2⟩ : ∃ m, m = Nat.min n (4096 - n) ∧ n + m ≤ 4096 ∧ 0 < m := ⟨_, rfl, nmin_a hn, nmin_b (by omega) h⟩
      have hm8 : m % 8 = 0 := by rw [hm]; exact nmin_c hn hnm
      have hmn : m ≤ n := by rw [hm]; exact Nat.min_le_left _ _
      obtain ⟨Z2, hZ2⟩ : ∃ Z2, Z2 = (repB b m).map bv := ⟨_, rfl⟩
      have hZl : Z2.length = m := by rw [hZ2]; simp [repB_len]
      have HZ1 : Hid (∀ v ∈ Z2, v.oneCell' = true) := by
        show ∀ v ∈ Z2, _
        rw [hZ2]; exact oneY _
      obtain ⟨CL, hCL⟩ : ∃ CL, CL = (repB b n).map bv ++ r := ⟨_, rfl⟩
      have hCLl : CL.length = n + r.length := by rw [hCL]; simp [repB_len]
      have HSp : Hid (splice CL n Z2 = (repB b (n + m)).map bv ++ r.drop m) := by
        show _ = _
        rw [repB_add b m hnm, List.map_append, ← hZ2, hCL]
        simp [splice, repB_len, hZl, List.drop_append]
      have HC : Hid (∀ j v, Z2[j]? = some v → wr.cell? ((⟨w.heap.size, 0, none⟩ : Addr).add j) = some v) := fun j v hv => by
        have hj : j < m := by have := (List.getElem?_eq_some_iff.1 hv).1; omega
        have e : ((⟨w.heap.size, 0, none⟩ : Addr).add j) = ⟨w.heap.size, j, none⟩ := by unfold Addr.add; split <;> simp_all
        have hb : Bk wr w.heap.size 5 ((repB b n).map bv ++ r).toArray := HG.out
        rw [e, hb.cell j]
        have hv2 : ((repB b n).map bv)[j]? = some v := by
          rw [← repB_take b hmn, List.map_take] at hZ2
          rw [hZ2, List.getElem?_take, if_pos hj] at hv
          exact hv
        have hj2 := (List.getElem?_eq_some_iff.1 hv2).1
        simp only [List.getElem?_toArray]
        rw [List.getElem?_append_left hj2]
        exact hv2
      rw [← hCL] at HG
      have hw1 : IntKind.i64.wrap ((n : Int) + (m : Int)) = ((n + m : Nat) : Int) := (IntWalk.i64_in _ (by omega)).trans (by omega)
      have hsub : ((4096 : Int) - n).toNat = 4096 - n := by omega
      have HM1 := Lib.hid hm
      clear hCL hZ2 hm
      go_upto_region 20 with fail
      go_region_held3 (fun _ => True) (exact trivial) ((refine step_copy_splice rfl (.tmp 70) (.tmp 73) 22 22 (by rfl) 5 Try.underlying22 hs1 (some ⟨w.heap.size, n, none⟩) (some ⟨w.heap.size, 0, none⟩) (4096 - n) (4096 - n) n 4096 (by rfl) (by rfl) w.heap.size n CL 5 HG.out Z2 (by rw [hZl, HM1.out]) (fun _ => ⟨rfl, _, rfl, HC.out⟩) (by omega) HZ1.out w.heap.size w ⟨HB.os, HB.tape, HB.output, HB.size, HB.block⟩ (Nat.le_refl _) ?_; intro w4 HG4 HB4))
      all_goals
        have HG5 : Hid (w4.heap[w.heap.size]? = some (.cells ((repB b (n + m)).map bv ++ r.drop m).toArray 5 (0, 0))) := by
          have h5 := HG4.out
          rw [HSp.out] at h5
          exact h5
        clear HG4 HSp HC HZ1
        go_wp2
        go_roundw
        case rel => exact ⟨n + m, r.drop m, by go_num, by omega, by omega, by omega, by rw [List.length_drop]; omega, HG5, HB4⟩
        case measure => simp [intOf]; omega
    · obtain rfl : n = 4096 := by omega
      go_wp2
      go_ret
      exact ⟨w.heap.size, rfl, Nat.le_refl _, ⟨r, HG.out⟩, HB⟩
end Go.Proofs.YtckdellcnoojaaaRRR
