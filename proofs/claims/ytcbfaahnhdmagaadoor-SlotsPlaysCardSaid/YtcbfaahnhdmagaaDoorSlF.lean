/- Slots' law's own: Filled. -/
import Derived.Test.YtcbfaahnhdmagaaDoorSlE
namespace Go.Proofs.YtcbfaahnhdmagaaDoor
open Go.RowKit

theorem OwnY.set {w : World} {base g n c : Nat} {l : List UInt8} (h : OwnY w base (.slice (some ⟨g, 0, none⟩) n c) l) {k : Nat} (hk : k < l.length) (x : UInt8) : OwnY (w.setCell ⟨g, k, none⟩ (.int .u8 (x.toNat : Int))) base (.slice (some ⟨g, 0, none⟩) n c) (l.set k x) := by
  rcases h.2 with ⟨_, hv⟩ | ⟨g', cap, cur, hv, hb, hg, hnc, hcm, hsz, htk⟩
  · simp at hv
    subst hv
    simp at hk
  · injection hv with h1 h2 h3
    injection h1 with h1
    injection h1 with h1
    subst h1 h2 h3
    have hbk : Bk w g 5 cur := hg
    refine ⟨by simp, .inr ⟨g, c, cur.setIfInBounds k (bv x), by simp, hb, hbk.set k (bv x), by simpa using hnc, hcm, by simpa using hsz, ?_⟩⟩
    simp only [List.length_set, Array.toList_setIfInBounds, List.map_set]
    rw [← htk, List.take_set]
theorem made_bytes (n : Nat) : (madeCells (Value.int .u8 0).cells (n * 1)).toList = (List.replicate n (0 : UInt8)).map bv := by
  rw [Nat.mul_one]
  have := u8_made n
  rw [show (Value.int .u8 0).cells = #[Value.int .u8 0] from rfl, this]
/-- The page of a number, so far. -/
def pgV (x : UInt8) (i : Nat) : UInt8 := x + UInt8.ofNat (i / 512)
def pgL (x : UInt8) (n : Nat) : List UInt8 := (List.range n).map (pgV x)
theorem pgL_length (x : UInt8) (n : Nat) : (pgL x n).length = n := by simp [pgL]
theorem pgL_set (x : UInt8) {n k : Nat} (h : k < n) : (pgL x k ++ List.replicate (n - k) 0).set k (pgV x k) = pgL x (k + 1) ++ List.replicate (n - (k + 1)) 0 := by
  have e : List.replicate (n - k) (0 : UInt8) = 0 :: List.replicate (n - (k + 1)) 0 := by
    rw [show n - k = (n - (k + 1)) + 1 by omega, List.replicate_succ]
  rw [e, List.set_append_right _ _ (by rw [pgL_length]; exact Nat.le_refl _), pgL_length, Nat.sub_self, List.set_cons_zero]
  have e2 : pgL x (k + 1) = pgL x k ++ [pgV x k] := by simp [pgL, List.range_succ]
  rw [e2, List.append_assoc]
  rfl
theorem pgV_num (x : UInt8) {k : Nat} (hk : k < 4096) : IntKind.u8.wrap ((x.toNat : Int) + (k : Int) / 512) = ((pgV x k).toNat : Int) := by
  have h1 : (UInt8.ofNat (k / 512)).toNat = k / 512 := by
    rw [UInt8.toNat_ofNat']
    omega
  unfold pgV
  rw [UInt8.toNat_add, h1]
  simp [IntKind.wrap, IntKind.bits, IntKind.signed]
set_option maxRecDepth 100000 in
set_option maxHeartbeats 2000000 in
theorem filled9_any (w : World) (x : UInt8) :
    Calls Tryd.prog 25 #[.int .u8 (x.toNat : Int)] w fun e w' => e = .returned (.slice (some ⟨w.heap.size, 0, none⟩) 4096 4096) ∧ OwnY w' w.heap.size (.slice (some ⟨w.heap.size, 0, none⟩) 4096 4096) (pgL x 4096) ∧ Below w.heap.size w w' := by
  obtain ⟨i0, hi0, hz0, hz1, hz2⟩ := info_parts u8_info
  obtain ⟨N, hN⟩ : ∃ N, N = 4096 := ⟨_, rfl⟩
  have HN := Lib.hid hN
  clear hN
  go_enter Tryd.func25, Tryd.ntmps25
  go_upto_region 2 with (at_make; refine wpList_make_full _ rfl _ _ 22 rfl w.heap.size 5 i0 (.int .u8 0) 1 Tryd.underlying22 hi0 hz0 hz1 .i64 .i64 _ _ N rfl rfl (by have := HN.out; omega) (by have := HN.out; omega) (by rw [hz2]; have := HN.out; omega) (by have := HN.out; simp [maxLen]; omega) (Nat.le_refl _) ?_; intro w3 hown hg)
  have hB3 : Below w.heap.size w w3 := (Below.refl w.heap.size w).grown hg (Nat.le_refl _) (fun q hq => by cases hq)
  have hO3 : OwnY w3 w.heap.size (.slice (some ⟨w.heap.size, 0, none⟩) N N) (pgL x 0 ++ List.replicate (N - 0) 0) := by
    unfold OwnY
    rw [show pgL x 0 = [] from rfl, List.nil_append, ← made_bytes, List.length_replicate]
    exact hown
  clear hown hg
  go_wp2
  go_loopw [4] (fun j wr => ∃ k : Nat, k ≤ N ∧ j = .int .i64 k ∧ OwnY wr w.heap.size (.slice (some ⟨w.heap.size, 0, none⟩) N N) (pgL x k ++ List.replicate (N - k) 0) ∧ Below w.heap.size w wr) (fun j _ => N - (intOf j).toNat)
  case atStart => exact ⟨0, Nat.zero_le _, rfl, hO3, hB3⟩
  case round =>
    clear hO3 hB3
    obtain ⟨k, hk, rfl, hO, hB⟩ := hrel
    rcases Nat.lt_or_ge k N with h | h
    · have hkN : (k : Int) < N := by omega
      have hNi : (N : Int) ≤ 4096 := by have := HN.out; omega
      have hl : (pgL x k ++ List.replicate (N - k) 0).length = N := by simp [pgL_length]; omega
      obtain ⟨gp, hgp, _, hgl, _, -, hc2, hfr⟩ := hO.at_ (by omega)
      obtain rfl : w.heap.size = gp := by simpa using hgp
      have k2 := hc2 k (by omega)
      have k3 := hfr k
      have HO2 := Lib.hid (hO.set (k := k) (by omega) (pgV x k))
      rw [pgL_set x h] at HO2
      have HB2 := Lib.hid (hB.setCell (p := ⟨w.heap.size, k, none⟩) (Nat.le_refl _))
      have hv := pgV_num x (k := k) (by have := HN.out; omega)
      have hq : IntKind.u8.wrap ((k : Int) / 512) = (k : Int) / 512 := by
        simp [IntKind.wrap, IntKind.bits, IntKind.signed]
        omega
      generalize ((pgL x k ++ List.replicate (N - k) 0)[k]?.getD 0).toNat = y at *
      generalize (pgV x k) = pv at *
      clear hO hB hc2 hfr hl hgp
      go_wp2
      go_roundw
      case rel => exact ⟨k + 1, by omega, by go_num, HO2.out, HB2.out _⟩
      case measure => simp [intOf]; omega
    · obtain rfl : k = N := by omega
      rw [Nat.sub_self, List.replicate_zero, List.append_nil] at hO
      go_wp2
      go_ret
      rw [HN.out] at hO ⊢
      exact ⟨rfl, hO, hB⟩
end Go.Proofs.YtcbfaahnhdmagaaDoor
