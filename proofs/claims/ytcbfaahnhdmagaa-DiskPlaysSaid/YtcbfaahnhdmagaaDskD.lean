/- Deeds of a disk; filled, lives, great of gunnylaw08. -/
import Derived.Test.YtcbfaahnhdmagaaDskC
namespace Go.Proofs.Ytcbfaahnhdmagaa
open Go.RowKit

/-- A deed. -/
structure Dd where
  kind : Int
  n : Int
  fill : UInt8
  A : Option Addr
  c : Nat
  b : List UInt8
/-- Deeds, side by side. -/
def DdsAt (w : World) (B : Nat) (A : Option Addr) (L : List Dd) : Prop :=
  ∀ i d, L[i]? = some d → ∃ b o, A = some ⟨b, o, none⟩ ∧ b < B ∧ w.cell? ⟨b, o + i * 4, none⟩ = some (.int .i64 d.kind) ∧ w.cell? ⟨b, o + i * 4 + 1, none⟩ = some (.int .i64 d.n) ∧ w.cell? ⟨b, o + i * 4 + 2, none⟩ = some (.int .u8 (d.fill.toNat : Int)) ∧ w.cell? ⟨b, o + i * 4 + 3, none⟩ = some (.slice d.A d.b.length d.c) ∧ RdY w B d.A d.b
theorem DdsAt.below {w w' : World} {B : Nat} {A : Option Addr} {L : List Dd} (h : DdsAt w B A L) (hb : Below B w w') : DdsAt w' B A L := fun i d hd => by
  obtain ⟨b, o, e, h1, h2, h3, h4, h5, h6⟩ := h i d hd
  exact ⟨b, o, e, h1, (hb.cell (p := ⟨b, _, none⟩) h1).trans h2, (hb.cell (p := ⟨b, _, none⟩) h1).trans h3, (hb.cell (p := ⟨b, _, none⟩) h1).trans h4, (hb.cell (p := ⟨b, _, none⟩) h1).trans h5, h6.below hb⟩
theorem DdsAt.get {w : World} {B : Nat} {A : Option Addr} {L : List Dd} (h : DdsAt w B A L) {i : Nat} (hi : i < L.length) : ∃ d b o, L[i]? = some d ∧ A = some ⟨b, o, none⟩ ∧ b < B ∧ w.cell? ⟨b, o + i * 4, none⟩ = some (.int .i64 d.kind) ∧ w.cell? ⟨b, o + i * 4 + 1, none⟩ = some (.int .i64 d.n) ∧ w.cell? ⟨b, o + i * 4 + 2, none⟩ = some (.int .u8 (d.fill.toNat : Int)) ∧ w.cell? ⟨b, o + i * 4 + 3, none⟩ = some (.slice d.A d.b.length d.c) ∧ RdY w B d.A d.b := by
  obtain ⟨b, o, h1⟩ := h i L[i] (by simp [hi])
  exact ⟨L[i], b, o, by simp [hi], h1⟩

theorem OwnY.set {w : World} {base g n c : Nat} {l : List UInt8} (h : OwnY w base (.slice (some ⟨g, 0, none⟩) n c) l) {k : Nat} (hk : k < l.length) (x : UInt8) : OwnY (w.setCell ⟨g, k, none⟩ (.int .u8 (x.toNat : Int))) base (.slice (some ⟨g, 0, none⟩) n c) (l.set k x) := by
  rcases h.2 with ⟨_, hv⟩ | ⟨g', cap, cur, hv, hb, hg, hnc, hcm, hsz, htk⟩
  · simp at hv
    subst hv
    simp at hk
  · injection hv with h1 h2 h3
    injection h1 with h1
    injection h1 with h1
    subst h1 h2 h3
    have hbk : Bk w g 5 cur := hg
    refine ⟨by simp, .inr ⟨g, c, cur.setIfInBounds k (bv x), by simp, hb, hbk.set k (bv x), by simpa using hnc, hcm, by simpa using hsz, ?_⟩⟩
    simp only [List.length_set, Array.toList_setIfInBounds, List.map_set]
    rw [← htk, List.take_set]
theorem made_bytes (n : Nat) : (madeCells (Value.int .u8 0).cells (n * 1)).toList = (List.replicate n (0 : UInt8)).map bv := by
  rw [Nat.mul_one]
  have := u8_made n
  rw [show (Value.int .u8 0).cells = #[Value.int .u8 0] from rfl, this]
theorem fill_set (x : UInt8) {n k : Nat} (h : k < n) : (List.replicate k x ++ List.replicate (n - k) 0).set k x = List.replicate (k + 1) x ++ List.replicate (n - (k + 1)) 0 := by
  apply List.ext_getElem?
  intro i
  rw [List.getElem?_set]
  simp only [List.getElem?_append, List.length_replicate, List.length_append, List.getElem?_replicate]
  by_cases h1 : k = i
  · subst h1
    rw [if_pos rfl, if_pos (by omega), if_pos (by omega), if_pos (by omega)]
  · rw [if_neg h1]
    by_cases h2 : i < k
    · simp [h2, show i < k + 1 by omega]
    · by_cases h3 : i < n
      · simp [h2, show ¬ i < k + 1 by omega, show i - k < n - k by omega, show i - (k + 1) < n - (k + 1) by omega]
      · simp [h2, show ¬ i < k + 1 by omega, show ¬ i - k < n - k by omega, show ¬ i - (k + 1) < n - (k + 1) by omega]
set_option maxRecDepth 100000 in
set_option maxHeartbeats 2000000 in
theorem filled_any (w : World) (x : UInt8) :
    Calls Try.prog 21 #[.int .u8 (x.toNat : Int)] w fun e w' => e = .returned (.slice (some ⟨w.heap.size, 0, none⟩) 512 512) ∧ OwnY w' w.heap.size (.slice (some ⟨w.heap.size, 0, none⟩) 512 512) (List.replicate 512 x) ∧ Below w.heap.size w w' := by
  obtain ⟨i0, hi0, hz0, hz1, hz2⟩ := info_parts u8_info
  obtain ⟨N, hN⟩ : ∃ N, N = 512 := ⟨_, rfl⟩
  have HN := Lib.hid hN
  have HE : Hid (OwnY = OwnY) := rfl
  clear hN
  go_enter Try.func21, Try.ntmps21
  go_upto_region 2 with (at_make; refine wpList_make_full _ rfl _ _ 32 rfl w.heap.size 5 i0 (.int .u8 0) 1 Try.underlying32 hi0 hz0 hz1 .i64 .i64 _ _ N rfl rfl (by have := HN.out; omega) (by have := HN.out; omega) (by rw [hz2]; have := HN.out; omega) (by have := HN.out; simp [maxLen]; omega) (Nat.le_refl _) ?_; intro w3 hown hg)
  have hB3 : Below w.heap.size w w3 := (Below.refl w.heap.size w).grown hg (Nat.le_refl _) (fun q hq => by cases hq)
  have hO3 : OwnY w3 w.heap.size (.slice (some ⟨w.heap.size, 0, none⟩) N N) (List.replicate 0 x ++ List.replicate (N - 0) 0) := by
    unfold OwnY
    rw [List.replicate_zero, List.nil_append, ← made_bytes, List.length_replicate]
    exact hown
  clear hown hg
  go_wp2
  go_loopw [4] (fun j wr => ∃ k : Nat, k ≤ N ∧ j = .int .i64 k ∧ OwnY wr w.heap.size (.slice (some ⟨w.heap.size, 0, none⟩) N N) (List.replicate k x ++ List.replicate (N - k) 0) ∧ Below w.heap.size w wr) (fun j _ => N - (intOf j).toNat)
  case atStart => exact ⟨0, Nat.zero_le _, rfl, hO3, hB3⟩
  case round =>
    clear hO3 hB3
    obtain ⟨k, hk, rfl, hO, hB⟩ := hrel
    rcases Nat.lt_or_ge k N with h | h
    · have hkN : (k : Int) < N := by omega
      have hNi : (N : Int) ≤ 512 := by have := HN.out; omega
      have hl : (List.replicate k x ++ List.replicate (N - k) 0).length = N := by simp; omega
      obtain ⟨gp, hgp, _, hgl, _, -, hc2, hfr⟩ := hO.at_ (by omega)
      obtain rfl : w.heap.size = gp := by simpa using hgp
      have k2 := hc2 k (by omega)
      have k3 := hfr k
      have HO2 := Lib.hid (hO.set (k := k) (by omega) x)
      rw [fill_set x h] at HO2
      have HB2 := Lib.hid (hB.setCell (p := ⟨w.heap.size, k, none⟩) (Nat.le_refl _))
      generalize ((List.replicate k x ++ List.replicate (N - k) 0)[k]?.getD 0).toNat = y at *
      clear hO hB hc2 hfr hl hgp
      go_wp2
      go_roundw
      case rel => exact ⟨k + 1, by omega, by go_num, HO2.out, HB2.out _⟩
      case measure => simp [intOf]; omega
    · obtain rfl : k = N := by omega
      rw [Nat.sub_self, List.replicate_zero, List.append_nil] at hO
      go_wp2
      go_ret
      rw [HN.out] at hO ⊢
      exact ⟨rfl, hO, hB⟩

set_option maxHeartbeats 1000000 in
theorem diskLives (w : World) : Calls Try.prog 18 #[] w fun e w' => e = .returned (.bool true) ∧ Below w.heap.size w w' := by
  obtain ⟨i0, hi0, hz0, hz1, hz2⟩ := info_parts u8_info
  obtain ⟨N, hN⟩ : ∃ N, N = 512 := ⟨_, rfl⟩
  have HN := Lib.hid hN
  have hb0 : Bk (w.alloc (.cells #[.bool true] 4)) w.heap.size 4 #[.bool true] := Bk.new _ _ _
  have hR := Lib.hid (show RdB (w.alloc (.cells #[.bool true] 4)) (w.heap.size + 1) (some ⟨w.heap.size, 0, none⟩) [true] from by
    intro k u hu
    refine ⟨_, rfl, by simp, ?_⟩
    match k, hu with
    | 0, hu => simpa [Addr.add, hb0.cell] using hu)
  have HD := Lib.hid (dNew_any (c := 1) hR.out (by simp) (by simp) 1 (by omega))
  have HB0 : Hid (Below w.heap.size w (w.alloc (.cells #[.bool true] 4))) := (Below.refl _ _).alloc (Nat.le_refl _) _
  clear hb0 hN hR
  go_enter Try.func18, Try.ntmps18
  go_wp2_with fail
  refine HD.out.mono ?_
  rintro e w1 ⟨S, gd, gl, gb, rfl, hD, hnew, hB1⟩
  have HD1 := Lib.hid hD
  have HB1 : Hid (Below w.heap.size w w1) := HB0.out.trans (hB1.mono (by simp))
  have hz := HB1.out.size
  clear hD hB1 HD HB0
  go_wp2_with (at_make; refine wpList_make_full _ rfl _ _ 32 rfl w1.heap.size 5 i0 (.int .u8 0) 1 Try.underlying32 hi0 hz0 hz1 .i64 .i64 _ _ N rfl rfl (by have := HN.out; omega) (by have := HN.out; omega) (by rw [hz2]; have := HN.out; omega) (by have := HN.out; simp [maxLen]; omega) (Nat.le_refl _) ?_; intro w3 hown hg)
  have hB3 : Below w1.heap.size w1 w3 := (Below.refl w1.heap.size w1).grown hg (Nat.le_refl _) (fun q hq => by cases hq)
  have hO3 : OwnY w3 w1.heap.size (.slice (some ⟨w1.heap.size, 0, none⟩) N N) (List.replicate N 0) := by
    unfold OwnY
    rw [← made_bytes, List.length_replicate]
    exact hown
  have HO3 := Lib.hid hO3.rd
  have HD3 := Lib.hid (HD1.out.below0 hB3)
  have HB3 : Hid (Below w.heap.size w w3) := HB1.out.trans (hB3.mono hz)
  have hgl : gl < w1.heap.size := HD1.out.lt gl (.inl HD1.out.self)
  have hglw : w.heap.size ≤ gl := by have := hnew gl (.inl HD1.out.self); simp at this; omega
  have hgbw : w.heap.size ≤ gb := by have := hnew gb (.inr (.inr rfl)); simp at this; omega
  clear hown hg hO3 hB3 hnew
  have HN2 := HN.out
  subst HN2
  have HW := Lib.hid (dWrite_fail (A := some ⟨w1.heap.size, 0, none⟩) (c := 512) HD3.out (by simp) (by simp) (by simp) (n := 0) (by omega) rfl)
  go_wp2_with fail
  refine HW.out.mono ?_
  rintro e w4 ⟨rfl, hD4, hF4⟩
  have HW4 := Lib.hid (dWrite_ok (A := some ⟨w1.heap.size, 0, none⟩) (c := 512) (b := List.replicate 512 0) (B := w3.heap.size) hD4 (by simp) (by simp) (by simp) (Rd.fr HO3.out hF4 (Nat.le_refl _) (fun ad e _ => by injection e with e; subst e; show ¬ w1.heap.size = gl; omega)) hF4.size (List.length_replicate ..) (fun ad e => by injection e with e; subst e; show ¬ w1.heap.size = gl; omega) (n := 0) (by omega) rfl)
  have HB4 : Hid (Below w.heap.size w w4) := HB3.out.trans (hF4.below HB3.out.size (fun k hk e => by omega))
  clear hD4 hF4 HW
  go_wp2_with fail
  refine HW4.out.mono ?_
  rintro e w5 ⟨rfl, hD5, hF5⟩
  go_wp2
  go_ret
  exact ⟨rfl, HB4.out.trans (hF5.below HB4.out.size (fun k hk e => by omega))⟩

/-- Are deeds more than are gone through? -/
def greatD (L : List Dd) : Bool := (L.take 100).any (fun d => decide (600 < d.b.length)) || decide (60 < L.length)
theorem greatD_no {L : List Dd} (h : greatD L = false) : L.length ≤ 60 ∧ ∀ d ∈ L, d.b.length ≤ 600 := by
  unfold greatD at h
  simp only [Bool.or_eq_false_iff, List.any_eq_false, decide_eq_true_eq, decide_eq_false_iff_not] at h
  refine ⟨by omega, fun d hd => ?_⟩
  have := h.1 d (by rw [List.take_of_length_le (by omega)]; exact hd)
  omega
set_option maxRecDepth 100000 in
set_option maxHeartbeats 1000000 in
theorem dGreat_any {w : World} {B : Nat} {A : Option Addr} {c : Nat} {L : List Dd} (h : DdsAt w B A L) (hl : L.length ≤ 9223372036854775807) :
    Calls Try.prog 17 #[.slice A L.length c] w fun e w' => e = .returned (.bool (greatD L)) ∧ w = w' := by
  have HA := Lib.hid h
  clear h
  go_enter Try.func17, Try.ntmps17
  go_wp2
  go_loop [3] (fun i => ∃ k : Nat, k ≤ L.length ∧ k ≤ 100 ∧ i = .int .i64 k ∧ Hid (∀ d ∈ L.take k, d.b.length ≤ 600)) (fun i => 100 - (intOf i).toNat)
  case atStart => exact ⟨0, Nat.zero_le _, by omega, rfl, fun d hd => by simp at hd⟩
  case round =>
    obtain ⟨k, hk, hk3, rfl, HK⟩ := hrel
    by_cases hin : k < L.length ∧ k < 100
    · obtain ⟨hkl, hk3'⟩ := hin
      have hki : (k : Int) < 100 := by omega
      obtain ⟨d, b, o, hd, rfl, hbB, -, -, -, hc1, -⟩ := HA.out.get hkl
      have HD := Lib.hid hd
      rcases Nat.lt_or_ge 600 d.b.length with h5 | h5
      · have HG : Hid (greatD L = true) := by
          show _ = _
          unfold greatD
          rw [Bool.or_eq_true]
          refine .inl (List.any_eq_true.2 ⟨d, ?_, by simpa using h5⟩)
          refine List.mem_of_getElem? (i := k) ?_
          rw [List.getElem?_take, if_pos hk3']; exact hd
        have h5i : (600 : Int) < (d.b.length : Int) := by omega
        clear hd
        go_wp2
        go_ret
        exact ⟨by rw [HG.out]; rfl, rfl⟩
      · have h5i : ¬ (600 : Int) < (d.b.length : Int) := by omega
        clear hd
        go_wp2
        go_round
        case rel =>
          refine ⟨k + 1, by omega, by omega, by go_num, fun e he => ?_⟩
          rw [List.take_add_one, HD.out] at he
          rcases List.mem_append.1 he with he | he
          · exact HK.out e he
          · simp at he
            rw [he]; exact h5
        case measure => simp [intOf]; omega
    · have HG : Hid (greatD L = decide ((60 : Int) < (L.length : Int))) := by
        show _ = _
        have e1 : (L.take 100).any (fun d => decide (600 < d.b.length)) = false := by
          rw [List.any_eq_false]
          intro d hd
          have : L.take 100 = L.take k := by
            rcases Nat.lt_or_ge k 100 with h1 | h1
            · rw [List.take_of_length_le (by omega), List.take_of_length_le (by omega)]
            · rw [show k = 100 by omega]
          rw [this] at hd
          have := HK.out d hd
          simp; omega
        unfold greatD
        rw [e1, Bool.false_or]
        apply decide_eq_decide.2
        omega
      have hcase : (k < L.length ∧ k = 100) ∨ k = L.length := by omega
      clear hin
      rcases hcase with ⟨h1, rfl⟩ | rfl
      · go_wp2
        go_ret
        exact ⟨by rw [HG.out]; rfl, rfl⟩
      · go_wp2
        go_ret
        exact ⟨by rw [HG.out]; rfl, rfl⟩
end Go.Proofs.Ytcbfaahnhdmagaa
