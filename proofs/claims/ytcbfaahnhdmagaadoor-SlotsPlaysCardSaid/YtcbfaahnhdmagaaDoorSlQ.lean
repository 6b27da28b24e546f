/- Slots: deeds; great of gunnylaw09. -/
import Derived.Test.YtcbfaahnhdmagaaDoorSlN
import Derived.Deep.RegionHeld3
import Derived.Deep.DeepCutAuto
import Derived.Deep.CutBlock
import Derived.Handy
namespace Go.Proofs.YtcbfaahnhdmagaaDoor
open Go.RowKit

/-- A deed. -/
structure Dd where
  kind : Int
  n : Int
  fill : UInt8
  A : Option Addr
  c : Nat
  b : List UInt8
/-- Deeds, side by side. -/
def DdsAt (w : World) (B : Nat) (A : Option Addr) (L : List Dd) : Prop :=
  ∀ i d, L[i]? = some d → ∃ b o, A = some ⟨b, o, none⟩ ∧ b < B ∧ w.cell? ⟨b, o + i * 4, none⟩ = some (.int .i64 d.kind) ∧ w.cell? ⟨b, o + i * 4 + 1, none⟩ = some (.int .i64 d.n) ∧ w.cell? ⟨b, o + i * 4 + 2, none⟩ = some (.int .u8 (d.fill.toNat : Int)) ∧ w.cell? ⟨b, o + i * 4 + 3, none⟩ = some (.slice d.A d.b.length d.c) ∧ RdY w B d.A d.b ∧ d.b.length ≤ d.c
theorem DdsAt.below {w w' : World} {B : Nat} {A : Option Addr} {L : List Dd} (h : DdsAt w B A L) (hb : Below B w w') : DdsAt w' B A L := fun i d hd => by
  obtain ⟨b, o, e, h1, h2, h3, h4, h5, h6, h7⟩ := h i d hd
  exact ⟨b, o, e, h1, (hb.cell (p := ⟨b, _, none⟩) h1).trans h2, (hb.cell (p := ⟨b, _, none⟩) h1).trans h3, (hb.cell (p := ⟨b, _, none⟩) h1).trans h4, (hb.cell (p := ⟨b, _, none⟩) h1).trans h5, h6.below hb, h7⟩
theorem DdsAt.get {w : World} {B : Nat} {A : Option Addr} {L : List Dd} (h : DdsAt w B A L) {i : Nat} (hi : i < L.length) : ∃ d b o, L[i]? = some d ∧ A = some ⟨b, o, none⟩ ∧ b < B ∧ w.cell? ⟨b, o + i * 4, none⟩ = some (.int .i64 d.kind) ∧ w.cell? ⟨b, o + i * 4 + 1, none⟩ = some (.int .i64 d.n) ∧ w.cell? ⟨b, o + i * 4 + 2, none⟩ = some (.int .u8 (d.fill.toNat : Int)) ∧ w.cell? ⟨b, o + i * 4 + 3, none⟩ = some (.slice d.A d.b.length d.c) ∧ RdY w B d.A d.b ∧ d.b.length ≤ d.c := by
  obtain ⟨b, o, h1⟩ := h i L[i] (by simp [hi])
  exact ⟨L[i], b, o, by simp [hi], h1⟩

/-- Are deeds more than are gone through? -/
def greatD (L : List Dd) : Bool := (L.take 100).any (fun d => decide (5000 < d.b.length)) || decide (40 < L.length)
theorem greatD_no {L : List Dd} (h : greatD L = false) : L.length ≤ 40 ∧ ∀ d ∈ L, d.b.length ≤ 5000 := by
  unfold greatD at h
  simp only [Bool.or_eq_false_iff, List.any_eq_false, decide_eq_true_eq, decide_eq_false_iff_not] at h
  refine ⟨by omega, fun d hd => ?_⟩
  have := h.1 d (by rw [List.take_of_length_le (by omega)]; exact hd)
  omega
set_option maxRecDepth 100000 in
set_option maxHeartbeats 1000000 in
theorem dGreat_any {w : World} {B : Nat} {A : Option Addr} {c : Nat} {L : List Dd} (h : DdsAt w B A L) (hl : L.length ≤ 9223372036854775807) :
    Calls Tryd.prog 28 #[.slice A L.length c] w fun e w' => e = .returned (.bool (greatD L)) ∧ w = w' := by
  have HA := Lib.hid h
  clear h
  go_enter Tryd.func28, Tryd.ntmps28
  go_wp2
  go_loop [3] (fun i => ∃ k : Nat, k ≤ L.length ∧ k ≤ 100 ∧ i = .int .i64 k ∧ Hid (∀ d ∈ L.take k, d.b.length ≤ 5000)) (fun i => 100 - (intOf i).toNat)
  case atStart => exact ⟨0, Nat.zero_le _, by omega, rfl, fun d hd => by simp at hd⟩
  case round =>
    obtain ⟨k, hk, hk3, rfl, HK⟩ := hrel
    by_cases hin : k < L.length ∧ k < 100
    · obtain ⟨hkl, hk3'⟩ := hin
      have hki : (k : Int) < 100 := by omega
      obtain ⟨d, b, o, hd, rfl, hbB, -, -, -, hc1, -, -⟩ := HA.out.get hkl
      have HD := Lib.hid hd
      rcases Nat.lt_or_ge 5000 d.b.length with h5 | h5
      · have HG : Hid (greatD L = true) := by
          show _ = _
          unfold greatD
          rw [Bool.or_eq_true]
          refine .inl (List.any_eq_true.2 ⟨d, ?_, by simpa using h5⟩)
          refine List.mem_of_getElem? (i := k) ?_
          rw [List.getElem?_take, if_pos hk3']; exact hd
        have h5i : (5000 : Int) < (d.b.length : Int) := by omega
        clear hd
        go_wp2
        go_ret
        exact ⟨by rw [HG.out]; rfl, rfl⟩
      · have h5i : ¬ (5000 : Int) < (d.b.length : Int) := by omega
        clear hd
        go_wp2
        go_round
        case rel =>
          refine ⟨k + 1, by omega, by omega, by go_num, fun e he => ?_⟩
          rw [List.take_add_one, HD.out] at he
          rcases List.mem_append.1 he with he | he
          · exact HK.out e he
          · simp at he
            rw [he]; exact h5
        case measure => simp [intOf]; omega
    · have HG : Hid (greatD L = decide ((40 : Int) < (L.length : Int))) := by
        show _ = _
        have e1 : (L.take 100).any (fun d => decide (5000 < d.b.length)) = false := by
          rw [List.any_eq_false]
          intro d hd
          have : L.take 100 = L.take k := by
            rcases Nat.lt_or_ge k 100 with h1 | h1
            · rw [List.take_of_length_le (by omega), List.take_of_length_le (by omega)]
            · rw [show k = 100 by omega]
          rw [this] at hd
          have := HK.out d hd
          simp; omega
        unfold greatD
        rw [e1, Bool.false_or]
        apply decide_eq_decide.2
        omega
      have hcase : (k < L.length ∧ k = 100) ∨ k = L.length := by omega
      clear hin
      rcases hcase with ⟨h1, rfl⟩ | rfl
      · go_wp2
        go_ret
        exact ⟨by rw [HG.out]; rfl, rfl⟩
      · go_wp2
        go_ret
        exact ⟨by rw [HG.out]; rfl, rfl⟩
end Go.Proofs.YtcbfaahnhdmagaaDoor
