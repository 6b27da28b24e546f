/- The deeds of gunnylaw27, its function great, and the reference gunnyref27. -/
import Derived.Test.YteifdbfaclpcdaaRCntC
namespace Go.Proofs.YteifdbfaclpcdaaR
open Go.RowKit

structure Dd where
  kind : Int
  A : Option Addr
  c : Nat
  ks : List Int

/-- The slice of deeds at address A reads as L; all below block B. -/
def DeedsAt (w : World) (B : Nat) (A : Option Addr) (L : List Dd) : Prop :=
  ∀ i d, L[i]? = some d → ∃ b o, A = some ⟨b, o, none⟩ ∧ b < B ∧ w.cell? ⟨b, o + i * 2, none⟩ = some (.int .i64 d.kind) ∧ w.cell? ⟨b, o + i * 2 + 1, none⟩ = some (.slice d.A d.ks.length d.c) ∧ RdI w B d.A d.ks
theorem DeedsAt.below {w w' : World} {B : Nat} {A : Option Addr} {L : List Dd} (h : DeedsAt w B A L) (hb : Below B w w') : DeedsAt w' B A L := fun i d hd => by
  obtain ⟨b, o, e, hB, h1, h2, h3⟩ := h i d hd
  exact ⟨b, o, e, hB, (hb.cell (p := ⟨b, _, none⟩) hB).trans h1, (hb.cell (p := ⟨b, _, none⟩) hB).trans h2, h3.below hb⟩
theorem DeedsAt.get {w : World} {B : Nat} {A : Option Addr} {L : List Dd} (h : DeedsAt w B A L) {i : Nat} (hi : i < L.length) : ∃ d b o, L[i]? = some d ∧ A = some ⟨b, o, none⟩ ∧ b < B ∧ w.cell? ⟨b, o + i * 2, none⟩ = some (.int .i64 d.kind) ∧ w.cell? ⟨b, o + i * 2 + 1, none⟩ = some (.slice d.A d.ks.length d.c) ∧ RdI w B d.A d.ks := by
  obtain ⟨b, o, h⟩ := h i L[i] (List.getElem?_eq_getElem hi)
  exact ⟨_, b, o, List.getElem?_eq_getElem hi, h⟩

def greatB (L : List Dd) : Bool := (L.take 100).any (fun d => decide (30 < d.ks.length)) || decide (60 < L.length)
theorem greatB_false {L : List Dd} (h : greatB L = false) : L.length ≤ 60 ∧ ∀ d ∈ L, d.ks.length ≤ 30 := by
  simp only [greatB, Bool.or_eq_false_iff, decide_eq_false_iff_not, List.any_eq_false, decide_eq_true_eq] at h
  have h2 : L.length ≤ 60 := by omega
  refine ⟨h2, fun d hd => ?_⟩
  have := h.1 d (by rw [List.take_of_length_le (by omega)]; exact hd)
  omega
theorem any_take_succ (L : List Dd) {k : Nat} {d : Dd} (hd : L[k]? = some d) (h : (L.take k).any (fun d => decide (30 < d.ks.length)) = false) (h2 : d.ks.length ≤ 30) : (L.take (k + 1)).any (fun d => decide (30 < d.ks.length)) = false := by
  obtain ⟨hlt, e⟩ := List.getElem?_eq_some_iff.1 hd
  rw [List.take_succ_eq_append_getElem hlt, List.any_append, h, e]
  simp [h2]
theorem any_take_hit (L : List Dd) {k : Nat} {d : Dd} (hd : L[k]? = some d) (hk : k < 100) (h2 : 30 < d.ks.length) : greatB L = true := by
  have : d ∈ L.take 100 := List.mem_take_iff_getElem.2 ⟨k, by have := (List.getElem?_eq_some_iff.1 hd).1; omega, (List.getElem?_eq_some_iff.1 hd).2⟩
  simp only [greatB, Bool.or_eq_true, List.any_eq_true, decide_eq_true_eq]
  exact .inl ⟨d, this, h2⟩

set_option maxHeartbeats 1000000 in
theorem great_any {w : World} {B : Nat} {A : Option Addr} {c : Nat} {L : List Dd} (hA : DeedsAt w B A L) (hl : L.length ≤ 9223372036854775807) :
    Calls Try.prog 19 #[.slice A L.length c] w fun e w' => e = .returned (.bool (greatB L)) ∧ w = w' := by
  have HA := Lib.hid hA
  clear hA
  go_enter Try.func19, Try.ntmps19
  go_wp2
  go_loop [3] (fun i => ∃ k : Nat, k ≤ L.length ∧ k ≤ 100 ∧ i = .int .i64 k ∧ Hid ((L.take k).any (fun d => decide (30 < d.ks.length)) = false)) (fun i => 100 - (intOf i).toNat)
  case atStart => exact ⟨0, Nat.zero_le _, Nat.zero_le _, rfl, rfl⟩
  case round =>
    obtain ⟨k, hk, hk2, rfl, HN⟩ := hrel
    rcases Nat.lt_or_ge k L.length with hlt | hge
    · rcases Nat.lt_or_ge k 100 with h100 | h100
      · obtain ⟨d, b, o, hd, rfl, hb, h1, h2, _⟩ := HA.out.get hlt
        have HD := Lib.hid hd
        clear hd
        rcases Nat.lt_or_ge 30 d.ks.length with h30 | h30
        · have HG := Lib.hid (any_take_hit L HD.out h100 h30)
          go_wp2
          go_ret
          exact ⟨ret_bool HG.out.symm, rfl⟩
        · have HS := Lib.hid (any_take_succ L HD.out HN.out h30)
          go_wp2
          go_round
          case rel => exact ⟨k + 1, by omega, by omega, by go_num, HS⟩
          case measure => simp [intOf]; omega
      · obtain rfl : k = 100 := by omega
        have HG : Hid (greatB L = decide (60 < L.length)) := by show greatB L = _; rw [greatB, HN.out]; rfl
        go_wp2
        go_ret
        exact ⟨ret_bool (by rw [HG.out]; simp; omega), rfl⟩
    · obtain rfl : k = L.length := by omega
      have HG : Hid (greatB L = decide (60 < L.length)) := by
        show greatB L = _
        rw [greatB, List.take_of_length_le hk2]
        rw [List.take_of_length_le (Nat.le_refl _)] at HN
        rw [HN.out]
        rfl
      go_wp2
      go_ret
      exact ⟨ret_bool (by rw [HG.out]; simp; omega), rfl⟩

set_option maxHeartbeats 1000000 in
theorem refOf_any {w : World} {B : Nat} {A : Option Addr} {c : Nat} {l : List Int} (hA : RdI w B A l) (k : Int) (hl : l.length ≤ 1000000) :
    Calls Try.prog 24 #[.slice A l.length c, .int .i64 k] w fun e w' => e = .returned (.int .i64 (l.count k)) ∧ w = w' := by
  have HA := Lib.hid hA
  clear hA
  go_enter Try.func24, Try.ntmps24
  go_wp2
  go_loop [5, 6] (fun n i => ∃ j : Nat, j ≤ l.length ∧ i = .int .i64 j ∧ n = .int .i64 ((l.take j).count k)) (fun _ i => l.length - (intOf i).toNat)
  case atStart => exact ⟨0, Nat.zero_le _, rfl, rfl⟩
  case round =>
    obtain ⟨j, hj, rfl, rfl⟩ := hrel
    rcases Nat.lt_or_ge j l.length with hlt | hge
    · obtain ⟨ad, rfl, hab, hc⟩ := HA.out.at_ hlt
      have HS : Hid ((l.take (j + 1)).count k = (l.take j).count k + if l[j]?.getD 0 = k then 1 else 0) := by
        show _ = _
        rw [List.take_succ_eq_append_getElem hlt, List.count_append]
        simp [hlt, List.count_singleton]
      have hle : (l.take j).count k ≤ 1000000 := by
        have := List.count_le_length (a := k) (l := l.take j)
        have := List.length_take_le j l
        omega
      generalize l[j]?.getD 0 = x at *
      by_cases hx : x = k
      · have HX := Lib.hid hx
        have hb : (x == k) = true := by simp [hx]
        clear hx
        go_wp2
        go_round
        case rel => exact ⟨j + 1, by omega, by go_num, by rw [HS.out, if_pos HX.out]; go_num⟩
        case measure => simp [intOf]; omega
      · have HX := Lib.hid hx
        have hb : (x == k) = false := by simp [hx]
        clear hx
        go_wp2
        go_round
        case rel => exact ⟨j + 1, by omega, by go_num, by rw [HS.out, if_neg HX.out]; go_num⟩
        case measure => simp [intOf]; omega
    · obtain rfl : j = l.length := by omega
      rw [List.take_of_length_le (Nat.le_refl _)] at *
      go_wp2
      go_ret
      exact ⟨rfl, rfl⟩
end Go.Proofs.YteifdbfaclpcdaaR
