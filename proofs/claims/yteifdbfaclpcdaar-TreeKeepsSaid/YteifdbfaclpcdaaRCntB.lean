/- Contracts of package count, second part: Out, Of, Turn, All, New; counts that aren't there. -/
import Derived.Test.YteifdbfaclpcdaaRCntA
import Derived.Test.YteifdbfaclpcdaaRGyArr
namespace Go.Proofs.YteifdbfaclpcdaaR
open Go.RowKit

/-- One kind taken out. -/
def hit1 (f : Nat → Nat) (k : Int) : Bool := isK k && decide (0 < f k.toNat)
def out1 (f : Nat → Nat) (k : Int) : Nat → Nat := if hit1 f k then upd f k.toNat (f k.toNat - 1) else f
def outN (f : Nat → Nat) (ks : List Int) : Nat → Nat := ks.foldl out1 f
def hits : (Nat → Nat) → List Int → Nat
  | _, [] => 0
  | f, k :: r => (hit1 f k).toNat + hits (out1 f k) r
theorem hits_snoc (f : Nat → Nat) (ks : List Int) (k : Int) : hits f (ks ++ [k]) = hits f ks + (hit1 (outN f ks) k).toNat := by
  induction ks generalizing f with
  | nil =>
    simp [hits, outN]
  | cons a r ih =>
    simp only [List.cons_append, hits, ih, outN, List.foldl_cons]
    omega
theorem outN_succ (f : Nat → Nat) (ks : List Int) {k : Nat} (hk : k < ks.length) : outN f (ks.take (k + 1)) = out1 (outN f (ks.take k)) (ks[k]?.getD 0) := by
  rw [List.take_succ_eq_append_getElem hk, outN, List.foldl_append]
  simp [hk, outN]
theorem hits_succ (f : Nat → Nat) (ks : List Int) {k : Nat} (hk : k < ks.length) : hits f (ks.take (k + 1)) = hits f (ks.take k) + (hit1 (outN f (ks.take k)) (ks[k]?.getD 0)).toNat := by
  rw [List.take_succ_eq_append_getElem hk, hits_snoc]
  simp [hk]
theorem hits_le (f : Nat → Nat) (ks : List Int) : hits f ks ≤ ks.length := by
  induction ks generalizing f with
  | nil => simp [hits]
  | cons a r ih =>
    have := ih (out1 f a)
    simp only [hits, List.length_cons]
    have := Bool.toNat_le (hit1 f a)
    omega
theorem hits_take_le (f : Nat → Nat) (ks : List Int) (k : Nat) : hits f (ks.take k) ≤ k := Nat.le_trans (hits_le _ _) (List.length_take_le _ _)
theorem out1_le {f : Nat → Nat} {M : Nat} (h : ∀ i, f i ≤ M) (k : Int) : ∀ i, out1 f k i ≤ M := by
  intro i
  unfold out1
  split
  · unfold upd
    split
    · have := h k.toNat; omega
    · exact h i
  · exact h i
theorem outN_le {f : Nat → Nat} {M : Nat} (h : ∀ i, f i ≤ M) (ks : List Int) : ∀ i, outN f ks i ≤ M := by
  induction ks generalizing f with
  | nil => exact h
  | cons k r ih => exact ih (out1_le h k)

set_option maxHeartbeats 1000000 in
/-- c.Out(ks...). -/
theorem cOut_any {w : World} {g B : Nat} {f : Nat → Nat} {A : Option Addr} {c : Nat} {ks : List Int} (hg : CntAt w g f) (hA : RdI w B A ks) (hB : B ≤ w.heap.size) (hne : ∀ ad, A = some ad → 0 < ks.length → ad.block ≠ g) (M : Nat) (hM : ∀ i, f i ≤ M) (hMM : M ≤ 1000000) (hsum : ks.length ≤ 1000000) :
    Calls Try.prog 15 #[.pointer (some ⟨g, 0, none⟩), .slice A ks.length c] w fun e w' => e = .returned (.int .i64 (hits f ks)) ∧ CntAt w' g (outN f ks) ∧ Fr (· = g) w w' := by
  have HA := Lib.hid hA
  have HM := Lib.hid hM
  have HN := Lib.hid hne
  clear hA hM hne
  go_enter Try.func15, Try.ntmps15
  go_wp2_with fail
  go_loopw [5, 10] (fun n i wr => ∃ k : Nat, k ≤ ks.length ∧ i = .int .i64 k ∧ n = .int .i64 (hits f (ks.take k)) ∧ CntAt wr g (outN f (ks.take k)) ∧ Fr (· = g) w wr) (fun _ i _ => ks.length - (intOf i).toNat)
  case atStart => exact ⟨0, Nat.zero_le _, rfl, rfl, hg, Fr.refl _ _⟩
  case round =>
    clear hg
    obtain ⟨k, hk, rfl, rfl, hg, hF⟩ := hrel
    have hvk := hits_take_le f ks k
    rcases Nat.lt_or_ge k ks.length with hlt | hge
    · obtain ⟨ad, rfl, hab, hc⟩ := RdI.at_ (w := wr) (Rd.fr HA.out hF hB (fun ad e hl => HN.out ad e (by simpa using hl))) hlt
      have HS := Lib.hid (hits_succ f ks hlt)
      have HP := Lib.hid (outN_succ f ks hlt)
      have hbd := Lib.hid (outN_le HM.out (ks.take k))
      generalize ks[k]?.getD 0 = x at *
      generalize outN f (ks.take k) = fk at *
      cases hx : isK x
      · have HX : Hid (hit1 fk x = false) := by rw [hit1, hx]; rfl
        have HC := Lib.hid (cmay_no wr ⟨g, 0, none⟩ x (isK_false hx))
        clear hx
        go_wp2_with (go_at_call 57; refine HC.out.mono ?_; rintro e w2 ⟨rfl, rfl⟩)
        go_roundw
        case rel => exact ⟨k + 1, by omega, by go_num, by rw [HS.out, HX.out]; simp, by rw [HP.out, out1, HX.out]; exact hg, hF⟩
        case measure => simp [intOf]; omega
      · obtain ⟨n, rfl, hn⟩ := isK_true hx
        have HC := Lib.hid (cmay_yes wr ⟨g, 0, none⟩ n hn)
        have h1 := hg.cell hn
        have h2 := hg.free n
        have hlt2 : fk n ≤ 1000000 := by
          have := hbd.out n
          omega
        rcases Nat.eq_zero_or_pos (fk n) with h0 | h0
        · have HX : Hid (hit1 fk n = false) := by show hit1 fk n = false; simp [hit1, h0]
          rw [h0] at h1
          clear hx h0 hlt2 h2
          go_wp2_with (go_at_call 57; refine HC.out.mono ?_; rintro e w2 ⟨rfl, rfl⟩)
          go_roundw
          case rel => exact ⟨k + 1, by omega, by go_num, by rw [HS.out, HX.out]; simp, by rw [HP.out, out1, HX.out]; exact hg, hF⟩
          case measure => simp [intOf]; omega
        · have HX : Hid (hit1 fk n = true) := by show hit1 fk n = true; simp only [hit1, hx, Int.toNat_natCast, Bool.true_and, decide_eq_true_eq]; exact h0
          have hset := Lib.hid (hg.set n (fk n - 1) (x := (fk n : Int) - 1) (by omega))
          have hFs := Lib.hid (hF.set ⟨g, n, none⟩ (.int .i64 ((fk n : Int) - 1)) (fun _ => rfl))
          clear hg hx
          go_wp2_with (go_at_call 57; refine HC.out.mono ?_; rintro e w2 ⟨rfl, rfl⟩)
          go_region
          all_goals
            go_wp2
            exact ⟨⟨k + 1, by omega, by go_num, by rw [HS.out, HX.out]; simp, by rw [HP.out, out1, HX.out]; simpa using hset.out.drew, hFs.out.drew⟩, by simp [intOf]; omega⟩
    · obtain rfl : k = ks.length := by omega
      rw [List.take_of_length_le (Nat.le_refl _)] at *
      go_wp2
      go_ret
      exact ⟨rfl, hg, hF⟩

def of1 (f : Nat → Nat) (k : Int) : Nat := if isK k then f k.toNat else 0
def ofN (f : Nat → Nat) (ks : List Int) : Nat := (ks.map (of1 f)).sum
theorem ofN_succ (f : Nat → Nat) (ks : List Int) {k : Nat} (hk : k < ks.length) : ofN f (ks.take (k + 1)) = ofN f (ks.take k) + of1 f (ks[k]?.getD 0) := by
  rw [List.take_succ_eq_append_getElem hk, ofN, List.map_append, List.sum_append]
  simp only [ofN, List.map_cons, List.map_nil, List.sum_cons, List.sum_nil, Nat.add_zero, List.getElem?_eq_getElem hk, Option.getD_some]
theorem of1_le {f : Nat → Nat} {M : Nat} (h : ∀ i, f i ≤ M) (k : Int) : of1 f k ≤ M := by
  unfold of1
  split
  · exact h _
  · omega
theorem ofN_le {f : Nat → Nat} {M : Nat} (h : ∀ i, f i ≤ M) (ks : List Int) : ofN f ks ≤ ks.length * M := by
  induction ks with
  | nil => simp [ofN]
  | cons a r ih =>
    simp only [ofN, List.map_cons, List.sum_cons, List.length_cons] at ih ⊢
    have := of1_le h a
    rw [Nat.succ_mul]
    omega

set_option maxHeartbeats 1000000 in
/-- c.Of(ks...). -/
theorem cOf_any {w : World} {g B : Nat} {f : Nat → Nat} {A : Option Addr} {c : Nat} {ks : List Int} (hg : CntAt w g f) (hA : RdI w B A ks) (M : Nat) (hM : ∀ i, f i ≤ M) (hMM : M ≤ 100000) (hsum : ks.length ≤ 1000) :
    Calls Try.prog 17 #[.pointer (some ⟨g, 0, none⟩), .slice A ks.length c] w fun e w' => e = .returned (.int .i64 (ofN f ks)) ∧ w = w' := by
  have HA := Lib.hid hA
  have HM := Lib.hid hM
  clear hA hM
  go_enter Try.func17, Try.ntmps17
  go_wp2_with fail
  go_loop [5, 10] (fun n i => ∃ k : Nat, k ≤ ks.length ∧ i = .int .i64 k ∧ n = .int .i64 (ofN f (ks.take k))) (fun _ i => ks.length - (intOf i).toNat)
  case atStart => exact ⟨0, Nat.zero_le _, rfl, rfl⟩
  case round =>
    obtain ⟨k, hk, rfl, rfl⟩ := hrel
    rcases Nat.lt_or_ge k ks.length with hlt | hge
    · obtain ⟨ad, rfl, hab, hc⟩ := HA.out.at_ hlt
      have HS := Lib.hid (ofN_succ f ks hlt)
      have hb1 : ofN f (ks.take k) ≤ 100000000 := by
        have h1 := ofN_le HM.out (ks.take k)
        have h2 := List.length_take_le k ks
        have h3 : (ks.take k).length * M ≤ 1000 * 100000 := Nat.mul_le_mul (by omega) hMM
        omega
      generalize ks[k]?.getD 0 = x at *
      generalize ofN f (ks.take k) = s at *
      cases hx : isK x
      · have HX : Hid (of1 f x = 0) := by rw [of1, hx]; exact rfl
        have HC := Lib.hid (cmay_no w ⟨g, 0, none⟩ x (isK_false hx))
        clear hx
        go_wp2_with (go_at_call 57; refine HC.out.mono ?_; rintro e w2 ⟨rfl, rfl⟩)
        go_round
        case rel => exact ⟨k + 1, by omega, by go_num, by rw [HS.out, HX.out]; simp⟩
        case measure => simp [intOf]; omega
      · obtain ⟨n, rfl, hn⟩ := isK_true hx
        have HX : Hid (of1 f n = f n) := by rw [of1, hx]; exact rfl
        have HC := Lib.hid (cmay_yes w ⟨g, 0, none⟩ n hn)
        have h1 := hg.cell hn
        have hlt2 : f n ≤ 100000 := by have := HM.out n; omega
        clear hx
        go_wp2_with (go_at_call 57; refine HC.out.mono ?_; rintro e w2 ⟨rfl, rfl⟩)
        go_round
        case rel => exact ⟨k + 1, by omega, by go_num, by rw [HS.out, HX.out]; go_num⟩
        case measure => simp [intOf]; omega
    · obtain rfl : k = ks.length := by omega
      rw [List.take_of_length_le (Nat.le_refl _)] at *
      go_wp2
      go_ret
      exact ⟨rfl, rfl⟩
end Go.Proofs.YteifdbfaclpcdaaR
