/- Contracts of package count: sixteen counts in one block. -/
import Derived.Test.YteifdbfaclpcdaaRProg
import Derived.Test.YteifdbfaclpcdaaRGy
import Derived.BigQuiet
import Derived.Deep.QuietTactic
namespace Go.Proofs.YteifdbfaclpcdaaR
open Go.RowKit

/-- A slice of ints. -/
def RdI (w : World) (B : Nat) (A : Option Addr) (l : List Int) : Prop := Rd w B A (l.map (Value.int .i64))
theorem RdI.at_ {w : World} {B : Nat} {A : Option Addr} {l : List Int} (h : RdI w B A l) {k : Nat} (hk : k < l.length) :
    ∃ ad, A = some ad ∧ ad.block < B ∧ w.cell? (ad.add k) = some (.int .i64 (l[k]?.getD 0)) := by
  obtain ⟨ad, e, hb, hc⟩ := h k (.int .i64 (l[k]?.getD 0)) (by simp [hk])
  exact ⟨ad, e, hb, hc⟩
theorem RdI.below {w w' : World} {B : Nat} {A : Option Addr} {l : List Int} (h : RdI w B A l) (hb : Below B w w') : RdI w' B A l := Rd.below h hb
theorem RdI.ne {w : World} {B g : Nat} {A : Option Addr} {l : List Int} (h : RdI w B A l) (hB : B ≤ g) : ∀ ad, A = some ad → 0 < l.length → ad.block ≠ g := fun ad e hl => by
  obtain ⟨ad', e', hb, _⟩ := h.at_ hl
  rw [e] at e'
  injection e' with e'
  subst e'
  omega
theorem oneI (l : List Int) : ∀ u ∈ l.map (Value.int .i64), u.oneCell' = true := by
  intro u hu
  obtain ⟨b, _, rfl⟩ := List.mem_map.1 hu
  rfl

/-- The cells of sixteen counts. -/
def cntCells (f : Nat → Nat) : Array Value := ((List.range 16).map fun i => Value.int .i64 (f i)).toArray
def upd (f : Nat → Nat) (k v : Nat) : Nat → Nat := fun j => if j = k then v else f j
theorem cntCells_get (f : Nat → Nat) {i : Nat} (hi : i < 16) : (cntCells f)[i]? = some (.int .i64 (f i)) := by
  simp [cntCells, hi]
theorem cntCells_set (f : Nat → Nat) (k v : Nat) : (cntCells f).setIfInBounds k (.int .i64 v) = cntCells (upd f k v) := by
  apply Array.ext'
  simp only [cntCells, List.setIfInBounds_toArray]
  apply List.ext_getElem?
  intro i
  rw [List.getElem?_set]
  simp only [List.length_map, List.length_range, List.getElem?_map, upd]
  by_cases hi : i < 16
  · by_cases hk : k = i
    · subst hk; simp [hi]
    · simp [hi, hk, Ne.symm hk]
  · have : (List.range 16)[i]? = none := by simp; omega
    simp [this]
    intro _; omega

/-- Counts at block g. -/
def CntAt (w : World) (g : Nat) (f : Nat → Nat) : Prop := Bk w g 99 (cntCells f)
section
variable {w w' : World} {g : Nat} {f : Nat → Nat}
theorem CntAt.lt (h : CntAt w g f) : g < w.heap.size := Bk.lt h
theorem CntAt.cell (h : CntAt w g f) {i : Nat} (hi : i < 16) : w.cell? ⟨g, i, none⟩ = some (.int .i64 (f i)) := (Bk.cell h i).trans (cntCells_get f hi)
theorem CntAt.free (h : CntAt w g f) (i : Nat) : w.frozen? ⟨g, i, none⟩ = false := Bk.free h i
theorem CntAt.set (h : CntAt w g f) (k v : Nat) {x : Int} (hx : x = v) : CntAt (w.setCell ⟨g, k, none⟩ (.int .i64 x)) g (upd f k v) := by
  subst hx
  have := Bk.set h k (.int .i64 v)
  rw [cntCells_set] at this
  exact this
theorem CntAt.fr {S : Nat → Prop} (h : CntAt w g f) (hf : Fr S w w') (hg : ¬ S g) : CntAt w' g f := Bk.fr h hf hg
theorem CntAt.drewN (h : CntAt w g f) (n : Nat) : CntAt (w.drewN n) g f := h
theorem CntAt.drew (h : CntAt w g f) : CntAt w.drew g f := h
end

/-- Is a number a kind? -/
def isK (k : Int) : Bool := decide (0 ≤ k) && decide (k < 16)
theorem isK_true {k : Int} (h : isK k = true) : ∃ n : Nat, k = n ∧ n < 16 := by
  simp [isK] at h
  exact ⟨k.toNat, by omega, by omega⟩
theorem isK_false {k : Int} (h : isK k = false) : k < 0 ∨ 16 ≤ k := by
  simp [isK] at h
  omega

set_option maxHeartbeats 400000 in
theorem cmay_yes (w : World) (a : Addr) (k : Nat) (h1 : k < 16) : Calls Try.prog 57 #[.pointer (some a), .int .i64 k] w fun e w' => e = .returned (.bool true) ∧ w = w' := by
  go_enter Try.func57, Try.ntmps57
  go_wp2
  go_ret
  exact ⟨ret_bool (by simp; omega), rfl⟩
set_option maxHeartbeats 400000 in
theorem cmay_no (w : World) (a : Addr) (k : Int) (h : k < 0 ∨ 16 ≤ k) : Calls Try.prog 57 #[.pointer (some a), .int .i64 k] w fun e w' => e = .returned (.bool false) ∧ w = w' := by
  rcases h with h | h
  all_goals
    go_enter Try.func57, Try.ntmps57
    go_wp2
    go_ret
    first | exact ⟨rfl, rfl⟩ | exact ⟨ret_bool (by simp; omega), rfl⟩
set_option maxHeartbeats 400000 in
theorem cmay_nil (w : World) (k : Int) : Calls Try.prog 57 #[.pointer none, .int .i64 k] w fun e w' => e = .returned (.bool false) ∧ w = w' := by
  go_enter Try.func57, Try.ntmps57
  go_wp2
  go_ret
  exact ⟨rfl, rfl⟩
theorem cmay_any (w : World) (a : Addr) (k : Int) : Calls Try.prog 57 #[.pointer (some a), .int .i64 k] w fun e w' => e = .returned (.bool (isK k)) ∧ w = w' := by
  cases h : isK k
  · exact cmay_no w a k (isK_false h)
  · obtain ⟨n, rfl, hn⟩ := isK_true h
    exact cmay_yes w a n hn

/-- One kind put in. -/
def put1 (f : Nat → Nat) (k : Int) : Nat → Nat := if isK k then upd f k.toNat (f k.toNat + 1) else f
def putN (f : Nat → Nat) (ks : List Int) : Nat → Nat := ks.foldl put1 f
def valid (ks : List Int) : Nat := (ks.filter isK).length
theorem putN_succ (f : Nat → Nat) (ks : List Int) {k : Nat} (hk : k < ks.length) : putN f (ks.take (k + 1)) = put1 (putN f (ks.take k)) (ks[k]?.getD 0) := by
  rw [List.take_succ_eq_append_getElem hk, putN, List.foldl_append]
  simp [hk, putN]
theorem valid_succ (ks : List Int) {k : Nat} (hk : k < ks.length) : valid (ks.take (k + 1)) = valid (ks.take k) + if isK (ks[k]?.getD 0) then 1 else 0 := by
  rw [List.take_succ_eq_append_getElem hk, valid, List.filter_append, List.length_append]
  simp only [valid, List.filter_cons, List.filter_nil, List.getElem?_eq_getElem hk, Option.getD_some]
  cases isK ks[k] <;> simp
theorem valid_le (ks : List Int) : valid ks ≤ ks.length := List.length_filter_le _ _
theorem valid_take_le (ks : List Int) (k : Nat) : valid (ks.take k) ≤ k := Nat.le_trans (valid_le _) (List.length_take_le _ _)
theorem put1_le {f : Nat → Nat} {M : Nat} (h : ∀ i, f i ≤ M) (k : Int) : ∀ i, put1 f k i ≤ M + 1 := by
  intro i
  unfold put1
  split
  · unfold upd
    split
    · have := h k.toNat; omega
    · have := h i; omega
  · have := h i; omega
theorem putN_le {f : Nat → Nat} {M : Nat} (h : ∀ i, f i ≤ M) (ks : List Int) : ∀ i, putN f ks i ≤ M + ks.length := by
  induction ks generalizing f M with
  | nil => exact h
  | cons k r ih =>
    intro i
    have := ih (put1_le h k) i
    simp only [List.length_cons]
    simp only [putN, List.foldl_cons] at this ⊢
    omega

set_option maxHeartbeats 1000000 in
/-- c.In(ks...). -/
theorem cIn_any {w : World} {g B : Nat} {f : Nat → Nat} {A : Option Addr} {c : Nat} {ks : List Int} (hg : CntAt w g f) (hA : RdI w B A ks) (hB : B ≤ w.heap.size) (hne : ∀ ad, A = some ad → 0 < ks.length → ad.block ≠ g) (M : Nat) (hM : ∀ i, f i ≤ M) (hsum : M + ks.length ≤ 1000000) :
    Calls Try.prog 14 #[.pointer (some ⟨g, 0, none⟩), .slice A ks.length c] w fun e w' => e = .returned (.int .i64 (valid ks)) ∧ CntAt w' g (putN f ks) ∧ Fr (· = g) w w' := by
  have HA := Lib.hid hA
  have HM := Lib.hid hM
  have HN := Lib.hid hne
  clear hA hM hne
  go_enter Try.func14, Try.ntmps14
  go_wp2_with fail
  go_loopw [5, 10] (fun n i wr => ∃ k : Nat, k ≤ ks.length ∧ i = .int .i64 k ∧ n = .int .i64 (valid (ks.take k)) ∧ CntAt wr g (putN f (ks.take k)) ∧ Fr (· = g) w wr) (fun _ i _ => ks.length - (intOf i).toNat)
  case atStart => exact ⟨0, Nat.zero_le _, rfl, rfl, hg, Fr.refl _ _⟩
  case round =>
    clear hg
    obtain ⟨k, hk, rfl, rfl, hg, hF⟩ := hrel
    have hvk := valid_take_le ks k
    rcases Nat.lt_or_ge k ks.length with hlt | hge
    · obtain ⟨ad, rfl, hab, hc⟩ := RdI.at_ (w := wr) (Rd.fr HA.out hF hB (fun ad e hl => HN.out ad e (by simpa using hl))) hlt
      have HS := Lib.hid (valid_succ ks hlt)
      have HP := Lib.hid (putN_succ f ks hlt)
      have hbd := Lib.hid (putN_le HM.out (ks.take k))
      generalize ks[k]?.getD 0 = x at *
      generalize putN f (ks.take k) = fk at *
      cases hx : isK x
      · have HX := Lib.hid hx
        clear hx
        have HC := Lib.hid (cmay_no wr ⟨g, 0, none⟩ x (isK_false HX.out))
        go_wp2_with (go_at_call 57; refine HC.out.mono ?_; rintro e w2 ⟨rfl, rfl⟩)
        go_roundw
        case rel => exact ⟨k + 1, by omega, by go_num, by rw [HS.out, HX.out]; simp, by rw [HP.out, put1, HX.out]; exact hg, hF⟩
        case measure => simp [intOf]; omega
      · obtain ⟨n, rfl, hn⟩ := isK_true hx
        have HX := Lib.hid hx
        clear hx
        have HC := Lib.hid (cmay_yes wr ⟨g, 0, none⟩ n hn)
        have h1 := hg.cell hn
        have h2 := hg.free n
        have hlt2 : fk n ≤ 1000000 := by
          have := hbd.out n
          have := List.length_take_le k ks
          omega
        have hset := Lib.hid (hg.set n (fk n + 1) (x := (fk n : Int) + 1) (by omega))
        have hFs := Lib.hid (hF.set ⟨g, n, none⟩ (.int .i64 ((fk n : Int) + 1)) (fun _ => rfl))
        clear hg
        go_wp2_with (go_at_call 57; refine HC.out.mono ?_; rintro e w2 ⟨rfl, rfl⟩)
        go_region
        all_goals
          go_wp2
          exact ⟨⟨k + 1, by omega, by go_num, by rw [HS.out, HX.out]; simp, by rw [HP.out, put1, HX.out]; simpa using hset.out.drew, hFs.out.drew⟩, by simp [intOf]; omega⟩
    · obtain rfl : k = ks.length := by omega
      rw [List.take_of_length_le (Nat.le_refl _)] at *
      go_wp2
      go_ret
      exact ⟨rfl, hg, hF⟩
end Go.Proofs.YteifdbfaclpcdaaR
