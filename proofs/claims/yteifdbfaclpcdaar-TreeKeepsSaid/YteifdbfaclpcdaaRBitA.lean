/- Contracts of package bits: a set of small numbers. -/
import Derived.Test.YteifdbfaclpcdaaRProg
import Derived.Test.YteifdbfaclpcdaaRGy
import Derived.BigQuiet
import Derived.Laws.Bits64b
import Derived.Deep.QuietTactic
namespace Go.Proofs.YteifdbfaclpcdaaR
open Go.RowKit

theorem bits_has (x j : Nat) (hx : x < 2 ^ 64) : (bits BinOp.and IntKind.u64 ((x : Int) / 2 ^ j) 1 == 1) = x.testBit j := by
  have e : ((x : Int) / 2 ^ j) = ((x / 2 ^ j : Nat) : Int) := by rw [Int.natCast_ediv]; norm_cast
  have hle : x / 2 ^ j ≤ x := Nat.div_le_self _ _
  rw [e, show (1 : Int) = ((1 : Nat) : Int) from rfl, bits_and_u64_nat _ _ (by omega) (by omega), Nat.and_one_is_mod, Nat.testBit_eq_decide_div_mod_eq]
  rcases Nat.mod_two_eq_zero_or_one (x / 2 ^ j) with h | h <;> simp [h]
theorem bits_put (x j : Nat) (hx : x < 2 ^ 64) (hj : j < 64) : bits BinOp.or IntKind.u64 x (IntKind.u64.wrap (2 ^ j)) = ((x ||| 2 ^ j : Nat) : Int) ∧ x ||| 2 ^ j < 2 ^ 64 := by
  have hp : 2 ^ j < 2 ^ 64 := Nat.pow_lt_pow_right (by omega) hj
  have e : ((2 : Int) ^ j) = ((2 ^ j : Nat) : Int) := by norm_cast
  rw [e]
  generalize 2 ^ j = P at *
  rw [IntWalk.u64_in _ (by omega), bits_or_u64_nat _ _ (by omega) (by omega)]
  exact ⟨rfl, Nat.or_lt_two_pow hx hp⟩
/-- A word with a bit taken out. -/
def noBit (x j : Nat) : Nat := (bits BinOp.andNot IntKind.u64 x (2 ^ j : Nat)).toNat
theorem bits_no (x j : Nat) (hx : x < 2 ^ 64) (hj : j < 64) : bits BinOp.andNot IntKind.u64 x (2 ^ j : Nat) = (noBit x j : Int) ∧ noBit x j < 2 ^ 64 ∧ ∀ i, (noBit x j).testBit i = (x.testBit i && !decide (i = j)) := by
  have hp : 2 ^ j < 2 ^ 64 := Nat.pow_lt_pow_right (by omega) hj
  have h1 : (BitVec.ofInt 64 (x : Int)) = BitVec.ofNat 64 x := BitVec.ofInt_natCast ..
  have h2 : (BitVec.ofInt 64 ((2 ^ j : Nat) : Int)) = BitVec.ofNat 64 (2 ^ j) := BitVec.ofInt_natCast ..
  have hb : bits BinOp.andNot IntKind.u64 x (2 ^ j : Nat) = ((BitVec.ofNat 64 x &&& ~~~ BitVec.ofNat 64 (2 ^ j)).toNat : Int) := by
    have hlt := (BitVec.ofNat 64 x &&& ~~~ BitVec.ofNat 64 (2 ^ j)).isLt
    show IntKind.u64.wrap _ = _
    simp only [IntKind.bits, h1, h2]
    exact IntWalk.u64_in _ (by omega)
  have hn : noBit x j = (BitVec.ofNat 64 x &&& ~~~ BitVec.ofNat 64 (2 ^ j)).toNat := by
    unfold noBit
    rw [hb]
    simp
  have hlt := (BitVec.ofNat 64 x &&& ~~~ BitVec.ofNat 64 (2 ^ j)).isLt
  refine ⟨by rw [hn]; exact hb, by rw [hn]; exact hlt, fun i => ?_⟩
  rw [hn, ← BitVec.getLsbD, BitVec.getLsbD_and, BitVec.getLsbD_not]
  by_cases hi : i < 64
  · simp [hi, BitVec.getLsbD, Nat.testBit_two_pow, Nat.mod_eq_of_lt hx, Nat.mod_eq_of_lt hp]
    by_cases hij : i = j <;> simp [hij]
    intro _; omega
  · have : x.testBit i = false := Nat.testBit_lt_two_pow (Nat.lt_of_lt_of_le hx (Nat.pow_le_pow_right (by omega) (by omega)))
    simp [hi, this]

/-- The words of a set. -/
def bitCells (wd : Nat → Nat) (nw : Nat) : Array Value := ((List.range nw).map fun i => Value.int .u64 (wd i)).toArray
/-- A set at block g whose words lie in block gw. -/
structure SetAt (w : World) (g gw : Nat) (wd : Nat → Nat) (size many : Nat) : Prop where
  top : Bk w g 130 #[.slice (some ⟨gw, 0, none⟩) ((size + 63) / 64) ((size + 63) / 64), .int .i64 size, .int .i64 many]
  row : Bk w gw 40 (bitCells wd ((size + 63) / 64))
  ne : g ≠ gw
  bits : ∀ i, wd i < 2 ^ 64
  size_le : size ≤ 4096
  many_le : many ≤ size
def hasB (wd : Nat → Nat) (n : Nat) : Bool := (wd (n / 64)).testBit (n % 64)

theorem setSize_any {w : World} {g gw : Nat} {wd : Nat → Nat} {size many : Nat} (h : SetAt w g gw wd size many) :
    Calls Try.prog 85 #[.pointer (some ⟨g, 0, none⟩)] w fun e w' => e = .returned (.int .i64 size) ∧ w = w' := by
  have h0 : w.cell? ⟨g, 1, none⟩ = some (.int .i64 size) := Bk.cell h.top 1
  go_enter Try.func85, Try.ntmps85
  go_wp2
  go_ret
  exact ⟨rfl, rfl⟩
theorem setLen_any {w : World} {g gw : Nat} {wd : Nat → Nat} {size many : Nat} (h : SetAt w g gw wd size many) :
    Calls Try.prog 66 #[.pointer (some ⟨g, 0, none⟩)] w fun e w' => e = .returned (.int .i64 many) ∧ w = w' := by
  have h0 : w.cell? ⟨g, 2, none⟩ = some (.int .i64 many) := Bk.cell h.top 2
  go_enter Try.func66, Try.ntmps66
  go_wp2
  go_ret
  exact ⟨rfl, rfl⟩
/-- May a number be in a set? -/
def mayB (size : Nat) (n : Int) : Bool := decide (0 ≤ n) && decide (n < size)
theorem mayB_true {size : Nat} {n : Int} (h : mayB size n = true) : ∃ k : Nat, n = k ∧ k < size := by
  simp [mayB] at h
  exact ⟨n.toNat, by omega, by omega⟩
theorem mayB_false {size : Nat} {n : Int} (h : mayB size n = false) : n < 0 ∨ (∃ k : Nat, n = k ∧ size ≤ k) := by
  rcases Int.lt_or_le n 0 with h0 | h0
  · exact .inl h0
  · right
    simp [mayB] at h
    exact ⟨n.toNat, by omega, by omega⟩
theorem setMay_any {w : World} {g gw : Nat} {wd : Nat → Nat} {size many : Nat} (h : SetAt w g gw wd size many) (n : Int) :
    Calls Try.prog 79 #[.pointer (some ⟨g, 0, none⟩), .int .i64 n] w fun e w' => e = .returned (.bool (mayB size n)) ∧ w = w' := by
  have HS := Lib.hid (setSize_any h)
  rcases Int.lt_or_le n 0 with h0 | h0
  · have HM : Hid (mayB size n = false) := by show _ = _; simp [mayB]; omega
    clear h
    go_enter Try.func79, Try.ntmps79
    go_wp2
    go_ret
    exact ⟨ret_bool HM.out.symm, rfl⟩
  · have HM : Hid (mayB size n = decide (n < size)) := by show _ = _; simp [mayB, h0]
    clear h
    go_enter Try.func79, Try.ntmps79
    go_wp2_with (go_at_call 85; refine HS.out.mono ?_; rintro e w2 ⟨rfl, rfl⟩)
    go_ret
    exact ⟨ret_bool HM.out.symm, rfl⟩

theorem setHas_any {w : World} {g gw : Nat} {wd : Nat → Nat} {size many : Nat} (h : SetAt w g gw wd size many) (n : Int) :
    Calls Try.prog 63 #[.pointer (some ⟨g, 0, none⟩), .int .i64 n] w fun e w' => e = .returned (.bool (mayB size n && hasB wd n.toNat)) ∧ w = w' := by
  have HS := Lib.hid (setMay_any h n)
  cases hm : mayB size n
  · rw [hm] at HS
    clear hm h
    go_enter Try.func63, Try.ntmps63
    go_wp2_with (go_at_call 79; refine HS.out.mono ?_; rintro e w2 ⟨rfl, rfl⟩)
    go_ret
    exact ⟨rfl, rfl⟩
  · rw [hm] at HS
    obtain ⟨k, rfl, hk⟩ := mayB_true hm
    clear hm
    have h0 : w.cell? ⟨g, 0, none⟩ = some (.slice (some ⟨gw, 0, none⟩) ((size + 63) / 64) ((size + 63) / 64)) := Bk.cell h.top 0
    have hq : k / 64 < (size + 63) / 64 := by omega
    have h1 : w.cell? ⟨gw, k / 64, none⟩ = some (.int .u64 (wd (k / 64))) := (Bk.cell h.row (k / 64)).trans (by simp [bitCells, hq])
    have hb := h.bits (k / 64)
    have hsz := h.size_le
    generalize (size + 63) / 64 = nw at *
    clear h
    go_enter Try.func63, Try.ntmps63
    go_wp2_with (go_at_call 79; refine HS.out.mono ?_; rintro e w2 ⟨rfl, rfl⟩)
    go_ret
    exact ⟨ret_bool (by rw [bits_has _ _ hb]; simp [hasB]), rfl⟩

def updW (wd : Nat → Nat) (q v : Nat) : Nat → Nat := fun i => if i = q then v else wd i
theorem bitCells_set (wd : Nat → Nat) (nw q v : Nat) : (bitCells wd nw).setIfInBounds q (.int .u64 v) = bitCells (updW wd q v) nw := by
  apply Array.ext'
  simp only [bitCells, List.setIfInBounds_toArray]
  apply List.ext_getElem?
  intro i
  rw [List.getElem?_set]
  simp only [List.length_map, List.length_range, List.getElem?_map, updW]
  by_cases hi : i < nw
  · by_cases hk : q = i
    · subst hk; simp [hi]
    · simp [hi, hk, Ne.symm hk]
  · have : (List.range nw)[i]? = none := by simp; omega
    simp [this]
    intro _; omega
theorem SetAt.fr {S : Nat → Prop} {w w' : World} {g gw : Nat} {wd : Nat → Nat} {size many : Nat} (h : SetAt w g gw wd size many) (hf : Fr S w w') (h1 : ¬ S g) (h2 : ¬ S gw) : SetAt w' g gw wd size many :=
  ⟨h.top.fr hf h1, h.row.fr hf h2, h.ne, h.bits, h.size_le, h.many_le⟩
theorem SetAt.drew {w : World} {g gw : Nat} {wd : Nat → Nat} {size many : Nat} (h : SetAt w g gw wd size many) : SetAt w.drew g gw wd size many := h.fr ((Fr.refl (fun _ => False) w).drew) id id
theorem hasB_put (wd : Nat → Nat) (n m : Nat) : hasB (updW wd (n / 64) (wd (n / 64) ||| 2 ^ (n % 64))) m = (hasB wd m || decide (m = n)) := by
  unfold hasB updW
  by_cases hq : m / 64 = n / 64
  · rw [if_pos hq, Nat.testBit_or, Nat.testBit_two_pow, hq]
    congr 1
    have : (n % 64 = m % 64) ↔ (m = n) := by omega
    simp [this]
  · rw [if_neg hq]
    have : ¬ m = n := fun e => hq (by rw [e])
    simp [this]
theorem hasB_drop (wd : Nat → Nat) (hb : ∀ i, wd i < 2 ^ 64) (n m : Nat) : hasB (updW wd (n / 64) (noBit (wd (n / 64)) (n % 64))) m = (hasB wd m && !decide (m = n)) := by
  unfold hasB updW
  by_cases hq : m / 64 = n / 64
  · rw [if_pos hq, (bits_no _ _ (hb _) (Nat.mod_lt _ (by omega))).2.2, hq]
    congr 2
    have : (m % 64 = n % 64) ↔ (m = n) := by omega
    simp [this]
  · rw [if_neg hq]
    have : ¬ m = n := fun e => hq (by rw [e])
    simp [this]

theorem SetAt.store {w : World} {g gw : Nat} {wd : Nat → Nat} {size many : Nat} (h : SetAt w g gw wd size many) (q v m : Nat) {z : Int} (hz : z = m) (hv : v < 2 ^ 64) (hm : m ≤ size) :
    SetAt ((w.setCell ⟨gw, q, none⟩ (.int .u64 v)).setCell ⟨g, 2, none⟩ (.int .i64 z)) g gw (updW wd q v) size m ∧ Fr (fun k => k = g ∨ k = gw) w ((w.setCell ⟨gw, q, none⟩ (.int .u64 v)).setCell ⟨g, 2, none⟩ (.int .i64 z)) := by
  subst hz
  have f1 : Fr (fun k => k = gw) w (w.setCell ⟨gw, q, none⟩ (.int .u64 v)) := (Fr.refl _ w).set _ _ (fun _ => rfl)
  have f2 : Fr (fun k => k = g) (w.setCell ⟨gw, q, none⟩ (.int .u64 v)) ((w.setCell ⟨gw, q, none⟩ (.int .u64 v)).setCell ⟨g, 2, none⟩ (.int .i64 m)) := (Fr.refl _ _).set _ _ (fun _ => rfl)
  have t1 := (h.top.fr f1 h.ne).set 2 (.int .i64 m)
  have r1 := (h.row.set q (.int .u64 v)).fr f2 (fun e => h.ne e.symm)
  rw [bitCells_set] at r1
  refine ⟨⟨t1, r1, h.ne, fun i => ?_, h.size_le, hm⟩, (f1.mono fun k _ e => .inr e).trans f2 fun k _ e => .inl e⟩
  unfold updW
  split
  · exact hv
  · exact h.bits i

set_option maxHeartbeats 1000000 in
/-- Put, of a number that may be in it and isn't. -/
theorem setPut_new {w : World} {g gw : Nat} {wd : Nat → Nat} {size many : Nat} (h : SetAt w g gw wd size many) {n : Nat} (hn : n < size) (hh : hasB wd n = false) (hm : many < size) :
    Calls Try.prog 64 #[.pointer (some ⟨g, 0, none⟩), .int .i64 n] w fun e w' => e = .returned (.bool true) ∧ SetAt w' g gw (updW wd (n / 64) (wd (n / 64) ||| 2 ^ (n % 64))) size (many + 1) ∧ Fr (fun k => k = g ∨ k = gw) w w' := by
  have hmay : mayB size n = true := by simp [mayB]; omega
  have HM := Lib.hid (setMay_any h n)
  have HH := Lib.hid (setHas_any h n)
  rw [hmay] at HM HH
  rw [show ((n : Int)).toNat = n from Int.toNat_natCast n, hh] at HH
  clear hmay hh
  have h0 : w.cell? ⟨g, 0, none⟩ = some (.slice (some ⟨gw, 0, none⟩) ((size + 63) / 64) ((size + 63) / 64)) := Bk.cell h.top 0
  have h2 : w.cell? ⟨g, 2, none⟩ = some (.int .i64 many) := Bk.cell h.top 2
  have hq : n / 64 < (size + 63) / 64 := by omega
  have h1 : w.cell? ⟨gw, n / 64, none⟩ = some (.int .u64 (wd (n / 64))) := (Bk.cell h.row (n / 64)).trans (by simp [bitCells, hq])
  have hb := h.bits (n / 64)
  have hsz := h.size_le
  have HT := Lib.hid h
  clear h
  generalize hnw : (size + 63) / 64 = nw at *
  have HNW := Lib.hid hnw
  clear hnw
  go_enter Try.func64, Try.ntmps64
  go_wp2_with (first
    | (go_at_call 79; refine HM.out.mono ?_; rintro e w2 ⟨rfl, rfl⟩)
    | (go_at_call 63; refine HH.out.mono ?_; rintro e w2 ⟨rfl, rfl⟩))
  obtain ⟨hV, hV2⟩ := bits_put (wd (n / 64)) (n % 64) hb (Nat.mod_lt _ (by omega))
  have hfr1 : w.frozen? ⟨gw, n / 64, none⟩ = false := Bk.free HT.out.row (n / 64)
  have hfr2 : w.frozen? ⟨g, 2, none⟩ = false := Bk.free HT.out.top 2
  have hne1 : g ≠ gw := HT.out.ne
  have hne2 : gw ≠ g := fun e => HT.out.ne e.symm
  have HST := Lib.hid (HT.out.store (n / 64) (wd (n / 64) ||| 2 ^ (n % 64)) (many + 1) (z := (many : Int) + 1) (by simp) hV2 hm)
  generalize hVV : wd (n / 64) ||| 2 ^ (n % 64) = V at *
  have HVV := Lib.hid hVV
  clear hVV
  go_region
  all_goals
    go_wp2
    go_ret
    exact ⟨rfl, by rw [HVV.out]; exact HST.out.1.drew, HST.out.2.drew⟩
end Go.Proofs.YteifdbfaclpcdaaR
