/- The reference gunnyref02. -/
import Derived.Test.YtcbfaahnhdmagaaDoorBtsE
import Derived.BigQuiet
namespace Go.Proofs.YtcbfaahnhdmagaaDoor
open Go.RowKit

theorem bool_info2 : (Tryd.prog.info? 4).map (fun i => (i.zero, i.size, i.bytes)) = some (some (.bool false), 1, 1) := by kernel_rfl
def bools (f : Nat → Bool) (n : Nat) : List Value := (List.range n).map fun k => Value.bool (f k)
theorem bools_length (f : Nat → Bool) (n : Nat) : (bools f n).length = n := by simp [bools]
theorem bools_get {f : Nat → Bool} {n k : Nat} (h : k < n) : (bools f n)[k]? = some (.bool (f k)) := by simp [bools, h]
theorem bools_one (f : Nat → Bool) (n : Nat) : ∀ u ∈ bools f n, u.oneCell' = true := by
  intro u hu
  obtain ⟨k, _, rfl⟩ := List.mem_map.1 hu
  rfl
theorem bools_set (f : Nat → Bool) (n k : Nat) (b : Bool) : (bools f n).set k (.bool b) = bools (updB f k b) n := by
  apply List.ext_getElem?
  intro i
  rw [List.getElem?_set]
  simp only [bools, List.length_map, List.length_range, List.getElem?_map, updB]
  by_cases hi : k = i
  · subst hi
    by_cases hk : k < n
    · simp [hk]
    · simp [hk]
  · simp only [hi, if_false]
    by_cases hk : i < n
    · have : ¬ i = k := fun e => hi e.symm
      simp [hk, this]
    · simp [hk]
/-- A set as the reference has it. -/
def RefB (w : World) (base : Nat) (v : Value) (f : Nat → Bool) (n : Nat) : Prop := w.ownsRow base 4 1 v n (bools f n)
theorem rdG {w : World} {base n c : Nat} {e : TypeId} {A : Option Addr} {xs : List Value} (h : w.ownsRow base e 1 (.slice A n c) n xs) : Rd w w.heap.size A xs := by
  intro k u hu
  have hk : k < n := by
    have := (List.getElem?_eq_some_iff.1 hu).1
    have h1 := h.1
    omega
  obtain ⟨b, cap, hv, hbb, hbl⟩ := World.ownsRow.form h (by omega)
  injection hv with hv1 hv2 hv3
  subst hv1 hv3
  have e : ((⟨b, 0, none⟩ : Addr).add k) = ⟨b, k, none⟩ := by unfold Addr.add; split <;> simp_all
  exact ⟨_, rfl, hbl, by rw [e, World.ownsRow.cellAt h k (by omega)]; exact hu⟩
theorem RefB.cell {w : World} {base n : Nat} {v : Value} {f : Nat → Bool} (h : RefB w base v f n) {k : Nat} (hk : k < n) : ∃ b c, v = .slice (some ⟨b, 0, none⟩) n c ∧ b < w.heap.size ∧ w.cell? ⟨b, k, none⟩ = some (.bool (f k)) := by
  obtain ⟨b, cap, hv, hbb, hbl⟩ := World.ownsRow.form (h : w.ownsRow _ _ _ _ _ _) (by omega)
  subst hv
  exact ⟨b, cap, rfl, hbl, (World.ownsRow.cellAt (h : w.ownsRow _ _ _ _ _ _) k (by omega)).trans (bools_get hk)⟩

set_option maxHeartbeats 1000000 in
set_option maxRecDepth 100000 in
theorem refNew_any (w : World) (n : Int) :
    Calls Tryd.prog 18 #[.int .i64 n] w fun e w' => ∃ A c, e = .returned (.slice A (newSize n) c) ∧ RefB w' w.heap.size (.slice A (newSize n) c) (fun _ => false) (newSize n) ∧ Below w.heap.size w w' := by
  obtain ⟨size, hs⟩ : ∃ size, newSize n = size := ⟨_, rfl⟩
  rw [hs]
  have hs2 : size = (max 0 (min 4096 n)).toNat := hs.symm
  have hle : size ≤ 4096 := by omega
  have hmk := Go.run_make_row' (P := Tryd.prog) 35 4 (.bool false) 1 Tryd.underlying35 bool_info2 rfl .i64 .i64 size (by omega) (by omega)
  have hcase : (n < 0 ∧ size = 0) ∨ (0 ≤ n ∧ n ≤ 4096 ∧ n = size) ∨ (4096 < n ∧ size = 4096) := by omega
  clear hs hs2
  have HN : Hid (∀ W : World, RefB (W.alloc (.cells (madeCells #[.bool false] size) 4)) W.heap.size (.slice (some ⟨W.heap.size, 0, none⟩) size size) (fun _ => false) size) := fun W => by
    have h := World.ownsRow_lit (base := W.heap.size) (e := 4) (size := 1) W (madeCells #[.bool false] size) size (Nat.le_refl _) (by simp [maxLen]; omega) (by simp [madeCells])
    have e : (madeCells #[.bool false] size).toList = bools (fun _ => false) size := by
      simp only [madeCells, bools]
      apply List.ext_getElem?
      intro i
      simp [Nat.mod_one]
      try rfl
    rw [e] at h
    exact h
  rcases hcase with ⟨hn, rfl⟩ | ⟨hn, hn2, rfl⟩ | ⟨hn, rfl⟩
  · have hmk0 : ∀ w, (Instr.makeSlice 35 (.int .i64 0) (.int .i64 0)).run Tryd.prog w = _ := hmk
    clear hmk
    go_enter Tryd.func18, Tryd.ntmps18
    go_wp2
    go_ret
    exact ⟨_, _, rfl, HN.out w, (Below.refl _ _).alloc (Nat.le_refl _) _⟩
  · go_enter Tryd.func18, Tryd.ntmps18
    go_wp2
    go_ret
    exact ⟨_, _, rfl, HN.out w, (Below.refl _ _).alloc (Nat.le_refl _) _⟩
  · have hmk0 : ∀ w, (Instr.makeSlice 35 (.int .i64 4096) (.int .i64 4096)).run Tryd.prog w = _ := hmk
    clear hmk
    go_enter Tryd.func18, Tryd.ntmps18
    go_wp2
    go_ret
    exact ⟨_, _, rfl, HN.out w, (Below.refl _ _).alloc (Nat.le_refl _) _⟩

/-- A set with a number in it, or out of it. -/
def didB (f : Nat → Bool) (size : Nat) (n : Int) (b : Bool) : Bool := mayB size n && (f n.toNat != b)
def putF (f : Nat → Bool) (size : Nat) (n : Int) (b : Bool) : Nat → Bool := if didB f size n b then updB f n.toNat b else f

set_option maxHeartbeats 2000000 in
set_option maxRecDepth 100000 in
theorem refWith_no {w : World} {base size c : Nat} {A : Option Addr} {f : Nat → Bool} (h : RefB w base (.slice A size c) f size) (n : Int) (b : Bool) (hd : didB f size n b = false) :
    Calls Tryd.prog 20 #[.slice A size c, .int .i64 n, .bool b] w fun e w' => e = .returned (.tuple #[.slice A size c, .bool false]) ∧ w = w' := by
  rcases Int.lt_or_le n 0 with h0 | h0
  · clear hd h
    go_enter Tryd.func20, Tryd.ntmps20
    go_wp2
    go_ret2
    exact ⟨rfl, rfl⟩
  · obtain ⟨k, rfl⟩ : ∃ k : Nat, n = k := ⟨n.toNat, by omega⟩
    rcases Nat.lt_or_ge k size with hk | hk
    · obtain ⟨bl, c', hv, hb1, hc⟩ := h.cell hk
      injection hv with hv1 _ hv3
      subst hv1 hv3
      have hfb : f k = b := by
        unfold didB at hd
        rw [mayB_nat hk] at hd
        simpa using hd
      rw [hfb] at hc
      have hkn : ¬ (size : Int) ≤ k := by omega
      clear hd h hfb
      have hbb : (b == b) = true := by simp
      go_enter Tryd.func20, Tryd.ntmps20
      go_wp2
      go_ret2
      exact ⟨rfl, rfl⟩
    · have hkn : (size : Int) ≤ k := by omega
      clear hd h
      go_enter Tryd.func20, Tryd.ntmps20
      go_wp2
      go_ret2
      exact ⟨rfl, rfl⟩
set_option maxHeartbeats 2000000 in
set_option maxRecDepth 100000 in
theorem refWith_did {w : World} {base size c : Nat} {A : Option Addr} {f : Nat → Bool} (h : RefB w base (.slice A size c) f size) (hsz : size ≤ 4096) {k : Nat} (hk : k < size) (b : Bool) (hf : (f k == b) = false) :
    Calls Tryd.prog 20 #[.slice A size c, .int .i64 k, .bool b] w fun e w' => ∃ A' c', e = .returned (.tuple #[.slice A' size c', .bool true]) ∧ RefB w' w.heap.size (.slice A' size c') (updB f k b) size ∧ Below w.heap.size w w' := by
  obtain ⟨i0, hi0, hz0, hz1, hz2⟩ := info_parts bool_info2
  obtain ⟨bl, c', hv, hb1, hc⟩ := h.cell hk
  injection hv with hv1 _ hv3
  subst hv1 hv3
  have hkn : ¬ (size : Int) ≤ k := by omega
  have E1 : Hid ((w.alloc (.cells #[] 4)).ownsRow w.heap.size 4 1 (.slice (some ⟨w.heap.size, 0, none⟩) 0 0) 0 []) := World.ownsRow_made w #[] 0 (Nat.le_refl _) (by decide) rfl
  have R1 : Hid (Rd (w.alloc (.cells #[] 4)) w.heap.size (some ⟨bl, 0, none⟩) (bools f size)) := Rd.below (rdG (h : w.ownsRow _ _ _ _ _ _)) ((Below.refl _ _).alloc (Nat.le_refl _) _)
  have HS := Lib.hid (bools_set f size k b)
  have hlen := bools_length f size
  clear h
  go_enter Tryd.func20, Tryd.ntmps20
  go_wp2_with (at_builtin; refine wpList_append_rd rfl (.tmp 26) (.tmp 27) 35 rfl w.heap.size 4 i0 (.bool false) 1 Tryd.underlying35 hi0 hz0 hz1 hz2 rfl (.slice (some ⟨w.heap.size, 0, none⟩) 0 0) 0 _ rfl E1.out _ (some ⟨bl, 0, none⟩) size c (bools f size) rfl hlen.symm R1.out (bools_one f size) (by simp [maxLen, hlen]; omega) (by simp [hlen]; omega) (by simp) ?_; intro v3 w3 hown0 hg hat; have hown3 : RefB w3 w.heap.size v3 f size := (by simpa [RefB, hlen] using hown0); obtain ⟨b3, c3, hv3, hb3, hc3⟩ := hown3.cell hk; subst hv3; have hf3 := World.ownsRow.frozenAt (hown3 : w3.ownsRow _ _ _ _ _ _) k; have HO := Lib.hid hown3; clear hown3 hown0)
  go_ret2
  have hst := World.ownsRow.stored (HO.out : w3.ownsRow _ _ _ _ _ _) k (.bool b)
  have hlo := (World.ownsRow.lt (HO.out : w3.ownsRow _ _ _ _ _ _) b3 rfl).1
  have hF : Fr (fun _ => False) w w3 := ((Fr.refl _ w).alloc _).grown hg (fun q hq hq2 => by simp [Value.ownBlock] at hq; omega)
  refine ⟨_, _, rfl, ?_, (hF.below (Nat.le_refl _) fun _ _ => id).setCell (by exact hlo) _⟩
  have := hst.1
  rw [HS.out] at this
  exact this

set_option maxHeartbeats 2000000 in
set_option maxRecDepth 100000 in
theorem refFirst_none {w : World} {base size c : Nat} {A : Option Addr} {f : Nat → Bool} (h : RefB w base (.slice A size c) f size) (hsz : size ≤ 4096) (hl : ∀ j, j < size → f j = true) :
    Calls Tryd.prog 21 #[.slice A size c] w fun e w' => e = .returned (.tuple #[.int .i64 0, .bool false]) ∧ w = w' := by
  have H := Lib.hid h
  have HL := Lib.hid hl
  clear h hl
  go_enter Tryd.func21, Tryd.ntmps21
  go_wp2
  go_loop [4] (fun j => ∃ n : Nat, n ≤ size ∧ j = .int .i64 n) (fun j => size - (intOf j).toNat)
  case atStart => exact ⟨0, Nat.zero_le _, rfl⟩
  case round =>
    obtain ⟨n, hn, rfl⟩ := hrel
    rcases Nat.lt_or_ge n size with hlt | hge
    · obtain ⟨b, c', hv, hb1, hc⟩ := H.out.cell hlt
      injection hv with hv1 _ hv3
      subst hv1 hv3
      rw [HL.out n hlt] at hc
      go_wp2
      go_round
      case rel => exact ⟨n + 1, by omega, by go_num⟩
      case measure => simp [intOf]; omega
    · go_wp2
      go_ret2
      exact ⟨rfl, rfl⟩
set_option maxHeartbeats 2000000 in
set_option maxRecDepth 100000 in
theorem refFirst_some {w : World} {base size c k : Nat} {A : Option Addr} {f : Nat → Bool} (h : RefB w base (.slice A size c) f size) (hsz : size ≤ 4096) (hk : k < size) (hf : f k = false) (hl : ∀ j, j < k → f j = true) :
    Calls Tryd.prog 21 #[.slice A size c] w fun e w' => e = .returned (.tuple #[.int .i64 k, .bool true]) ∧ w = w' := by
  have H := Lib.hid h
  have HL := Lib.hid hl
  have HF := Lib.hid hf
  clear h hl hf
  go_enter Tryd.func21, Tryd.ntmps21
  go_wp2
  go_loop [4] (fun j => ∃ n : Nat, n ≤ k ∧ j = .int .i64 n) (fun j => size - (intOf j).toNat)
  case atStart => exact ⟨0, Nat.zero_le _, rfl⟩
  case round =>
    obtain ⟨n, hn, rfl⟩ := hrel
    have hlt : n < size := by omega
    obtain ⟨b, c', hv, hb1, hc⟩ := H.out.cell hlt
    injection hv with hv1 _ hv3
    subst hv1 hv3
    rcases Nat.lt_or_ge n k with h2 | h2
    · rw [HL.out n h2] at hc
      go_wp2
      go_round
      case rel => exact ⟨n + 1, by omega, by go_num⟩
      case measure => simp [intOf]; omega
    · obtain rfl : n = k := by omega
      rw [HF.out] at hc
      go_wp2
      go_ret2
      exact ⟨rfl, rfl⟩
set_option maxHeartbeats 2000000 in
set_option maxRecDepth 100000 in
theorem refAll_any {w : World} {base size c : Nat} {A : Option Addr} {f : Nat → Bool} (h : RefB w base (.slice A size c) f size) (hsz : size ≤ 4096) :
    Calls Tryd.prog 42 #[.slice A size c] w fun e w' => ∃ A' c', e = .returned (.slice A' (memI f size).length c') ∧ OwnI w' w.heap.size (.slice A' (memI f size).length c') (memI f size) ∧ Below w.heap.size w w' := by
  obtain ⟨i0, hi0, hz0, hz1, hz2⟩ := info_parts int_info
  have H := Lib.hid h
  clear h
  go_enter Tryd.func42, Tryd.ntmps42
  go_wp2
  go_loopw [3, 4] (fun v j wr => ∃ n : Nat, n ≤ size ∧ j = .int .i64 n ∧ OwnI wr w.heap.size v (memI f n) ∧ Below w.heap.size w wr) (fun _ j _ => size - (intOf j).toNat)
  case atStart => exact ⟨0, Nat.zero_le _, rfl, World.ownsRow_nil _ _ _ _, Below.refl _ _⟩
  case round =>
    obtain ⟨n, hn, rfl, hO, hB⟩ := hrel
    obtain ⟨Ao, co, rfl⟩ := owns_form hO
    have HM1 := Lib.hid (memI_succ f n)
    have hml := memI_length f n
    have hml2 := cntB_le f n
    have hz := hB.size
    rcases Nat.lt_or_ge n size with hlt | hge
    · obtain ⟨b, c', hv, hb1, hc0⟩ := H.out.cell hlt
      injection hv with hv1 _ hv3
      subst hv1 hv3
      have hc : wr.cell? ⟨b, n, none⟩ = some (.bool (f n)) := (hB.cell (p := ⟨b, n, none⟩) hb1).trans hc0
      clear hc0
      cases hf : f n
      · rw [hf] at HM1 hc
        go_wp2
        go_roundw
        case rel => exact ⟨n + 1, by omega, by go_num, by rw [HM1.out]; simpa using hO, hB⟩
        case measure => simp [intOf]; omega
      · rw [hf] at HM1 hc
        have HO3 : Hid ((wr.alloc (.cells #[.int .i64 (n : Int)] 3)).ownsRow w.heap.size 3 1 (.slice Ao (memI f n).length co) (memI f n).length ((memI f n).map (Value.int .i64))) := (hO : wr.ownsRow _ _ _ _ _ _).alloc _
        have HR3 : Hid (Rd (wr.alloc (.cells #[.int .i64 (n : Int)] 3)) (wr.heap.size + 1) (some ⟨wr.heap.size, 0, none⟩) ([(n : Int)].map (Value.int .i64))) := rd_lit wr [(n : Int)] rfl
        generalize memI f n = L at *
        go_wp2_with (at_builtin; refine wpList_append_rd rfl (.tmp 15) (.tmp 17) 26 rfl w.heap.size 3 i0 (.int .i64 0) 8 Tryd.underlying26 hi0 hz0 hz1 hz2 rfl (.slice Ao L.length co) L.length _ rfl HO3.out _ (some ⟨wr.heap.size, 0, none⟩) 1 1 ([(n : Int)].map (Value.int .i64)) rfl rfl HR3.out (oneI _) (by simp [maxLen]; omega) (by simp; omega) (by simp; omega) ?_; intro v3 w3 hown hg hat)
        have hF3 : Fr (fun b => (Value.slice Ao L.length co).ownBlock = some b) wr w3 := ((Fr.refl _ wr).alloc _).grown hg fun b hb _ => hb
        go_roundw
        case rel => exact ⟨n + 1, by omega, by go_num, by rw [HM1.out]; simpa [OwnI] using hown, hB.trans (hF3.below hB.size fun q hq hq2 => by have := (World.ownsRow.lt hO q hq2).1; omega)⟩
        case measure => simp [intOf]; omega
    · obtain rfl : n = size := by omega
      go_wp2
      go_ret
      exact ⟨_, _, rfl, hO, hB⟩
set_option maxHeartbeats 2000000 in
set_option maxRecDepth 100000 in
theorem refInts_any {w : World} {B1 B2 c1 c2 : Nat} {A1 A2 : Option Addr} {l : List Int} (h1 : RdI w B1 A1 l) (h2 : RdI w B2 A2 l) (hl : l.length ≤ 5000) :
    Calls Tryd.prog 43 #[.slice A1 l.length c1, .slice A2 l.length c2] w fun e w' => e = .returned (.bool true) ∧ ∃ m, w' = w.drewN m := by
  have H1 := Lib.hid h1
  have H2 := Lib.hid h2
  clear h1 h2
  go_enter Tryd.func43, Tryd.ntmps43
  go_wp2
  go_loopw [5] (fun j wr => ∃ n m : Nat, n ≤ l.length ∧ j = .int .i64 n ∧ wr = w.drewN m) (fun j _ => l.length - (intOf j).toNat)
  case atStart => exact ⟨0, 0, Nat.zero_le _, rfl, rfl⟩
  case round =>
    obtain ⟨n, m, hn, rfl, rfl⟩ := hrel
    rcases Nat.lt_or_ge n l.length with hlt | hge
    · obtain ⟨a1, rfl, _, e1⟩ := H1.out.at_ hlt
      obtain ⟨a2, rfl, _, e2⟩ := H2.out.at_ hlt
      generalize l[n]?.getD 0 = z at *
      have hzz : (z != z) = false := by simp
      go_upto_region 6 with fail
      go_quiet (fail)
      go_wp2
      go_roundw
      case rel => exact ⟨n + 1, _, by omega, by go_num, rfl⟩
      case measure => simp [intOf]; omega
    · go_wp2
      go_ret
      exact ⟨rfl, _, rfl⟩
end Go.Proofs.YtcbfaahnhdmagaaDoor
