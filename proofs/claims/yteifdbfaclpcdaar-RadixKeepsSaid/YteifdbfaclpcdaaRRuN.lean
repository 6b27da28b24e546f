/- Radix: the document's Drop. -/
import Derived.Test.YteifdbfaclpcdaaRRuM
namespace Go.Proofs.YteifdbfaclpcdaaR.Ru
open Go.RowKit

theorem AtIs.hitF {L : Ks} {f : Nat → Option Value} {key : Int} {n : Nat} {b : Bool} (h : AtIs L key n b) (hL : Lists L f) :
    (b = true ∧ ∃ (k : Nat) (v : Value), key = k ∧ L[n]? = some (k, v) ∧ f k = some v) ∨ (b = false ∧ getF f key = none) := by
  rcases Int.lt_or_le key 0 with h0 | h0
  · refine .inr ⟨?_, ?_⟩
    · cases hn : L[n]? with
      | none => exact h.out hn
      | some e =>
        have := (h.here e hn).2
        rw [this]
        simp
        omega
    · unfold getF
      rw [if_neg (by omega)]
  · obtain ⟨k, rfl⟩ := Int.eq_ofNat_of_zero_le h0
    rcases AtIs.hit h hL with ⟨h1, v, h2, h3⟩ | ⟨h1, h2⟩
    · exact .inl ⟨h1, k, v, rfl, h2, h3⟩
    · refine .inr ⟨h1, ?_⟩
      have := getF_nat f k
      rw [h2] at this
      exact this
/-- What the document's Drop tells. -/
def KDropPost (w : World) (base : Nat) (A : Option Addr) (c : Nat) (L : Ks) (f : Nat → Option Value) (key : Int) (e : Ending) (w' : World) : Prop :=
  Below w.heap.size w w' ∧ ((getF f key = none ∧ e = .returned (.tuple #[.slice A L.length c, vZero, .bool false])) ∨
    ∃ (A' : Option Addr) (c' : Nat) (L' : Ks) (k : Nat) (v : Value), key = k ∧ f k = some v ∧ e = .returned (.tuple #[.slice A' L'.length c', v, .bool true]) ∧ KAt w' base (.slice A' L'.length c') L' ∧ Lists L' (updF f k none) ∧ L'.length + 1 = L.length)
set_option maxRecDepth 100000 in
set_option maxHeartbeats 4000000 in
theorem kDrop {w : World} {base c : Nat} {A : Option Addr} {L : Ks} {f : Nat → Option Value} (h : KAt w base (.slice A L.length c) L) (hbase : base ≤ w.heap.size) (hL : Lists L f) (hl : L.length ≤ 1000) (key : Int) :
    Calls Try.prog 46 #[.slice A L.length c, .int .i64 key] w (KDropPost w base A c L f key) := by
  obtain ⟨iW, zW, hiW, hzW, hsW, hbW, hcW⟩ := k_parts
  have HAt := Lib.hid (kAt (c := c) h.krd hl key)
  have HH := Lib.hid h
  have HL := Lib.hid hL
  have hcap := h.cap.2
  clear h hL
  go_enter Try.func46, Try.ntmps46
  go_wp2_with fail
  refine HAt.out.mono ?_
  rintro e w1 ⟨i, b, rfl, hi, m, rfl⟩
  have HI := Lib.hid hi
  have hile := hi.le
  have hz5 : w.heap.size ≤ (w.drewN m).heap.size := Nat.le_refl _
  have HH1 : Hid (KAt (w.drewN m) base (.slice A L.length c) L) := HH.out.below ((Fr.refl (fun _ => False) w).drewN m).below0
  have HB1 : Hid (Below w.heap.size w (w.drewN m)) := ((Fr.refl (fun _ => False) w).drewN m).below0
  rcases AtIs.hitF hi HL.out with ⟨rfl, k, v, rfl, hiv, hkv⟩ | ⟨rfl, hn⟩
  · clear HH hi HAt
    generalize w.drewN m = w1 at *
    have hil : i < L.length := (List.getElem?_eq_some_iff.1 hiv).1
    obtain ⟨g, o, rfl, hg, hc1, hc2⟩ := HH1.out.krd _ _ hiv
    obtain ⟨n, hn⟩ := HH1.out.ok _ (List.mem_of_getElem? hiv)
    simp only at hn hc2
    subst hn
    have HKV := Lib.hid hkv
    have cutF := fun W : World => run_frontK (w := W) (A := some ⟨g, o, none⟩) (n := L.length) (c := c) (k := i) (by omega)
    obtain ⟨AB, cB, cutB, hBk, -⟩ := run_backK (A := some ⟨g, o, none⟩) (n := L.length) (c := c) (k := i + 1) (lo := (i : Int) + 1) hil hcap (by omega)
    have HBk := Lib.hid hBk
    have HO1 : Hid ((w1.alloc (.cells #[] 80)).ownsRow base 80 2 (.slice (some ⟨w1.heap.size, 0, none⟩) 0 0) 0 []) :=
      World.ownsRow_made (base := base) (e := 80) (size := 2) w1 #[] 0 (by omega) (by decide) rfl
    have HR1 : Hid (Rd (w1.alloc (.cells #[] 80)) w1.heap.size (some ⟨g, o, none⟩) (kCells (L.take i))) := by
      show Rd _ _ _ _
      rw [← kCells_take]
      exact ((HH1.out.rd).below' ((Below.refl _ _).alloc (Nat.le_refl _) _) (Nat.le_refl _)).take _
    have h1 := Lib.hid (kOne (L := L.take i) fun e he => HH1.out.ok e (List.mem_of_mem_take he))
    have HWL : Hid ((kCells (L.take i)).length = i * 2) := by show _ = _; rw [kCells_len, List.length_take, Nat.min_eq_left (by omega)]
    clear hBk hiv hkv
    go_upto_region 5 with ((with_reducible refine wpList_dst 23 ?_); refine wpList_append_rn rfl (.tmp 19) (.tmp 22) 41 rfl base 80 iW zW 2 16 Try.underlying41 hiW hzW hsW hbW hcW (by omega) (.slice (some ⟨w1.heap.size, 0, none⟩) 0 0) 0 [] rfl HO1.out w1.heap.size (some ⟨g, o, none⟩) i c (kCells (L.take i)) rfl HWL.out HR1.out h1.out (by simp [maxLen]; omega) (by omega) (by simp; omega) ?_; intro v8 w8 hown8 hg8 hat8)
    have hB8 : Below w1.heap.size w1 w8 := ((Below.refl _ _).alloc (Nat.le_refl _) (.cells #[] 80)).grown hg8 (by simp) (fun q hq => by simp [Value.ownBlock] at hq; omega)
    have HO8 : Hid ((w8.drewN 1).ownsRow base 80 2 v8 i (kCells (L.take i))) := by
      show w8.ownsRow _ _ _ _ _ _
      simpa using hown8
    have hz8 := hB8.size
    obtain ⟨A8, c8, rfl⟩ := owns_form HO8.out
    have hb8 : ∀ q, (Value.slice A8 i c8).ownBlock = some q → w1.heap.size ≤ q := fun q hq => by
      rcases hat8 with h | h
      · rw [h] at hq
        simp [Value.ownBlock] at hq
        omega
      · rw [h] at hq
        simp at hq
        omega
    have HB8 := Lib.hid (HB1.out.trans (hB8.mono hz5))
    have HR8 : Hid (Rd (w8.drewN 1) w1.heap.size AB (kCells (L.drop (i + 1)))) := by
      show Rd _ _ _ _
      rw [← kCells_drop]
      exact HBk.out _ _ _ (kCells_len L) ((HH1.out.rd).below' (hB8.trans ((Fr.refl (fun _ => False) w8).drewN 1 |>.below (by omega) fun _ _ => id)) (Nat.le_refl _))
    have HW2 : Hid ((kCells (L.drop (i + 1))).length = (L.length - (i + 1)) * 2) := by show _ = _; rw [kCells_len, List.length_drop]
    have h2 := Lib.hid (kOne (L := L.drop (i + 1)) fun e he => HH1.out.ok e (List.mem_of_mem_drop he))
    have hc28 : w8.cell? ⟨g, o + i * 2 + 1, none⟩ = some (.int .u64 n) := (hB8.cell (p := ⟨g, _, none⟩) hg).trans hc2
    have HB8' := Lib.hid hb8
    clear hown8 hg8 hat8 HO1 HR1 h1 HWL hB8 HBk hb8 hc1 hc2
    have b1 : (i : Int) < L.length := by omega
    have hw1 : IntKind.i64.wrap ((i : Int) + 1) = (i : Int) + 1 := IntWalk.i64_in _ (by omega)
    have b2 : (0 : Int) ≤ i := by omega
    refine wp_region_held_drew (S := fun W => (W.cell? ⟨g, o + i * 2 + 1, none⟩ = some (.int .u64 n))) (by kernel_rfl) hc28 (fun hHeld => ?_)
    refine wpAnyH_take (i := 0) (v := .slice A8 i c8) rfl (by kernel_rfl) (by kernel_rfl) (by kernel_rfl) (fun _ _ _ h => h) (Or.inl ⟨by rfl, fun W hW => rfl⟩) hHeld ?_
    simp only [Act.put, List.getElem_toArray, List.getElem_cons_zero, List.setIfInBounds_toArray, List.set_cons_zero, List.set_cons_succ]
    refine wpAnyH_take (i := 1) (v := .slice (some ⟨g, o, none⟩) L.length c) rfl (by kernel_rfl) (by kernel_rfl) (by kernel_rfl) (fun _ _ _ h => h) (Or.inl ⟨by rfl, fun W hW => rfl⟩) hHeld ?_
    simp only [Act.put, List.getElem_toArray, List.getElem_cons_zero, List.getElem_cons_succ, List.setIfInBounds_toArray, List.set_cons_zero, List.set_cons_succ]
    refine wpAnyH_take (i := 2) (v := .int .i64 i) rfl (by kernel_rfl) (by kernel_rfl) (by kernel_rfl) (fun _ _ _ h => h) (Or.inl ⟨by rfl, fun W hW => rfl⟩) hHeld ?_
    simp only [Act.put, List.getElem_toArray, List.getElem_cons_zero, List.getElem_cons_succ, List.setIfInBounds_toArray, List.set_cons_zero, List.set_cons_succ]
    refine wpAnyH_take (i := 3) (v := .int .i64 ((i : Int) + 1)) rfl (by kernel_rfl) (by kernel_rfl) (by kernel_rfl) (fun _ _ _ h => h) (Or.inl ⟨by rfl, fun W hW => by go_simp⟩) hHeld ?_
    simp only [Act.put, List.getElem_toArray, List.getElem_cons_zero, List.getElem_cons_succ, List.setIfInBounds_toArray, List.set_cons_zero, List.set_cons_succ]
    refine wpAnyH_take (i := 4) (v := .slice AB (L.length - (i + 1)) cB) rfl (by kernel_rfl) (by kernel_rfl) (by kernel_rfl) (fun _ _ _ h => h) (Or.inl ⟨by rfl, fun W hW => by go_simp⟩) hHeld ?_
    simp only [Act.put, List.getElem_toArray, List.getElem_cons_zero, List.getElem_cons_succ, List.setIfInBounds_toArray, List.set_cons_zero, List.set_cons_succ]
    refine wpAnyH_take (i := 6) (v := .slice (some ⟨g, o, none⟩) L.length c) rfl (by kernel_rfl) (by kernel_rfl) (by kernel_rfl) (fun _ _ _ h => h) (Or.inl ⟨by rfl, fun W hW => rfl⟩) hHeld ?_
    simp only [Act.put, List.getElem_toArray, List.getElem_cons_zero, List.getElem_cons_succ, List.setIfInBounds_toArray, List.set_cons_zero, List.set_cons_succ]
    refine wpAnyH_take (i := 7) (v := .int .i64 i) rfl (by kernel_rfl) (by kernel_rfl) (by kernel_rfl) (fun _ _ _ h => h) (Or.inl ⟨by rfl, fun W hW => rfl⟩) hHeld ?_
    simp only [Act.put, List.getElem_toArray, List.getElem_cons_zero, List.getElem_cons_succ, List.setIfInBounds_toArray, List.set_cons_zero, List.set_cons_succ]
    refine wpAnyH_take (i := 8) (v := .pointer (some ⟨g, o + i * 2, none⟩)) rfl (by kernel_rfl) (by kernel_rfl) (by kernel_rfl) (fun _ _ _ h => h) (Or.inl ⟨by rfl, fun W hW => by go_simp⟩) hHeld ?_
    simp only [Act.put, List.getElem_toArray, List.getElem_cons_zero, List.getElem_cons_succ, List.setIfInBounds_toArray, List.set_cons_zero, List.set_cons_succ]
    refine wpAnyH_take (i := 9) (v := .pointer (some ⟨g, o + i * 2 + 1, none⟩)) rfl (by kernel_rfl) (by kernel_rfl) (by kernel_rfl) (fun _ _ _ h => h) (Or.inl ⟨by rfl, fun W hW => by go_simp⟩) hHeld ?_
    simp only [Act.put, List.getElem_toArray, List.getElem_cons_zero, List.getElem_cons_succ, List.setIfInBounds_toArray, List.set_cons_zero, List.set_cons_succ]
    refine wpAnyH_take (i := 10) (v := .int .u64 n) rfl (by kernel_rfl) (by kernel_rfl) (by kernel_rfl) (fun _ _ _ h => h) (Or.inl ⟨by rfl, fun W hW => by have h0 := hW; go_simp⟩) hHeld ?_
    simp only [Act.put, List.getElem_toArray, List.getElem_cons_zero, List.getElem_cons_succ, List.setIfInBounds_toArray, List.set_cons_zero, List.set_cons_succ]
    refine wpAnyH_ready (rs := [5]) (by kernel_rfl) (by simp) ?_
    refine AllReadyH.cons rfl (fun K hK => ?_) AllReadyH.nil
    rw [if_pos (by rfl)]
    refine wp_append_rn (.tmp 24) (.tmp 28) 41 rfl base 80 iW zW 2 16 Try.underlying41 hiW hzW hsW hbW hcW (by omega) (.slice A8 i c8) i (kCells (L.take i)) rfl HO8.out w1.heap.size AB (L.length - (i + 1)) cB (kCells (L.drop (i + 1))) rfl HW2.out HR8.out h2.out (by simp [maxLen]; omega) (by omega) (by show base ≤ w8.heap.size; omega) ?_
    intro v9 w9 hown9 hg9 hat9
    obtain ⟨A9, c9, rfl⟩ := owns_form hown9
    have hB9 : Below w1.heap.size (w8.drewN 1) w9 := (Below.refl _ _).grown hg9 hz8 (fun q hq => HB8'.out q hq)
    have hHeld2 : (fun W => (W.cell? ⟨g, o + i * 2 + 1, none⟩ = some (.int .u64 n))) w9 := (hB9.cell (p := ⟨g, _, none⟩) hg).trans hc28
    refine hK.out _ _ hHeld2 (fun hHeld => ?_)
    clear hHeld2 hK
    try simp only [Act.put, List.getElem_toArray, List.getElem_cons_zero, List.getElem_cons_succ, List.setIfInBounds_toArray, List.set_cons_zero, List.set_cons_succ]
    refine wpAnyH_take (i := 11) (v := .slice A9 (i + (L.length - (i + 1))) c9) rfl (by kernel_rfl) (by kernel_rfl) (by kernel_rfl) (fun _ _ _ h => h) (Or.inl ⟨by rfl, fun W hW => rfl⟩) hHeld ?_
    simp only [Act.put, List.getElem_toArray, List.getElem_cons_zero, List.getElem_cons_succ, List.setIfInBounds_toArray, List.set_cons_zero, List.set_cons_succ]
    refine wpAnyH_take (i := 12) (v := .int .u64 n) rfl (by kernel_rfl) (by kernel_rfl) (by kernel_rfl) (fun _ _ _ h => h) (Or.inl ⟨by rfl, fun W hW => rfl⟩) hHeld ?_
    simp only [Act.put, List.getElem_toArray, List.getElem_cons_zero, List.getElem_cons_succ, List.setIfInBounds_toArray, List.set_cons_zero, List.set_cons_succ]
    refine wpAnyH_take (i := 13) (v := .bool true) rfl (by kernel_rfl) (by kernel_rfl) (by kernel_rfl) (fun _ _ _ h => h) (Or.inl ⟨by rfl, fun W hW => rfl⟩) hHeld ?_
    simp only [Act.put, List.getElem_toArray, List.getElem_cons_zero, List.getElem_cons_succ, List.setIfInBounds_toArray, List.set_cons_zero, List.set_cons_succ]
    refine wpAnyH_done (by kernel_rfl) ?_ _
    go_wp2
    go_returns
    have hlen : (L.take i ++ L.drop (i + 1)).length = i + (L.length - (i + 1)) := by rw [List.length_append, List.length_take, List.length_drop, Nat.min_eq_left hile]
    refine ⟨HB8.out.trans ((((Fr.refl (fun _ => False) w8).drewN 1).below (Nat.le_trans hz5 hz8) fun _ _ => id).trans (hB9.mono hz5)), .inr ⟨A9, c9, L.take i ++ L.drop (i + 1), k, .int .u64 n, rfl, HKV.out, by rw [hlen]; rfl, ⟨?_, fun e he => ?_⟩, HL.out.dropK HI.out, ?_⟩⟩
    · rw [hlen, kCells_app]
      exact hown9
    · rcases List.mem_append.1 he with he | he
      · exact HH1.out.ok e (List.mem_of_mem_take he)
      · exact HH1.out.ok e (List.mem_of_mem_drop he)
    · rw [hlen]
      omega
  · clear hi
    generalize w.drewN m = w1 at *
    have HN := Lib.hid hn
    clear hn
    go_wp2
    go_returns
    exact ⟨HB1.out, .inl ⟨HN.out, rfl⟩⟩
end Go.Proofs.YteifdbfaclpcdaaR.Ru
