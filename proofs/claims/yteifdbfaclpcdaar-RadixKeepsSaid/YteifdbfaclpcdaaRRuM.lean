/- Radix: the document's Set and Drop. -/
import Derived.Test.YteifdbfaclpcdaaRRuL
namespace Go.Proofs.YteifdbfaclpcdaaR.Ru
open Go.RowKit

/-- What the document's Set tells. -/
def KSetPost (w : World) (base : Nat) (L : Ks) (f : Nat → Option Value) (key : Nat) (v : Value) (e : Ending) (w' : World) : Prop :=
  ∃ (A' : Option Addr) (c' : Nat) (L' : Ks), e = .returned (.tuple #[.slice A' L'.length c', .bool true]) ∧ KAt w' base (.slice A' L'.length c') L' ∧ Lists L' (updF f key (some v)) ∧ L'.length = L.length + (if f key = none then 1 else 0) ∧ Below w.heap.size w w'
set_option maxRecDepth 100000 in
theorem kSetNo (w : World) (A : Option Addr) (n c : Nat) (key : Int) (v : Value) (hk : key < 0 ∨ (0 ≤ key ∧ 65535 < key)) :
    Calls Try.prog 28 #[.slice A n c, .int .i64 key, v] w fun e w' => e = .returned (.tuple #[.slice A n c, .bool false]) ∧ w' = w := by
  rcases hk with hk | ⟨hk0, hk⟩
  · go_enter Try.func28, Try.ntmps28
    go_wp2
    go_ret2
    exact ⟨rfl, rfl⟩
  · go_enter Try.func28, Try.ntmps28
    go_wp2
    go_ret2
    exact ⟨rfl, rfl⟩
set_option maxRecDepth 100000 in
set_option maxHeartbeats 4000000 in
theorem kSet {w : World} {base c : Nat} {A : Option Addr} {L : Ks} {f : Nat → Option Value} (h : KAt w base (.slice A L.length c) L) (hbase : base ≤ w.heap.size) (hL : Lists L f) (hl : L.length ≤ 1000) {key : Nat} (hk : key < 65536) {v : Value} (hv : VOk v) :
    Calls Try.prog 28 #[.slice A L.length c, .int .i64 (key : Int), v] w (KSetPost w base L f key v) := by
  obtain ⟨iW, zW, hiW, hzW, hsW, hbW, hcW⟩ := k_parts
  have HAt := Lib.hid (kAt (c := c) h.krd hl (key : Int))
  have HH := Lib.hid h
  have HL := Lib.hid hL
  have hcap := h.cap.2
  have hk65 : (key : Int) ≤ 65535 := by omega
  obtain ⟨n, rfl⟩ := hv
  clear h hL
  go_enter Try.func28, Try.ntmps28
  go_wp2_with fail
  refine HAt.out.mono ?_
  rintro e w1 ⟨i, b, rfl, hi, m, rfl⟩
  have HI := Lib.hid hi
  have hile := hi.le
  clear hi HAt
  have hz5 : w.heap.size ≤ (w.drewN m).heap.size := Nat.le_refl _
  have HH1 : Hid (KAt (w.drewN m) base (.slice A L.length c) L) := HH.out.below ((Fr.refl (fun _ => False) w).drewN m).below0
  have HB1 : Hid (Below w.heap.size w (w.drewN m)) := ((Fr.refl (fun _ => False) w).drewN m).below0
  clear HH
  generalize w.drewN m = w1 at *
  obtain ⟨q, hq⟩ : ∃ q, q = if b then i + 1 else i := ⟨_, rfl⟩
  have HQ := Lib.hid hq
  have hql : q ≤ L.length := by
    rw [hq]
    cases hb : b
    · simpa using hile
    · rcases HI.out.hit HL.out with ⟨_, u, hu, _⟩ | ⟨hb2, _⟩
      · have := (List.getElem?_eq_some_iff.1 hu).1
        simp; omega
      · rw [hb] at hb2
        cases hb2
  have cutF := fun W : World => run_frontK (w := W) (A := A) (n := L.length) (c := c) (k := i) (by omega)
  obtain ⟨AB, cB, cutB, hBk, -⟩ := run_backK (A := A) (n := L.length) (c := c) (k := q) hql hcap rfl
  have HBk := Lib.hid hBk
  have HO1 : Hid ((w1.alloc (.cells #[] 80)).ownsRow base 80 2 (.slice (some ⟨w1.heap.size, 0, none⟩) 0 0) 0 []) :=
    World.ownsRow_made (base := base) (e := 80) (size := 2) w1 #[] 0 (by omega) (by decide) rfl
  have HR1 : Hid (Rd (w1.alloc (.cells #[] 80)) w1.heap.size A (kCells (L.take i))) := by
    show Rd _ _ _ _
    rw [← kCells_take]
    exact ((HH1.out.rd).below' ((Below.refl _ _).alloc (Nat.le_refl _) _) (Nat.le_refl _)).take _
  have h1 := Lib.hid (kOne (L := L.take i) fun e he => HH1.out.ok e (List.mem_of_mem_take he))
  have HWL : Hid ((kCells (L.take i)).length = i * 2) := by show _ = _; rw [kCells_len, List.length_take, Nat.min_eq_left (by omega)]
  clear hBk hq
  go_upto_region 5 with ((with_reducible refine wpList_dst 28 ?_); refine wpList_append_rn rfl (.tmp 24) (.tmp 27) 41 rfl base 80 iW zW 2 16 Try.underlying41 hiW hzW hsW hbW hcW (by omega) (.slice (some ⟨w1.heap.size, 0, none⟩) 0 0) 0 [] rfl HO1.out w1.heap.size A i c (kCells (L.take i)) rfl HWL.out HR1.out h1.out (by simp [maxLen]; omega) (by omega) (by simp; omega) ?_; intro v8 w8 hown8 hg8 hat8)
  have hB8 : Below w1.heap.size w1 w8 := ((Below.refl _ _).alloc (Nat.le_refl _) (.cells #[] 80)).grown hg8 (by simp) (fun q hq => by simp [Value.ownBlock] at hq; omega)
  have HO8 : Hid (w8.ownsRow base 80 2 v8 i (kCells (L.take i))) := by
    show w8.ownsRow _ _ _ _ _ _
    simpa using hown8
  have hz8 := hB8.size
  obtain ⟨A8, c8, rfl⟩ := owns_form HO8.out
  have hb8 : ∀ q, (Value.slice A8 i c8).ownBlock = some q → w1.heap.size ≤ q := fun q hq => by
    rcases hat8 with h | h
    · rw [h] at hq
      simp [Value.ownBlock] at hq
      omega
    · rw [h] at hq
      simp at hq
      omega
  have HB8 := Lib.hid (HB1.out.trans (hB8.mono hz5))
  have HR8 : Hid (Rd w8 w1.heap.size AB (kCells (L.drop q))) := by
    show Rd _ _ _ _
    rw [← kCells_drop]
    exact HBk.out _ _ _ (kCells_len L) ((HH1.out.rd).below' hB8 (Nat.le_refl _))
  have HW2 : Hid ((kCells (L.drop q)).length = (L.length - q) * 2) := by show _ = _; rw [kCells_len, List.length_drop]
  have h2 := Lib.hid (kOne (L := L.drop q) fun e he => HH1.out.ok e (List.mem_of_mem_drop he))
  have HO9 : Hid ((w8.alloc (.cells #[.int .i64 (key : Int), .int .u64 n] 80)).ownsRow base 80 2 (.slice A8 i c8) i (kCells (L.take i))) := (HO8.out : w8.ownsRow _ _ _ _ _ _).alloc _
  have HR9 : Hid (Rd (w8.alloc (.cells #[.int .i64 (key : Int), .int .u64 n] 80)) (w8.heap.size + 1) (some ⟨w8.heap.size, 0, none⟩) [.int .i64 (key : Int), .int .u64 n]) := by
    intro k u hu
    refine ⟨_, rfl, by simp, ?_⟩
    rw [off_z, (Bk.new w8 80 #[.int .i64 (key : Int), .int .u64 n]).cell]
    rcases k with _ | _ | k
    · simpa using hu
    · simpa using hu
    · simp at hu
  have hone2 : ∀ u ∈ [Value.int .i64 (key : Int), .int .u64 n], u.oneCell' = true := by
    intro u hu
    simp at hu
    rcases hu with rfl | rfl <;> rfl
  have HON := Lib.hid hone2
  have HB8' := Lib.hid hb8
  have HBz := Lib.hid hB8
  clear hown8 hg8 hat8 HO1 HR1 h1 HWL hB8 HBk hone2 hb8
  go_upto_region 6 with ((with_reducible refine wpList_dst 34 ?_); refine wpList_append_rn rfl (.tmp 29) (.tmp 33) 41 rfl base 80 iW zW 2 16 Try.underlying41 hiW hzW hsW hbW hcW (by omega) (.slice A8 i c8) i (kCells (L.take i)) rfl HO9.out (w8.heap.size + 1) (some ⟨w8.heap.size, 0, none⟩) 1 1 [.int .i64 (key : Int), .int .u64 n] rfl rfl HR9.out HON.out (by simp [maxLen]; omega) (by omega) (by simp; omega) ?_; intro v9 w9 hown9 hg9 hat9)
  have hB9 : Below w1.heap.size w8 w9 := ((Below.refl _ w8).alloc hz8 (.cells #[.int .i64 (key : Int), .int .u64 n] 80)).grown hg9 (by simp; omega) (fun q hq => HB8'.out q hq)
  have hz9 := hB9.size
  obtain ⟨A9, c9, rfl⟩ := owns_form hown9
  have hb9 : ∀ q, (Value.slice A9 (i + 1) c9).ownBlock = some q → w1.heap.size ≤ q := fun q hq => by
    rcases hat9 with h | h
    · rw [h] at hq
      exact HB8'.out q hq
    · rw [h] at hq
      simp at hq
      omega
  have HO10 := Lib.hid hown9
  have HR10 : Hid (Rd w9 w1.heap.size AB (kCells (L.drop q))) := HR8.out.below' hB9 (Nat.le_refl _)
  have HB9 := Lib.hid (HBz.out.trans hB9)
  have HB9' := Lib.hid hb9
  clear hown9 hg9 hat9 HO9 HR9 HON hB9 hb9 HR8
  have HLen : Hid ((L.take i ++ ((key, Value.int .u64 n) :: L.drop q)).length = i + 1 + (L.length - q)) := by
    show _ = _
    rw [List.length_append, List.length_cons, List.length_take, List.length_drop, Nat.min_eq_left hile]
    omega
  have hqb : (b = false ∧ q = i) ∨ (b = true ∧ q = i + 1) := by
    have := HQ.out
    cases b
    · exact .inl ⟨rfl, by simpa using this⟩
    · exact .inr ⟨rfl, by simpa using this⟩
  have HFin : Hid (∀ v' w', w'.ownsRow base 80 2 v' (i + 1 + (L.length - q)) (kCells (L.take i) ++ [.int .i64 (key : Int), .int .u64 n] ++ kCells (L.drop q)) → w9.grownBy w' (Value.slice A9 (i + 1) c9).ownBlock → KSetPost w base L f key (.int .u64 n) (.returned (.tuple #[v', .bool true])) w') := by
    intro v' w' ho hg
    obtain ⟨A', c', rfl⟩ := owns_form ho
    have hne : (L.take i ++ ((key, Value.int .u64 n) :: L.drop q)).length = i + 1 + (L.length - q) := HLen.out
    refine ⟨A', c', L.take i ++ ((key, .int .u64 n) :: L.drop q), by rw [hne], ⟨?_, fun e he => ?_⟩, HL.out.set HI.out hk _ HQ.out, HL.out.set_length HI.out _ HQ.out, ?_⟩
    · rw [hne]
      have e : kCells (L.take i ++ ((key, Value.int .u64 n) :: L.drop q)) = kCells (L.take i) ++ [.int .i64 (key : Int), .int .u64 n] ++ kCells (L.drop q) := by
        rw [kCells_app]
        simp [kCells]
      rw [e]
      exact ho
    · rcases List.mem_append.1 he with he | he
      · exact HH1.out.ok e (List.mem_of_mem_take he)
      · rcases List.mem_cons.1 he with rfl | he
        · exact ⟨n, rfl⟩
        · exact HH1.out.ok e (List.mem_of_mem_drop he)
    · exact HB1.out.trans (((HB9.out).grown hg (by omega) fun q hq => HB9'.out q hq).mono hz5)
  rcases hqb with ⟨rfl, rfl⟩ | ⟨rfl, rfl⟩
  · go_wp2_with ((with_reducible refine wpList_dst 42 ?_); refine wpList_append_rn rfl (.tmp 38) (.tmp 41) 41 rfl base 80 iW zW 2 16 Try.underlying41 hiW hzW hsW hbW hcW (by omega) (.slice A9 (q + 1) c9) (q + 1) (kCells (L.take q) ++ [.int .i64 (key : Int), .int .u64 n]) rfl HO10.out w1.heap.size AB (L.length - q) cB (kCells (L.drop q)) rfl HW2.out HR10.out h2.out (by simp [maxLen]; omega) (by omega) (by omega) ?_; intro v10 w10 hown10 hg10 hat10)
    go_ret2
    exact HFin.out _ _ hown10 hg10
  · have cutB2 : ∀ W, (Instr.slice 41 (.slice A L.length c) (some (.int .i64 ((i : Int) + 1))) none none).run Try.prog W = .ok (.slice AB (L.length - (i + 1)) cB) W := fun W => by
      have := cutB W
      rwa [show (((i + 1 : Nat)) : Int) = (i : Int) + 1 by omega] at this
    clear cutB
    go_wp2_with ((with_reducible refine wpList_dst 42 ?_); refine wpList_append_rn rfl (.tmp 38) (.tmp 41) 41 rfl base 80 iW zW 2 16 Try.underlying41 hiW hzW hsW hbW hcW (by omega) (.slice A9 (i + 1) c9) (i + 1) (kCells (L.take i) ++ [.int .i64 (key : Int), .int .u64 n]) rfl HO10.out w1.heap.size AB (L.length - (i + 1)) cB (kCells (L.drop (i + 1))) rfl HW2.out HR10.out h2.out (by simp [maxLen]; omega) (by omega) (by omega) ?_; intro v10 w10 hown10 hg10 hat10)
    go_ret2
    exact HFin.out _ _ hown10 hg10
end Go.Proofs.YteifdbfaclpcdaaR.Ru
