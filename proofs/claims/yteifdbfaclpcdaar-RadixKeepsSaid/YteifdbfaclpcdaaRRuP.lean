/- Radix: the law's from: its closure; what a node tells, in plain words. -/
import Derived.Test.YteifdbfaclpcdaaRRuN
namespace Go.Proofs.YteifdbfaclpcdaaR.Ru
open Go.RowKit

theorem feed_len_le {β : Type} (go : List β → Bool) : ∀ (ys acc : List β), (feed go acc ys).1.length ≤ acc.length + ys.length
  | [], acc => by simp [feed]
  | y :: ys, acc => by
    unfold feed
    split
    · have := feed_len_le go ys (acc ++ [y])
      simp at this ⊢
      omega
    · simp
theorem seg_len {α : Type} (f : Nat → Option α) (fr : Int) (a n : Nat) : (seg f fr a n).length ≤ n := by
  unfold seg
  have := List.length_filterMap_le (fun (k : Nat) => if fr ≤ (k : Int) then (f k).map fun v => (k, v) else none) (List.range' a n)
  simpa using this
/-- What from's loop body may touch. -/
def YkS (pl : Nat) (v : Value) : Nat → Prop := fun b => b = pl ∨ v.ownBlock = some b
/-- The list that from gathers, and how many are wanted. -/
structure YkAt (w : World) (base pl pm : Nat) (most : Int) (v : Value) (l : Ks) : Prop where
  bl : Bk w pl 41 #[v]
  bm : Bk w pm 3 #[.int .i64 most]
  own : KAt w base v l
  lo : base ≤ pl ∧ base ≤ pm
/-- Are more wanted? -/
def goK (most : Int) (l : Ks) : Bool := (l.length : Int) != most

set_option maxRecDepth 100000 in
set_option maxHeartbeats 2000000 in
/-- from's closure: one key more. -/
theorem yieldK {w : World} {base pl pm : Nat} {most : Int} {v : Value} {l : Ks} (h : YkAt w base pl pm most v l) (key : Nat) {x : Value} (hx : VOk x) (hl : l.length ≤ 100000) {zk : Int} (hzk : zk = key) :
    Calls Try.prog 62 #[.int .i64 zk, x, .pointer (some ⟨pl, 0, none⟩), .pointer (some ⟨pm, 0, none⟩)] w fun e w' => e = .returned (.bool (goK most (l ++ [(key, x)]))) ∧
      ∃ v', YkAt w' base pl pm most v' (l ++ [(key, x)]) ∧ Fr (YkS pl v) w w' ∧ (v'.ownBlock = v.ownBlock ∨ ∃ b, v'.ownBlock = some b ∧ w.heap.size ≤ b) := by
  obtain ⟨iW, zW, hiW, hzW, hsW, hbW, hcW⟩ := k_parts
  obtain ⟨A, c, rfl⟩ := h.own.form
  obtain ⟨n, rfl⟩ := hx
  obtain ⟨bl, bm, hown, hlo1, hlo2⟩ := h
  have hplpm : pl ≠ pm := bl.ne bm (by decide)
  have hlt1 := bl.lt
  have hlt2 := bm.lt
  have hc0 : w.cell? ⟨pl, 0, none⟩ = some (.slice A l.length c) := bl.cell 0
  have hpl : ∀ b, (Value.slice A l.length c).ownBlock = some b → b ≠ pl := fun b hb e => owns_ne hown.row bl (by decide) (e ▸ hb)
  have hpm : ∀ b, (Value.slice A l.length c).ownBlock = some b → b ≠ pm := fun b hb e => owns_ne hown.row bm (by decide) (e ▸ hb)
  have hb0 : base ≤ w.heap.size := by omega
  have HO3 : Hid ((w.alloc (.cells #[.int .i64 zk, .int .u64 n] 80)).ownsRow base 80 2 (.slice A l.length c) l.length (kCells l)) := (hown.row : w.ownsRow _ _ _ _ _ _).alloc _
  have HR3 : Hid (Rd (w.alloc (.cells #[.int .i64 zk, .int .u64 n] 80)) (w.heap.size + 1) (some ⟨w.heap.size, 0, none⟩) [.int .i64 zk, .int .u64 n]) := by
    intro k u hu
    refine ⟨_, rfl, by simp, ?_⟩
    rw [off_z, (Bk.new w 80 #[.int .i64 zk, .int .u64 n]).cell]
    rcases k with _ | _ | k
    · simpa using hu
    · simpa using hu
    · simp at hu
  have HON : Hid (∀ u ∈ [Value.int .i64 zk, .int .u64 n], u.oneCell' = true) := by
    intro u hu
    simp at hu
    rcases hu with rfl | rfl <;> rfl
  have HOw := Lib.hid hown
  have HZ := Lib.hid hzk
  have HPl := Lib.hid hpl
  have HPm := Lib.hid hpm
  have HBl := Lib.hid bl
  have HBm := Lib.hid bm
  clear hown hpl hpm bl bm hzk
  go_enter Try.func62, Try.ntmps62
  go_wp2_with ((with_reducible refine wpList_dst 12 ?_); refine wpList_append_rn rfl (.tmp 7) (.tmp 11) 41 rfl base 80 iW zW 2 16 Try.underlying41 hiW hzW hsW hbW hcW (by omega) (.slice A l.length c) l.length (kCells l) rfl HO3.out (w.heap.size + 1) (some ⟨w.heap.size, 0, none⟩) 1 1 [.int .i64 zk, .int .u64 n] rfl rfl HR3.out HON.out (by simp [maxLen]; omega) (by omega) (by simp; omega) ?_; intro v3 w3 hown0 hg hat; obtain ⟨A3, c3, rfl⟩ := owns_form hown0; have hbl3 : Bk w3 pl 41 #[.slice A l.length c] := (HBl.out.alloc _).grown hg (fun e => HPl.out pl e.symm rfl); have hbm3 : Bk w3 pm 3 #[.int .i64 most] := (HBm.out.alloc _).grown hg (fun e => HPm.out pm e.symm rfl); have hc3 : w3.cell? ⟨pl, 0, none⟩ = some (.slice A l.length c) := hbl3.cell 0; have hf3 := hbl3.free 0; have hm3 : w3.cell? ⟨pm, 0, none⟩ = some (.int .i64 most) := hbm3.cell 0; have HB3 := Lib.hid hbl3; have HM3 := Lib.hid hbm3; have HO4 := Lib.hid hown0; clear hbl3 hbm3 hown0)
  go_ret
  have hgF : Fr (fun b => (Value.slice A l.length c).ownBlock = some b) w w3 := ((Fr.refl _ w).alloc _).grown hg fun b hb _ => hb
  have HO5 : KAt w3 base (.slice A3 (l.length + 1) c3) (l ++ [(key, .int .u64 n)]) := by
    refine ⟨?_, fun e he => ?_⟩
    · have := HO4.out
      rw [HZ.out] at this
      rw [kCells_app, List.length_append]
      exact this
    · rcases List.mem_append.1 he with he | he
      · exact HOw.out.ok e he
      · simp at he
        rw [he]
        exact ⟨n, rfl⟩
  have hapl : ∀ b, (Value.slice A3 (l.length + 1) c3).ownBlock = some b → b ≠ pl := fun b hb e => owns_ne HO5.row HB3.out (by decide) (e ▸ hb)
  refine ⟨?_, .slice A3 (l.length + 1) c3, ⟨HB3.out.set 0 _, HM3.out.far (fun e => hplpm e.symm) _, ⟨owns_same HO5.row (fun b hb => Below.heap_setCell _ _ _ _ (hapl b hb)), HO5.ok⟩, hlo1, hlo2⟩, ?_, ?_⟩
  · refine ret_bool ?_
    unfold goK
    simp
  · exact (hgF.mono fun _ _ h => .inr h).set _ _ fun _ => .inl rfl
  · rcases hat with h | h
    · exact .inl h
    · refine .inr ⟨_, h, by simp⟩
end Go.Proofs.YteifdbfaclpcdaaR.Ru
