/- New of a finder. -/
import Derived.Test.YtckdellcnoojaaaRRRMatC
import Derived.Test.YtckdellcnoojaaaRRRGyRow
import Derived.Deep.OwnRows
import Derived.Deep.DeepCutAuto
namespace Go.Proofs.YtckdellcnoojaaaRRR
open Go.RowKit

/-- Cells of ints. -/
def intCells (f : Nat → Int) (n : Nat) : Array Value := ((List.range n).map fun i => Value.int .i64 (f i)).toArray
def updZ (f : Nat → Int) (k : Nat) (v : Int) : Nat → Int := fun i => if i = k then v else f i
theorem intCells_get (f : Nat → Int) {n i : Nat} (hi : i < n) : (intCells f n)[i]? = some (.int .i64 (f i)) := by simp [intCells, hi]
theorem intCells_set (f : Nat → Int) (n k : Nat) (v : Int) : (intCells f n).setIfInBounds k (.int .i64 v) = intCells (updZ f k v) n := by
  apply Array.ext'
  simp only [intCells, List.setIfInBounds_toArray]
  apply List.ext_getElem?
  intro i
  rw [List.getElem?_set]
  simp only [List.length_map, List.length_range, List.getElem?_map, updZ]
  by_cases hi : i < n
  · by_cases hk : k = i
    · subst hk; simp [hi]
    · simp [hi, hk, Ne.symm hk]
  · have : (List.range n)[i]? = none := by simp; omega
    simp [this]
    intro _; omega
theorem intCells_size (f : Nat → Int) (n : Nat) : (intCells f n).size = n := by simp [intCells]
theorem intCells_made (n : Nat) : madeCells #[.int .i64 0] n = intCells (fun _ => 0) n := by
  apply Array.ext'
  simp [intCells, madeCells]
  intro a _
  rw [Nat.mod_one]
  rfl
theorem int_info : (Try.prog.info? 3).map (fun i => (i.zero, i.size, i.bytes)) = some (some (.int .i64 0), 1, 8) := by kernel_rfl
theorem headZero : Try.zeroCells86 = intCells (fun _ => 0) 1024 := by kernel_rfl
theorem headZV (w : World) : (zeroValue 86).run Try.prog w = .ok (.agg (intCells (fun _ => 0) 1024)) w := by
  rw [← headZero]
  exact Try.zeroValue86 w
def lastF (b : List UInt8) (k : Nat) : Nat → Int := fun i => if i < k then (lastOf b i : Int) - 1 else 0
def headF (b : List UInt8) (k : Nat) : Nat → Int := fun n => (headOf b n (min k (b.length - 2)) : Nat)
theorem lastF_out {b : List UInt8} {k : Nat} (h : b.length < k + 3) : updZ (lastF b k) k (-1) = lastF b (k + 1) := by
  funext i
  unfold updZ lastF
  by_cases hi : i = k
  · subst hi
    have : lastOf b i = 0 := by unfold lastOf; rw [if_neg (by omega)]
    simp [this]
  · by_cases h2 : i < k
    · simp [hi, h2, show i < k + 1 by omega]
    · simp [hi, h2, show ¬ i < k + 1 by omega]
theorem lastF_in {b : List UInt8} {k : Nat} (h : k + 3 ≤ b.length) : updZ (updZ (lastF b k) k (-1)) k (headF b k (num3 b k) - 1) = lastF b (k + 1) := by
  funext i
  unfold updZ lastF headF
  by_cases hi : i = k
  · subst hi
    have e : lastOf b i = headOf b (num3 b i) i := by unfold lastOf; rw [if_pos h]
    rw [e, Nat.min_eq_left (by omega)]
    simp
  · by_cases h2 : i < k
    · simp [hi, h2, show i < k + 1 by omega]
    · simp [hi, h2, show ¬ i < k + 1 by omega]
theorem headF_out {b : List UInt8} {k : Nat} (h : b.length < k + 3) : headF b k = headF b (k + 1) := by
  funext n
  unfold headF
  rw [Nat.min_eq_right (by omega), Nat.min_eq_right (by omega)]
theorem headF_in {b : List UInt8} {k : Nat} (h : k + 3 ≤ b.length) : updZ (headF b k) (num3 b k) ((k : Int) + 1) = headF b (k + 1) := by
  funext n
  unfold updZ headF
  rw [Nat.min_eq_left (by omega), Nat.min_eq_left (by omega), headOf]
  by_cases hn : n = num3 b k
  · rw [if_pos hn, if_pos hn.symm]; rfl
  · rw [if_neg hn, if_neg (fun e => hn e.symm)]

/-- What New's loop holds. -/
structure NewRel (w0 : World) (b : List UInt8) (g gl gh : Nat) (v : Value) (k : Nat) (w : World) : Prop where
  top : Bk w g 85 #[v, .slice (some ⟨gl, 0, none⟩) b.length b.length]
  own : OwnY w w0.heap.size v b
  row : Bk w gl 3 (intCells (lastF b k) b.length)
  head : Bk w gh 86 (intCells (headF b k) 1024)
  b1 : w0.heap.size ≤ g
  b2 : w0.heap.size ≤ gl
  b3 : w0.heap.size ≤ gh
  below : Below w0.heap.size w0 w

theorem NewRel.drewN {w0 w : World} {b : List UInt8} {g gl gh k : Nat} {v : Value} (h : NewRel w0 b g gl gh v k w) (n : Nat) : NewRel w0 b g gl gh v k (w.drewN n) :=
  ⟨h.top, h.own, h.row, h.head, h.b1, h.b2, h.b3, ⟨h.below.os, h.below.tape, h.below.output, h.below.size, h.below.block⟩⟩

set_option maxRecDepth 100000 in
set_option maxHeartbeats 2000000 in
theorem fNew_any {w : World} {B : Nat} {A : Option Addr} {c : Nat} {b0 : List UInt8} (h : RdY w B A b0) (hB : B ≤ w.heap.size) (hc : b0.length ≤ c) (hl : b0.length ≤ 100000) :
    Calls Try.prog 23 #[.slice A b0.length c] w fun e w' => ∃ g gl v, e = .returned (.pointer (some ⟨g, 0, none⟩)) ∧ FindAt w' w.heap.size g gl v (b0.take 4096) ∧ Below w.heap.size w w' := by
  obtain ⟨n, hn⟩ : ∃ n, (b0.take 4096).length = n := ⟨_, rfl⟩
  have hn2 : n = min 4096 b0.length := by rw [← hn, List.length_take]
  have HCl := Lib.hid (cloneY_any (c := c) (h.take 4096) hB (by rw [hn]; omega))
  rw [hn] at HCl
  have HN := Lib.hid hn
  generalize b0.take 4096 = b at *
  have hnb : b.length ≤ 4096 := by omega
  have HZ := Lib.hid headZV
  clear h hn
  go_enter Try.func23, Try.ntmps23
  go_upto_region 1 with fail
  go_cut [3] (fun s wx => ∃ v g, s = .pointer (some ⟨g, 0, none⟩) ∧ Bk wx g 85 #[v, .slice none 0 0] ∧ OwnY wx w.heap.size v b ∧ w.heap.size ≤ g ∧ Below w.heap.size w wx)
  case first =>
    rcases Nat.lt_or_ge 4096 b0.length with h4 | h4
    · obtain rfl : n = 4096 := by omega
      clear hn2
      have h4i : (4096 : Int) < b0.length := by omega
      go_wp2_with (go_at_call 53; refine HCl.out.mono ?_; rintro e w2 ⟨Av, cv, rfl, hO, hB2⟩)
      go_meet
      exact ⟨_, _, rfl, Bk.new _ _ _, hO.below ((Below.refl _ _).alloc (Nat.le_refl _) _), hB2.size, hB2.alloc hB2.size _⟩
    · obtain rfl : n = b0.length := by omega
      clear hn2
      have h4i : (b0.length : Int) ≤ 4096 := by omega
      go_wp2_with (go_at_call 53; refine HCl.out.mono ?_; rintro e w2 ⟨Av, cv, rfl, hO, hB2⟩)
      go_meet
      exact ⟨_, _, rfl, Bk.new _ _ _, hO.below ((Below.refl _ _).alloc (Nat.le_refl _) _), hB2.size, hB2.alloc hB2.size _⟩
  case rest =>
    clear HCl hn2
    obtain ⟨v, g, rfl, htop, hO, hg, hB0⟩ := hcut
    obtain ⟨Av, cv, rfl⟩ := hO.form
    have h0 : wc.cell? ⟨g, 0, none⟩ = some (.slice Av b.length cv) := Bk.cell htop 0
    have h1 : wc.cell? ⟨g, 1, none⟩ = some (.slice none 0 0) := Bk.cell htop 1
    have hf1 := Bk.free htop 1
    have hglt := htop.lt
    have hmk := Go.run_make_row' (P := Try.prog) 35 3 (.int .i64 0) 8 Try.underlying35 int_info rfl .i64 .i64 b.length (by omega) (by omega)
    have HT1 : Hid (Bk ((wc.setCell ⟨g, 1, none⟩ (.slice (some ⟨wc.heap.size, 0, none⟩) b.length b.length)).alloc (.cells (madeCells #[.int .i64 0] b.length) 3)) g 85 #[.slice Av b.length cv, .slice (some ⟨wc.heap.size, 0, none⟩) b.length b.length]) :=
      (htop.set 1 (.slice (some ⟨wc.heap.size, 0, none⟩) b.length b.length)).alloc _
    have HR1 : Hid (Bk ((wc.setCell ⟨g, 1, none⟩ (.slice (some ⟨wc.heap.size, 0, none⟩) b.length b.length)).alloc (.cells (madeCells #[.int .i64 0] b.length) 3)) wc.heap.size 3 (intCells (fun _ => 0) b.length)) := by
      rw [← intCells_made]
      exact Bk.new_at _ _ _ (by simp [World.setCell])
    have hFm : Fr (· = g) wc ((wc.setCell ⟨g, 1, none⟩ (.slice (some ⟨wc.heap.size, 0, none⟩) b.length b.length)).alloc (.cells (madeCells #[.int .i64 0] b.length) 3)) := ((Fr.refl (· = g) wc).set ⟨g, 1, none⟩ _ fun _ => rfl).alloc _
    have HO1 := Lib.hid (hO.same fun k hk => hFm.block k (hO.lt hk).2 (fun e => owns_ne hO htop (by decide) (by subst e; exact hk)))
    have HB1 := Lib.hid (hB0.trans (hFm.below hB0.size (fun k hk e => by omega)))
    have hsz := hB0.size
    clear htop hO hB0 hFm
    go_wp2_with ((with_reducible refine wpList_dst 4 ?_); refine wpList_alloc_abs rfl 86 rfl (intCells (fun _ => 0) 1024) HZ.out ?_; intro w4 gh hgh hh hB4; have h04 : w4.cell? ⟨g, 0, none⟩ = some (.slice Av b.length cv) := Bk.cell (HT1.out.below' hB4) 0)
    have hR0 : NewRel w b g wc.heap.size gh (.slice Av b.length cv) 0 w4 := ⟨HT1.out.below' hB4, HO1.out.below hB4, by
      have := HR1.out.below' hB4
      have e : lastF b 0 = fun _ => 0 := by funext i; simp [lastF]
      rw [e]; exact this, by
      have e : headF b 0 = fun _ => 0 := by funext i; simp [headF, headOf]
      rw [e]; exact hh, hg, hsz, by have := HB1.out.size; omega, HB1.out.trans (hB4.mono HB1.out.size)⟩
    have hne0 : g ≠ wc.heap.size := by omega
    generalize wc.heap.size = gl at *
    clear HT1 HR1 HO1 HB1 hh hB4 hmk h0 h1 hf1 h04
    have hngh : g ≠ gh := hR0.top.ne hR0.head (by decide)
    have hnlh : gl ≠ gh := hR0.row.ne hR0.head (by decide)
    have HZb : Hid (∀ k, Av = some ⟨k, 0, none⟩ → k ≠ g ∧ k ≠ gl ∧ k ≠ gh) := fun k hk => by
      subst hk
      exact ⟨fun e => owns_ne hR0.own hR0.top (by decide) (by simp [Value.ownBlock, e]), fun e => owns_ne hR0.own hR0.row (by decide) (by simp [Value.ownBlock, e]), fun e => owns_ne hR0.own hR0.head (by decide) (by simp [Value.ownBlock, e])⟩
    have hb20 := hR0.b2
    have hb30 := hR0.b3
    go_loopw [29] (fun i wr => ∃ k : Nat, k ≤ b.length ∧ i = .int .i64 k ∧ NewRel w b g gl gh (.slice Av b.length cv) k wr) (fun i _ => b.length - (intOf i).toNat)
    case atStart => exact ⟨0, Nat.zero_le _, rfl, hR0⟩
    case round =>
      clear hR0
      obtain ⟨k, hk, rfl, hR⟩ := hrel
      have hg0 : wr.cell? ⟨g, 0, none⟩ = some (.slice Av b.length cv) := Bk.cell hR.top 0
      have hg1 : wr.cell? ⟨g, 1, none⟩ = some (.slice (some ⟨gl, 0, none⟩) b.length b.length) := Bk.cell hR.top 1
      rcases Nat.lt_or_ge k b.length with hlt | hge
      · have hcl := (Bk.cell hR.row k).trans (intCells_get _ hlt)
        have hfl := Bk.free hR.row k
        obtain ⟨gb, rfl, hgb, hgb2, hbc, -, hcell, -⟩ := hR.own.at_ (by omega)
        obtain ⟨hn1, hn2, hn3⟩ := HZb.out gb rfl
        have HF1 : Hid (Fr (fun q => q = gl ∨ q = gh) wr (wr.setCell ⟨gl, k, none⟩ (.int .i64 (-1)))) := (Fr.refl _ wr).set _ _ fun _ => .inl rfl
        rcases Nat.lt_or_ge b.length (k + 3) with h3 | h3
        · have HR2 : Hid (NewRel w b g gl gh (.slice (some ⟨gb, 0, none⟩) b.length cv) (k + 1) (wr.setCell ⟨gl, k, none⟩ (.int .i64 (-1)))) := by
            have hr := hR.row.set k (.int .i64 (-1))
            rw [intCells_set, lastF_out h3] at hr
            exact ⟨hR.top.fr HF1.out (by omega), hR.own.same fun q hq => HF1.out.block q (hR.own.lt hq).2 (by simp [Value.ownBlock] at hq; omega), hr, by rw [← headF_out h3]; exact hR.head.far (by show gh ≠ gl; omega) _, hR.b1, hR.b2, hR.b3, hR.below.trans (HF1.out.below hR.below.size (fun q hq e => by omega))⟩
          clear hR hcell
          go_wp2
          go_roundw
          case rel => exact ⟨k + 1, by omega, by go_num, HR2.out⟩
          case measure => simp [intOf]; omega
        · have hkc : k ≠ cv := by omega
          have hk3 : k + 3 ≤ cv := by omega
          have HNum : Hid (∀ q, Calls Try.prog 54 #[.slice (some ⟨gb, k, none⟩) 3 q] (wr.setCell ⟨gl, k, none⟩ (.int .i64 (-1))) fun e w' => e = .returned (.int .i64 (num3 b k)) ∧ ∃ n, w' = (wr.setCell ⟨gl, k, none⟩ (.int .i64 (-1))).drewN n) := fun q => by
            have hc : ∀ j, j < 3 → (wr.setCell ⟨gl, k, none⟩ (.int .i64 (-1))).cell? ⟨gb, k + j, none⟩ = some (.int .u8 ((b[k + j]?.getD 0).toNat : Int)) := fun j hj => (HF1.out.cell (a := ⟨gb, k + j, none⟩) hgb2 (by show ¬ (gb = gl ∨ gb = gh); omega)).trans (hcell (k + j) (by omega))
            exact number_any (c := q) (hc 0 (by omega)) (hc 1 (by omega)) (hc 2 (by omega))
          have hnl := num3_lt b k
          have hch := (Bk.cell hR.head (num3 b k)).trans (intCells_get _ hnl)
          have hfh := Bk.free hR.head (num3 b k)
          have hhv : headF b k (num3 b k) ≤ k ∧ 0 ≤ headF b k (num3 b k) := by
            unfold headF
            have := headOf_le b (num3 b k) (min k (b.length - 2))
            omega
          have HLI := Lib.hid (lastF_in h3)
          have HHI := Lib.hid (headF_in h3)
          generalize num3 b k = n3 at *
          generalize headF b k n3 = hv at *
          have HREL : Hid (NewRel w b g gl gh (.slice (some ⟨gb, 0, none⟩) b.length cv) (k + 1) (((wr.setCell ⟨gl, k, none⟩ (.int .i64 (-1))).setCell ⟨gl, k, none⟩ (.int .i64 (hv - 1))).setCell ⟨gh, n3, none⟩ (.int .i64 ((k : Int) + 1)))) := by
            have hr := ((hR.row.set k (.int .i64 (-1))).set k (.int .i64 (hv - 1))).far (p := ⟨gh, n3, none⟩) hnlh (.int .i64 ((k : Int) + 1))
            rw [intCells_set, intCells_set, HLI.out] at hr
            have hh := ((hR.head.far (p := ⟨gl, k, none⟩) (fun e => hnlh e.symm) (.int .i64 (-1))).far (p := ⟨gl, k, none⟩) (fun e => hnlh e.symm) (.int .i64 (hv - 1))).set n3 (.int .i64 ((k : Int) + 1))
            rw [intCells_set, HHI.out] at hh
            have hF : Fr (fun q => q = gl ∨ q = gh) wr (((wr.setCell ⟨gl, k, none⟩ (.int .i64 (-1))).setCell ⟨gl, k, none⟩ (.int .i64 (hv - 1))).setCell ⟨gh, n3, none⟩ (.int .i64 ((k : Int) + 1))) := ((HF1.out).set ⟨gl, k, none⟩ _ fun _ => .inl rfl).set ⟨gh, n3, none⟩ _ fun _ => .inr rfl
            exact ⟨hR.top.fr hF (by omega), hR.own.same fun q hq => hF.block q (hR.own.lt hq).2 (by simp [Value.ownBlock] at hq; omega), hr, hh, hR.b1, hR.b2, hR.b3, hR.below.trans (hF.below hR.below.size (fun q hq e => by omega))⟩
          have hngl' : gl ≠ g := fun e => hne0 e.symm
          have hnhg' : gh ≠ g := fun e => hngh e.symm
          have hnhl' : gh ≠ gl := fun e => hnlh e.symm
          clear hR hcell HF1 HLI HHI
          go_wp2_with (go_at_call 54; refine (HNum.out _).mono ?_; rintro e w5 ⟨rfl, q, rfl⟩)
          clear HNum
          go_region
          all_goals
            go_wp2
            exact ⟨⟨k + 1, by omega, by go_num, HREL.out.drewN (q + 1)⟩, by simp [intOf]; omega⟩
      · obtain rfl : k = b.length := by omega
        have HFin : Hid (FindAt wr w.heap.size g gl (.slice Av b.length cv) b) := ⟨hR.top, hR.own, by
          have := hR.row
          exact this, hR.b1, hR.b2, hnb⟩
        have HBl := Lib.hid hR.below
        clear hR
        go_wp2
        go_ret
        exact ⟨g, gl, _, rfl, HFin.out, HBl.out⟩
end Go.Proofs.YtckdellcnoojaaaRRR
