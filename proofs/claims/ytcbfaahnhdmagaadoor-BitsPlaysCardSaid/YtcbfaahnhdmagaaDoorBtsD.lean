/- All of a set: the iterator (a closure), and the law's all. -/
import Derived.Test.YtcbfaahnhdmagaaDoorBtsC
namespace Go.Proofs.YtcbfaahnhdmagaaDoor
open Go.RowKit

/-- What all's loop body may touch. -/
def YlS (pl : Nat) (v : Value) : Nat → Prop := fun b => b = pl ∨ v.ownBlock = some b
/-- The list that all gathers, and how many are wanted. -/
structure YlAt (w : World) (base pl pm : Nat) (most : Int) (v : Value) (l : List Int) : Prop where
  bl : Bk w pl 26 #[v]
  bm : Bk w pm 3 #[.int .i64 most]
  own : OwnI w base v l
  ne : ∀ b, v.ownBlock = some b → b ≠ pm
  lo : base ≤ pl ∧ base ≤ pm

set_option maxRecDepth 100000 in
set_option maxHeartbeats 2000000 in
/-- all's closure: one number more. -/
theorem yield_any {w : World} {base pl pm : Nat} {most : Int} {v : Value} {l : List Int} (h : YlAt w base pl pm most v l) (z : Int) (hl : l.length ≤ 5000) :
    Calls Tryd.prog 41 #[.int .i64 z, .pointer (some ⟨pl, 0, none⟩), .pointer (some ⟨pm, 0, none⟩)] w fun e w' => e = .returned (.bool (((l.length : Int) + 1) != most)) ∧
      ∃ v', YlAt w' base pl pm most v' (l ++ [z]) ∧ Fr (YlS pl v) w w' ∧ (v'.ownBlock = v.ownBlock ∨ ∃ b, v'.ownBlock = some b ∧ w.heap.size ≤ b) := by
  obtain ⟨i0, hi0, hz0, hz1, hz2⟩ := info_parts int_info
  obtain ⟨A, c, rfl⟩ := owns_form h.own
  obtain ⟨bl, bm, hown, hne, hlo1, hlo2⟩ := h
  have hplpm : pl ≠ pm := bl.ne bm (by decide)
  have hlt1 := bl.lt
  have hlt2 := bm.lt
  have hc0 : w.cell? ⟨pl, 0, none⟩ = some (.slice A l.length c) := bl.cell 0
  have hpl : ∀ b, (Value.slice A l.length c).ownBlock = some b → b ≠ pl := fun b hb e => owns_ne hown bl (by decide) (e ▸ hb)
  have hb0 : base ≤ w.heap.size := by omega
  have HO3 : Hid ((w.alloc (.cells #[.int .i64 z] 3)).ownsRow base 3 1 (.slice A l.length c) l.length (l.map (Value.int .i64))) := (hown : w.ownsRow _ _ _ _ _ _).alloc _
  have HR3 : Hid (Rd (w.alloc (.cells #[.int .i64 z] 3)) (w.heap.size + 1) (some ⟨w.heap.size, 0, none⟩) ([z].map (Value.int .i64))) := rd_lit w [z] rfl
  have HOw := Lib.hid hown
  have HNe := Lib.hid hne
  have HPl := Lib.hid hpl
  have HBl := Lib.hid bl
  have HBm := Lib.hid bm
  clear hown hne hpl bl bm
  go_enter Tryd.func41, Tryd.ntmps41
  go_wp2_with (at_builtin; refine wpList_append_rd rfl (.tmp 5) (.tmp 7) 26 rfl base 3 i0 (.int .i64 0) 8 Tryd.underlying26 hi0 hz0 hz1 hz2 rfl (.slice A l.length c) l.length _ rfl HO3.out _ (some ⟨w.heap.size, 0, none⟩) 1 1 ([z].map (Value.int .i64)) rfl rfl HR3.out (oneI _) (by simp [maxLen]; omega) (by simp; omega) (by simp; omega) ?_; intro v3 w3 hown0 hg hat; have hown3 : OwnI w3 base v3 (l ++ [z]) := (by simpa [OwnI] using hown0); obtain ⟨A3, c3, rfl⟩ := owns_form hown3; have hbl3 : Bk w3 pl 26 #[.slice A l.length c] := (HBl.out.alloc _).grown hg (fun e => HPl.out pl e.symm rfl); have hbm3 : Bk w3 pm 3 #[.int .i64 most] := (HBm.out.alloc _).grown hg (fun e => HNe.out pm e.symm rfl); have hc3 : w3.cell? ⟨pl, 0, none⟩ = some (.slice A l.length c) := hbl3.cell 0; have hf3 := hbl3.free 0; have hm3 : w3.cell? ⟨pm, 0, none⟩ = some (.int .i64 most) := hbm3.cell 0; have HB3 := Lib.hid hbl3; have HM3 := Lib.hid hbm3; have HO4 := Lib.hid hown3; clear hbl3 hbm3 hown3 hown0)
  go_ret
  have hgF : Fr (fun b => (Value.slice A l.length c).ownBlock = some b) w w3 := ((Fr.refl _ w).alloc _).grown hg fun b hb _ => hb
  have HO5 : OwnI w3 base (.slice A3 (l.length + 1) c3) (l ++ [z]) := by
    have := HO4.out
    rwa [show (l ++ [z]).length = l.length + 1 by simp] at this
  rw [show (l ++ [z]).length = l.length + 1 by simp] at hat
  have hapl : ∀ b, (Value.slice A3 (l.length + 1) c3).ownBlock = some b → b ≠ pl := fun b hb e => owns_ne HO5 HB3.out (by decide) (e ▸ hb)
  refine ⟨by simp, .slice A3 (l.length + 1) c3, ⟨HB3.out.set 0 _, HM3.out.far (fun e => hplpm e.symm) _, owns_same HO5 (fun b hb => Below.heap_setCell _ _ _ _ (hapl b hb)), fun b hb => ?_, hlo1, hlo2⟩, ?_, ?_⟩
  · rcases hat with h | h
    · exact HNe.out b (h ▸ hb)
    · have : b = w.heap.size + 1 := by rw [h] at hb; simpa using hb.symm
      omega
  · exact (hgF.mono fun _ _ h => .inr h).set _ _ fun _ => .inl rfl
  · rcases hat with h | h
    · exact .inl h
    · exact .inr ⟨_, h, by simp⟩

/-- What of a set lies below n, as ints. -/
def memI (f : Nat → Bool) (n : Nat) : List Int := ((List.range n).filter f).map fun k : Nat => (k : Int)
theorem memI_succ (f : Nat → Bool) (n : Nat) : memI f (n + 1) = memI f n ++ (if f n then [(n : Int)] else []) := by
  unfold memI
  rw [List.range_succ, List.filter_append]
  cases h : f n <;> simp [h]
theorem memI_length (f : Nat → Bool) (n : Nat) : (memI f n).length = cntB f n := by simp [memI, cntB]
/-- .. at most so many. -/
def tkI (most : Int) (l : List Int) : List Int := if 0 < most then l.take most.toNat else l

theorem memI_pre (f : Nat → Bool) {n m : Nat} (h : n ≤ m) : ∃ r, memI f m = memI f n ++ r := by
  induction m with
  | zero => obtain rfl : n = 0 := by omega
            exact ⟨[], by simp⟩
  | succ m ih =>
    rcases Nat.lt_or_ge m n with h2 | h2
    · obtain rfl : n = m + 1 := by omega
      exact ⟨[], by simp⟩
    · obtain ⟨r, hr⟩ := ih h2
      exact ⟨r ++ (if f m then [(m : Int)] else []), by rw [memI_succ, hr, List.append_assoc]⟩
theorem tkI_hit {f : Nat → Bool} {n m : Nat} {most : Int} (h : n ≤ m) (h0 : 0 < most) (hl : ((memI f n).length : Int) = most) : tkI most (memI f m) = memI f n := by
  obtain ⟨r, hr⟩ := memI_pre f h
  unfold tkI
  rw [if_pos h0, hr, List.take_append_of_le_length (by omega), List.take_of_length_le (by omega)]
theorem tkI_all {l : List Int} {most : Int} (h : 0 < most → (l.length : Int) ≤ most) : tkI most l = l := by
  unfold tkI
  split
  · exact List.take_of_length_le (by have := h (by assumption); omega)
  · rfl

structure AlRun (w0 w : World) (g gw size : Nat) (f : Nat → Bool) (ps pl pm : Nat) (most : Int) (v : Value) (l : List Int) : Prop where
  set : SetIs w g gw f size
  bs : Bk w ps 24 #[.pointer (some ⟨g, 0, none⟩)]
  yl : YlAt w w0.heap.size pl pm most v l
  lo : w0.heap.size ≤ ps
  hi : g < w0.heap.size ∧ gw < w0.heap.size
  below : Below w0.heap.size w0 w
theorem AlRun.step {w0 w w' : World} {g gw size ps pl pm : Nat} {f : Nat → Bool} {most : Int} {v v' : Value} {l l' : List Int} (h : AlRun w0 w g gw size f ps pl pm most v l) (hy : YlAt w' w0.heap.size pl pm most v' l') (hF : Fr (YlS pl v) w w') : AlRun w0 w' g gw size f ps pl pm most v' l' := by
  have hS : ∀ b, YlS pl v b → w0.heap.size ≤ b := fun b hb => by
    rcases hb with rfl | hb
    · exact h.yl.lo.1
    · exact (World.ownsRow.lt h.yl.own b hb).1
  refine ⟨h.set.fr hF (fun hh => by have := hS _ hh; have := h.hi; omega) (fun hh => by have := hS _ hh; have := h.hi; omega), h.bs.fr hF (fun hh => ?_), hy, h.lo, h.hi, h.below.trans (hF.below h.below.size fun k hk hh => by have := hS _ hh; omega)⟩
  rcases hh with hh | hh
  · exact h.bs.ne h.yl.bl (by decide) hh
  · exact owns_ne h.yl.own h.bs (by decide) hh

set_option maxRecDepth 100000 in
set_option maxHeartbeats 4000000 in
/-- The iterator, with all's body. -/
theorem iter_any {w0 w : World} {g gw size ps pl pm : Nat} {f : Nat → Bool} {most : Int} (hsz : size ≤ 4096) (h : AlRun w0 w g gw size f ps pl pm most (.slice none 0 0) []) :
    Calls Tryd.prog 54 #[.func (.func 41) #[] #[.pointer (some ⟨pl, 0, none⟩), .pointer (some ⟨pm, 0, none⟩)], .pointer (some ⟨ps, 0, none⟩)] w fun e w' => e = .returned (.tuple #[]) ∧ ∃ v, AlRun w0 w' g gw size f ps pl pm most v (tkI most (memI f size)) := by
  have HR := Lib.hid h
  have hc0 : w.cell? ⟨ps, 0, none⟩ = some (.pointer (some ⟨g, 0, none⟩)) := h.bs.cell 0
  have HS := Lib.hid (isSize h.set)
  clear h
  go_enter Tryd.func54, Tryd.ntmps54
  go_wp2_with (go_at_call 17; refine HS.out.mono ?_; rintro x w2 ⟨rfl, rfl⟩)
  go_loopw [6] (fun i wr => ∃ (n : Nat) (v : Value), n ≤ size ∧ i = .int .i64 n ∧ AlRun w0 wr g gw size f ps pl pm most v (memI f n) ∧ (0 < most → cntB f n < most)) (fun i _ => size - (intOf i).toNat)
  case atStart => exact ⟨0, _, Nat.zero_le _, rfl, HR.out, fun h => h⟩
  case round =>
    clear HR
    obtain ⟨n, v, hn, rfl, hR, hm⟩ := hrel
    rcases Nat.lt_or_ge n size with hlt | hge
    · have hps : wr.cell? ⟨ps, 0, none⟩ = some (.pointer (some ⟨g, 0, none⟩)) := hR.bs.cell 0
      have HH := Lib.hid (isHas hR.set (n : Int))
      rw [mayB_nat hlt, Int.toNat_natCast, Bool.true_and] at HH
      have hl5 : (memI f n).length ≤ 5000 := by rw [memI_length]; have := cntB_le f n; omega
      have HY := Lib.hid (yield_any hR.yl (n : Int) hl5)
      have HM1 := Lib.hid (memI_succ f n)
      have HC1 := Lib.hid (cntB_succ f n)
      cases hf : f n
      · rw [hf] at HH HM1 HC1
        go_wp2_with (go_at_call 13; refine HH.out.mono ?_; rintro x w2 ⟨rfl, rfl⟩)
        go_roundw
        case rel =>
          refine ⟨n + 1, v, by omega, by go_num, ?_, ?_⟩
          · rw [HM1.out]; simpa using hR
          · rw [HC1.out]; simpa using hm
        case measure => simp [intOf]; omega
      · rw [hf] at HH HM1 HC1
        by_cases hb : ((memI f n).length : Int) + 1 = most
        · have hbb : (((memI f n).length : Int) + 1 != most) = false := by simp [hb]
          rw [hbb] at HY
          go_wp2_with (first
            | (go_at_call 13; refine HH.out.mono ?_; rintro x w2 ⟨rfl, rfl⟩)
            | (go_at_call 41; refine HY.out.mono ?_; rintro x w3 ⟨rfl, v3, hy3, hF3, hv3⟩))
          refine bodyPost_ret (results_none (fn := Tryd.f54) rfl _ _ _) rfl ?_
          have e : memI f (n + 1) = memI f n ++ [(n : Int)] := by rw [HM1.out]; rfl
          refine ⟨rfl, v3, ?_⟩
          rw [tkI_hit (n := n + 1) (by omega) (by omega) (by rw [e]; simp; omega), e]
          exact hR.step hy3 hF3
        · have hbb : (((memI f n).length : Int) + 1 != most) = true := by simp [hb]
          rw [hbb] at HY
          go_wp2_with (first
            | (go_at_call 13; refine HH.out.mono ?_; rintro x w2 ⟨rfl, rfl⟩)
            | (go_at_call 41; refine HY.out.mono ?_; rintro x w3 ⟨rfl, v3, hy3, hF3, hv3⟩))
          go_roundw
          case rel =>
            refine ⟨n + 1, v3, by omega, by go_num, ?_, ?_⟩
            · rw [HM1.out]; exact hR.step hy3 hF3
            · rw [HC1.out]
              intro h0
              have h1 := hm h0
              rw [memI_length] at hb
              simp
              omega
          case measure => simp [intOf]; omega
    · obtain rfl : n = size := by omega
      go_wp2
      go_end0
      refine ⟨rfl, v, ?_⟩
      rw [tkI_all (fun h0 => by have := hm h0; rw [memI_length]; omega)]
      exact hR

theorem sAll (w : World) (x : Option Addr) : Calls Tryd.prog 40 #[.pointer x] w fun e w' => e = .returned (.func (.func 54) #[] #[.pointer (some ⟨w.heap.size, 0, none⟩)]) ∧ w' = w.alloc (.cells #[.pointer x] 24) := by
  have hmf : ∀ (fn : Fn) (first cap : Array Value) (w : World), (Instr.makeFunc fn first cap).run Tryd.prog w = .ok (.func fn first cap) w := fun _ _ _ _ => rfl
  go_enter Tryd.func40, Tryd.ntmps40
  go_wp2
  go_ret
  exact ⟨rfl, rfl⟩
/-- A new list, and how many are wanted, in cells of their own. -/
theorem yl_new {w : World} {base pl pm : Nat} {most : Int} (h1 : Bk w pl 26 #[.slice none 0 0]) (h2 : Bk w pm 3 #[.int .i64 most]) (b1 : base ≤ pl) (b2 : base ≤ pm) : YlAt w base pl pm most (.slice none 0 0) [] :=
  ⟨h1, h2, World.ownsRow_nil _ _ _ _, fun b hb => by simp [Value.ownBlock] at hb, b1, b2⟩

set_option maxRecDepth 100000 in
set_option maxHeartbeats 4000000 in
/-- The law's all. -/
theorem all_any {w : World} {g gw size : Nat} {f : Nat → Bool} (hS : SetIs w g gw f size) (hsz : size ≤ 4096) (most : Int) :
    Calls Tryd.prog 16 #[.pointer (some ⟨g, 0, none⟩), .int .i64 most] w fun e w' => ∃ A c, e = .returned (.tuple #[.slice A (tkI most (memI f size)).length c, .bool true]) ∧ OwnI w' w.heap.size (.slice A (tkI most (memI f size)).length c) (tkI most (memI f size)) ∧ Below w.heap.size w w' := by
  have hmf : ∀ (fn : Fn) (first cap : Array Value) (w : World), (Instr.makeFunc fn first cap).run Tryd.prog w = .ok (.func fn first cap) w := fun _ _ _ _ => rfl
  have heq : ∀ (W : World) (cap : Array Value), (binOp .eql 80 (.func (.func 54) #[] cap) .nilFunc).run Tryd.prog W = .ok (.bool false) W := fun _ _ => rfl
  have HS := Lib.hid hS
  have hlt := hS.lt
  clear hS
  have HI : Hid (∀ W ps pm pl, W = ((w.alloc (.cells #[.int .i64 most] 3)).alloc (.cells #[.pointer (some ⟨g, 0, none⟩)] 24)).alloc (.cells #[.slice none 0 0] 26) → pm = w.heap.size → ps = w.heap.size + 1 → pl = w.heap.size + 2 →
      Calls Tryd.prog 54 #[.func (.func 41) #[] #[.pointer (some ⟨pl, 0, none⟩), .pointer (some ⟨pm, 0, none⟩)], .pointer (some ⟨ps, 0, none⟩)] W fun e w' => e = .returned (.tuple #[]) ∧ ∃ v, AlRun w w' g gw size f ps pl pm most v (tkI most (memI f size))) := by
    rintro _ ps pm pl rfl h1 h2 h3
    have k1 : Bk (w.alloc (.cells #[.int .i64 most] 3)) pm 3 #[.int .i64 most] := Bk.new_at _ _ _ (by simpa using h1)
    have k2 : Bk ((w.alloc (.cells #[.int .i64 most] 3)).alloc (.cells #[.pointer (some ⟨g, 0, none⟩)] 24)) ps 24 #[.pointer (some ⟨g, 0, none⟩)] := Bk.new_at _ _ _ (by simpa using h2)
    have k3 : Bk (((w.alloc (.cells #[.int .i64 most] 3)).alloc (.cells #[.pointer (some ⟨g, 0, none⟩)] 24)).alloc (.cells #[.slice none 0 0] 26)) pl 26 #[.slice none 0 0] := Bk.new_at _ _ _ (by simpa using h3)
    have hF : Fr (fun _ => False) w (((w.alloc (.cells #[.int .i64 most] 3)).alloc (.cells #[.pointer (some ⟨g, 0, none⟩)] 24)).alloc (.cells #[.slice none 0 0] 26)) := (((Fr.refl _ w).alloc _).alloc _).alloc _
    exact iter_any hsz ⟨HS.out.fr hF id id, k2.alloc _, yl_new k3 ((k1.alloc _).alloc _) (by omega) (by omega), by omega, hlt, hF.below (Nat.le_refl _) fun _ _ => id⟩
  go_enter Tryd.func16, Tryd.ntmps16
  go_wp2_with (first
    | (go_at_call 54; refine (HI.out _ _ _ _ rfl rfl (by simp) (by simp)).mono ?_; rintro x w2 ⟨rfl, v, hR⟩; obtain ⟨A9, c9, rfl⟩ := owns_form hR.yl.own; have hcl := hR.yl.bl.cell 0)
    | (go_at_call 40; refine (sAll _ _).mono ?_; rintro x w2 ⟨rfl, rfl⟩))
  go_ret2
  exact ⟨A9, c9, rfl, hR.yl.own, hR.below⟩
end Go.Proofs.YtcbfaahnhdmagaaDoor
