/- The reference's disk: Read and Write. -/
import Derived.Test.YtcbfaahnhdmagaaDskI
namespace Go.Proofs.Ytcbfaahnhdmagaa
open Go.RowKit

theorem Bk.set4 {w : World} {g : Nat} {t : TypeId} {x0 x1 x2 x3 : Value} (h : Bk w g t #[x0, x1, x2, x3]) (a b c d : Value) : Bk ((((w.setCell ⟨g, 0, none⟩ a).setCell ⟨g, 1, none⟩ b).setCell ⟨g, 2, none⟩ c).setCell ⟨g, 3, none⟩ d) g t #[a, b, c, d] := by
  simpa using (((h.set 0 a).set 1 b).set 2 c).set 3 d
theorem fr_set4 (w : World) (g : Nat) (a b c d : Value) : Fr (· = g) w ((((w.setCell ⟨g, 0, none⟩ a).setCell ⟨g, 1, none⟩ b).setCell ⟨g, 2, none⟩ c).setCell ⟨g, 3, none⟩ d) :=
  ((((Fr.refl (· = g) w).set ⟨g, 0, none⟩ a fun _ => rfl).set ⟨g, 1, none⟩ b fun _ => rfl).set ⟨g, 2, none⟩ c fun _ => rfl).set ⟨g, 3, none⟩ d fun _ => rfl
theorem refD_zero (w : World) : (zeroValue 52).run Try.prog w = .ok (.agg #[.int .i64 0, .slice none 0 0, .int .i64 0, .slice none 0 0]) w := by kernel_rfl

/-- The cells of the reference's disk. -/
def dC (m : Nat) (A : Option Addr) (n c a : Nat) (AL : Option Addr) (nL cL : Nat) : Array Value := #[.int .i64 m, .slice A n c, .int .i64 a, .slice AL nL cL]
set_option maxRecDepth 100000 in
set_option maxHeartbeats 1000000 in
theorem rRead_out (w : World) (A AL : Option Addr) (m a nA c nL cL : Nat) (n : Int) (hn : n < 0 ∨ (0 ≤ n ∧ (m : Int) ≤ n)) :
    Calls Try.prog 26 #[.agg #[.int .i64 m, .slice A nA c, .int .i64 a, .slice AL nL cL], .int .i64 n] w fun e w' => e = .returned (.tuple #[.agg #[.int .i64 m, .slice A nA c, .int .i64 a, .slice AL nL cL], .slice none 0 0, .int .i64 2]) ∧ Below w.heap.size w w' := by
  rcases hn with hn | ⟨hn, hn2⟩
  all_goals
    go_enter Try.func26, Try.ntmps26
    go_wp2
    go_returns
    exact ⟨rfl, ((Below.refl _ _).alloc (Nat.le_refl _) _).alloc (by simp) _⟩
set_option maxRecDepth 100000 in
set_option maxHeartbeats 1000000 in
theorem rRead_fail {w : World} {B : Nat} {A AL : Option Addr} {m a c nL cL : Nat} {l : List Bool} (hA : RdB w B A l) (hB : B ≤ w.heap.size) (ha : a ≤ 1000000) {n : Nat} (hn : n < m) (hx : l[a]?.getD false = true) :
    Calls Try.prog 26 #[.agg #[.int .i64 m, .slice A l.length c, .int .i64 a, .slice AL nL cL], .int .i64 n] w fun e w' => e = .returned (.tuple #[.agg #[.int .i64 m, .slice A l.length c, .int .i64 ((a : Int) + 1), .slice AL nL cL], .slice none 0 0, .int .i64 12]) ∧ Below w.heap.size w w' := by
  have HF : Hid (∀ W, Below w.heap.size w W → Calls Try.prog 16 #[.slice A l.length c, .int .i64 a] W fun e w' => e = .returned (.bool true) ∧ W = w') := fun W hW => by
    have := refFails_any (c := c) (hA.below (hW.mono hB)) a
    rwa [hx] at this
  have HW : Hid (Below w.heap.size w ((w.alloc (.cells #[.int .i64 m, .slice A l.length c, .int .i64 a, .slice AL nL cL] 52)).alloc (.cells #[.int .i64 0, .slice none 0 0, .int .i64 0, .slice none 0 0] 52))) := ((Below.refl _ _).alloc (Nat.le_refl _) _).alloc (by simp) _
  have hai : (a : Int) ≤ 1000000 := by omega
  clear hA hx
  go_enter Try.func26, Try.ntmps26
  go_wp2_with (go_at_call 16; refine (HF.out _ HW.out).mono ?_; rintro e w2 ⟨rfl, rfl⟩)
  go_returns
  exact ⟨rfl, ((Below.refl _ _).alloc (Nat.le_refl _) _).alloc (by simp) _⟩
set_option maxRecDepth 100000 in
set_option maxHeartbeats 2000000 in
theorem rRead_ok {w : World} {B base : Nat} {A AL : Option Addr} {m a c nL cL : Nat} {l : List Bool} {rs : List Wr} (hA : RdB w B A l) (hB : B ≤ w.heap.size) (hR : RefL w base (.slice AL nL cL) rs) (hl : rs.length ≤ 1000) (ha : a ≤ 1000000) {n : Nat} (hn : n < m) (hx : l[a]?.getD false = false) :
    Calls Try.prog 26 #[.agg #[.int .i64 m, .slice A l.length c, .int .i64 a, .slice AL nL cL], .int .i64 n] w fun e w' => ∃ A' c', e = .returned (.tuple #[.agg #[.int .i64 m, .slice A l.length c, .int .i64 ((a : Int) + 1), .slice AL nL cL], .slice A' 512 c', .int .i64 0]) ∧ OwnY w' w.heap.size (.slice A' 512 c') (pkW rs n) ∧ (pkW rs n).length = 512 ∧ Below w.heap.size w w' := by
  have HF : Hid (∀ W, Below w.heap.size w W → Calls Try.prog 16 #[.slice A l.length c, .int .i64 a] W fun e w' => e = .returned (.bool false) ∧ W = w') := fun W hW => by
    have := refFails_any (c := c) (hA.below (hW.mono hB)) a
    rwa [hx] at this
  have HW : Hid (Below w.heap.size w ((w.alloc (.cells #[.int .i64 m, .slice A l.length c, .int .i64 a, .slice AL nL cL] 52)).alloc (.cells #[.int .i64 0, .slice none 0 0, .int .i64 0, .slice none 0 0] 52))) := ((Below.refl _ _).alloc (Nat.le_refl _) _).alloc (by simp) _
  have hai : (a : Int) ≤ 1000000 := by omega
  have HP : Hid (∀ W, Below w.heap.size w W → Calls Try.prog 28 #[.agg #[.int .i64 m, .slice A l.length c, .int .i64 ((a : Int) + 1), .slice AL nL cL], .int .i64 n] W fun e w' => ∃ A' c', e = .returned (.slice A' 512 c') ∧ OwnY w' W.heap.size (.slice A' 512 c') (pkW rs n) ∧ (pkW rs n).length = 512 ∧ Below W.heap.size W w') := fun W hW => by
    have := rPeek_in (.slice A l.length c) m (a + 1) n (hR.below hW) hl hn
    rwa [show ((a + 1 : Nat) : Int) = (a : Int) + 1 by omega] at this
  clear hA hx hR
  go_enter Try.func26, Try.ntmps26
  go_upto_region 7 with (go_at_call 16; refine (HF.out _ HW.out).mono ?_; rintro e w2 ⟨rfl, rfl⟩)
  obtain ⟨w7, hw7⟩ : ∃ w7, w7 = (w.alloc (.cells #[.int .i64 m, .slice A l.length c, .int .i64 ((a : Int) + 1), .slice AL nL cL] 52)).alloc (.cells #[.int .i64 0, .slice none 0 0, .int .i64 0, .slice none 0 0] 52) := ⟨_, rfl⟩
  have hbD : Bk w7 w.heap.size 52 #[.int .i64 m, .slice A l.length c, .int .i64 ((a : Int) + 1), .slice AL nL cL] := by rw [hw7]; exact (Bk.new _ _ _).alloc _
  have hbZ : Bk w7 (w.heap.size + 1) 52 #[.int .i64 0, .slice none 0 0, .int .i64 0, .slice none 0 0] := by rw [hw7]; exact Bk.new_at _ _ _ (by simp)
  have hB7 : Below w.heap.size w w7 := by rw [hw7]; exact ((Below.refl _ _).alloc (Nat.le_refl _) _).alloc (by simp) _
  rw [← hw7]
  clear hw7 HW HF
  have HB7 : Hid (Below w.heap.size w w7.drew) := ⟨hB7.os, hB7.tape, hB7.output, hB7.size, hB7.block⟩
  have HZ7 := Lib.hid hbZ.drew
  have HD7 := Lib.hid hbD.drew
  have k0 : w7.cell? ⟨w.heap.size, 0, none⟩ = some (.int .i64 m) := hbD.cell 0
  have k1 : w7.cell? ⟨w.heap.size, 1, none⟩ = some (.slice A l.length c) := hbD.cell 1
  have k2 : w7.cell? ⟨w.heap.size, 2, none⟩ = some (.int .i64 ((a : Int) + 1)) := hbD.cell 2
  have k3 : w7.cell? ⟨w.heap.size, 3, none⟩ = some (.slice AL nL cL) := hbD.cell 3
  have z0 : w7.cell? ⟨w.heap.size + 1, 0, none⟩ = some (.int .i64 0) := hbZ.cell 0
  have z1 : w7.cell? ⟨w.heap.size + 1, 1, none⟩ = some (.slice none 0 0) := hbZ.cell 1
  have z2 : w7.cell? ⟨w.heap.size + 1, 2, none⟩ = some (.int .i64 0) := hbZ.cell 2
  have z3 : w7.cell? ⟨w.heap.size + 1, 3, none⟩ = some (.slice none 0 0) := hbZ.cell 3
  have f0 := hbZ.free 0
  have f1 := hbZ.free 1
  have f2 := hbZ.free 2
  have f3 := hbZ.free 3
  have HI : Hid ((Try.prog.info? 52).map (·.size) = some (#[Value.int .i64 m, .slice A l.length c, .int .i64 ((a : Int) + 1), .slice AL nL cL] : Array Value).size) := d_info
  clear hB7 hbZ hbD
  go_region_held3 (fun W => W.cell? ⟨w.heap.size, 0, none⟩ = some (.int .i64 m) ∧ W.cell? ⟨w.heap.size, 1, none⟩ = some (.slice A l.length c) ∧ W.cell? ⟨w.heap.size, 2, none⟩ = some (.int .i64 ((a : Int) + 1)) ∧ W.cell? ⟨w.heap.size, 3, none⟩ = some (.slice AL nL cL)) (first | exact ⟨k0, k1, k2, k3⟩ | exact ⟨HD9.out.cell 0, HD9.out.cell 1, HD9.out.cell 2, HD9.out.cell 3⟩ | go_keep) (first
    | (go_at_call 28; refine (HP.out _ HB7.out).mono ?_; rintro e w9 ⟨A9, c9, rfl, hO9, hl9, hB9⟩; have HD9 := Lib.hid (HD7.out.below' hB9); have HZ9 := Lib.hid (HZ7.out.below' hB9); have y0 := HZ9.out.cell 0; have y1 := HZ9.out.cell 1; have y2 := HZ9.out.cell 2; have y3 := HZ9.out.cell 3; have g0 := HZ9.out.free 0; have g1 := HZ9.out.free 1; have g2 := HZ9.out.free 2; have g3 := HZ9.out.free 3))
  · go_wp2
    refine bodyPost_ret (results_ctt rfl _ _ (w.heap.size + 1) 52 #[.int .i64 m, .slice A l.length c, .int .i64 ((a : Int) + 1), .slice AL nL cL] _ (.slice A9 512 c9) (.int .i64 0) rfl rfl rfl (HZ9.out.set4 _ _ _ _) Try.underlying52 rfl HI.out) rfl ⟨A9, c9, rfl, ?_, hl9, ?_⟩
    · exact OwnY.weaken (own_fr hO9 (fr_set4 w9 (w.heap.size + 1) _ _ _ _) (fun k h1 h2 h3 => by have := HZ7.out.lt; omega)) HB7.out.size
    · exact (HB7.out.trans (hB9.mono HB7.out.size)).trans ((fr_set4 w9 (w.heap.size + 1) _ _ _ _).below (HB7.out.trans (hB9.mono HB7.out.size)).size fun k hk e => by omega)
end Go.Proofs.Ytcbfaahnhdmagaa
