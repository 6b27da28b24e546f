/- A finder, and With of the program and of the reference. -/
import Derived.Test.YtckdellcnoojaaaRRRByt
import Derived.Test.YtckdellcnoojaaaRRRMatL
namespace Go.Proofs.YtckdellcnoojaaaRRR
open Go.RowKit

/-- The places that places lead to. -/
def lastCells (b : List UInt8) (k : Nat) : Array Value := ((List.range b.length).map fun i => Value.int .i64 (if i < k then (lastOf b i : Int) - 1 else 0)).toArray
/-- A finder at block g of bytes b; its blocks lie from base on. -/
structure FindAt (w : World) (base g gl : Nat) (v : Value) (b : List UInt8) : Prop where
  top : Bk w g 85 #[v, .slice (some ⟨gl, 0, none⟩) b.length b.length]
  own : OwnY w base v b
  row : Bk w gl 3 (lastCells b b.length)
  bg : base ≤ g
  bgl : base ≤ gl
  len : b.length ≤ 4096
theorem FindAt.fr {w w' : World} {S : Nat → Prop} {base g gl : Nat} {v : Value} {b : List UInt8} (h : FindAt w base g gl v b) (hf : Fr S w w') (hS : ∀ k, base ≤ k → ¬ S k) : FindAt w' base g gl v b :=
  ⟨h.top.fr hf (hS g h.bg), h.own.same fun k hk => hf.block k (h.own.lt hk).2 (hS k (h.own.lt hk).1), h.row.fr hf (hS gl h.bgl), h.bg, h.bgl, h.len⟩
theorem FindAt.drewN {w : World} {base g gl : Nat} {v : Value} {b : List UInt8} (h : FindAt w base g gl v b) (n : Nat) : FindAt (w.drewN n) base g gl v b := h.fr ((Fr.refl (fun _ => False) w).drewN n) fun _ _ => id

theorem fLen_any {w : World} {base g gl : Nat} {v : Value} {b : List UInt8} (h : FindAt w base g gl v b) :
    Calls Try.prog 25 #[.pointer (some ⟨g, 0, none⟩)] w fun e w' => e = .returned (.int .i64 b.length) ∧ w = w' := by
  obtain ⟨A, c, rfl⟩ := h.own.form
  have h0 : w.cell? ⟨g, 0, none⟩ = some (.slice A b.length c) := Bk.cell h.top 0
  clear h
  go_enter Try.func25, Try.ntmps25
  go_wp2
  go_ret
  exact ⟨rfl, rfl⟩
theorem fLen_nil (w : World) : Calls Try.prog 25 #[.pointer none] w fun e w' => e = .returned (.int .i64 0) ∧ w = w' := by
  go_enter Try.func25, Try.ntmps25
  go_wp2
  go_ret
  exact ⟨rfl, rfl⟩

/-- Places of which With is 0. -/
theorem withI_zero {b : List UInt8} {a p : Int} (h : p < 0 ∨ (0 ≤ p ∧ a ≤ p) ∨ (0 ≤ p ∧ p < a ∧ (b.length : Int) ≤ a)) : withI b a p = 0 := by
  unfold withI
  rw [if_neg (by omega)]

set_option maxRecDepth 100000 in
set_option maxHeartbeats 1000000 in
theorem fWith_any {w : World} {base g gl : Nat} {v : Value} {b : List UInt8} (h : FindAt w base g gl v b) (a p : Int) :
    Calls Try.prog 26 #[.pointer (some ⟨g, 0, none⟩), .int .i64 a, .int .i64 p] w fun e w' => e = .returned (.int .i64 (withI b a p)) ∧ ∃ n, w' = w.drewN n := by
  have HL := Lib.hid (fLen_any h)
  have hlen := h.len
  obtain ⟨A, c, rfl⟩ := h.own.form
  have h0 : w.cell? ⟨g, 0, none⟩ = some (.slice A b.length c) := Bk.cell h.top 0
  have HO := Lib.hid h.own
  clear h
  rcases Int.lt_or_le p 0 with h1 | h1
  · have HZ := Lib.hid (withI_zero (b := b) (a := a) (.inl h1))
    go_enter Try.func26, Try.ntmps26
    go_wp2
    go_ret
    exact ⟨by rw [HZ.out]; rfl, 0, rfl⟩
  rcases Int.lt_or_le p a with h2 | h2
  · rcases Int.lt_or_le a (b.length : Int) with h3 | h3
    · obtain ⟨p, rfl⟩ := Int.eq_ofNat_of_zero_le h1
      obtain ⟨a, rfl⟩ := Int.eq_ofNat_of_zero_le (show 0 ≤ a by omega)
      have h2' : p < a := by omega
      have h3' : a < b.length := by omega
      have HW : Hid (withI b (a : Int) (p : Int) = withN b a p) := by
        show _ = _
        unfold withI
        rw [if_pos ⟨h1, h2, h3⟩, Int.toNat_natCast, Int.toNat_natCast]
      clear h1 h2 h3
      obtain ⟨gb, rfl, _, _, hbc, _, hcell, _⟩ := HO.out.at_ (by omega)
      have HC := Lib.hid hcell
      clear hcell
      go_enter Try.func26, Try.ntmps26
      go_wp2_with (go_at_call 25; refine HL.out.mono ?_; rintro e w2 ⟨rfl, rfl⟩)
      go_loopw [7] (fun n wr => ∃ k m : Nat, n = .int .i64 k ∧ k ≤ 130 ∧ a + k ≤ b.length ∧ Hid (∀ j, j < k → okAt b a p j = true) ∧ wr = w.drewN m) (fun n _ => 130 - (intOf n).toNat)
      case atStart => exact ⟨0, 0, rfl, by omega, by omega, fun j hj => by omega, rfl⟩
      case round =>
        obtain ⟨k, m, rfl, hk, hak, HK, rfl⟩ := hrel
        rcases Nat.lt_or_ge k 130 with hk1 | hk1
        · have hw1 : IntKind.i64.wrap ((a : Int) + (k : Int)) = (a : Int) + (k : Int) := IntWalk.i64_in _ (by omega)
          have hki : (k : Int) < 130 := by omega
          have hw2 : (0 : Int) ≤ (a : Int) + (k : Int) := by omega
          have hw3 : ((a : Int) + (k : Int)).toNat = a + k := by omega
          rcases Nat.lt_or_ge (a + k) b.length with hk2 | hk2
          · have hq1 : IntKind.i64.wrap ((p : Int) + (k : Int)) = (p : Int) + (k : Int) := IntWalk.i64_in _ (by omega)
            have hq2 : (0 : Int) ≤ (p : Int) + (k : Int) := by omega
            have hq3 : ((p : Int) + (k : Int)).toNat = p + k := by omega
            have hk3 : (a : Int) + (k : Int) < (b.length : Int) := by omega
            have hq4 : (p : Int) + (k : Int) < (b.length : Int) := by omega
            have hc1 := HC.out (a + k) hk2
            have hc2 := HC.out (p + k) (by omega)
            have hbq := bv_eq (b[a + k]?.getD 0) (b[p + k]?.getD 0)
            have HE : Hid (okAt b a p k = (b[a + k]?.getD 0 == b[p + k]?.getD 0)) := by
              show _ = _
              simp [okAt, hk1, hk2]
            generalize b[a + k]?.getD 0 = x at *
            generalize b[p + k]?.getD 0 = y at *
            cases hxy : (x == y)
            all_goals
              rw [hxy] at HE hbq
              clear hxy
              go_wp2
              go_quiet (fail)
              clear hw1 hw2 hw3 hq1 hq2 hq3 hk3 hq4
              go_wp2
            · go_ret
              exact ⟨ret_int (by rw [HW.out, withN_eq HK.out HE.out]), m + nq, World.drewN_drewN _ _ _⟩
            · go_roundw
              case rel => exact ⟨k + 1, m + nq, by go_num, by omega, by omega, fun j hj => by
                rcases Nat.lt_or_ge j k with h | h
                · exact HK.out j h
                · obtain rfl : j = k := by omega
                  exact HE.out, (by first | rfl | exact World.drewN_drewN _ _ _)⟩
              case measure => simp [intOf]; omega
          · have hk3 : decide ((a : Int) + (k : Int) < (b.length : Int)) = false := by simp; omega
            have HE : Hid (okAt b a p k = false) := by
              show _ = _
              simp [okAt]; omega
            go_wp2
            go_quiet (fail)
            clear hw1 hw2 hw3 hk3
            go_wp2
            go_ret
            exact ⟨ret_int (by rw [HW.out, withN_eq HK.out HE.out]), m + nq, World.drewN_drewN _ _ _⟩
        · obtain rfl : k = 130 := by omega
          have HE : Hid (okAt b a p 130 = false) := by
            show _ = _
            simp [okAt]
          go_wp2
          go_quiet (fail)
          go_wp2
          go_ret
          exact ⟨ret_int (by rw [HW.out, withN_eq HK.out HE.out]), m + nq, World.drewN_drewN _ _ _⟩
    · have HZ := Lib.hid (withI_zero (b := b) (a := a) (p := p) (.inr (.inr ⟨h1, h2, h3⟩)))
      go_enter Try.func26, Try.ntmps26
      go_wp2_with (go_at_call 25; refine HL.out.mono ?_; rintro e w2 ⟨rfl, rfl⟩)
      go_ret
      exact ⟨by rw [HZ.out]; rfl, 0, rfl⟩
  · have HZ := Lib.hid (withI_zero (b := b) (a := a) (p := p) (.inr (.inl ⟨h1, h2⟩)))
    go_enter Try.func26, Try.ntmps26
    go_wp2
    go_ret
    exact ⟨by rw [HZ.out]; rfl, 0, rfl⟩

set_option maxRecDepth 100000 in
set_option maxHeartbeats 1000000 in
theorem refWith_any {w : World} {B : Nat} {A : Option Addr} {c : Nat} {b : List UInt8} (h : RdY w B A b) (hlen : b.length ≤ 100000) (a p : Int) :
    Calls Try.prog 29 #[.slice A b.length c, .int .i64 a, .int .i64 p] w fun e w' => e = .returned (.int .i64 (withI b a p)) ∧ ∃ n, w' = w.drewN n := by
  have HO := Lib.hid h
  clear h
  rcases Int.lt_or_le p 0 with h1 | h1
  · have HZ := Lib.hid (withI_zero (b := b) (a := a) (.inl h1))
    go_enter Try.func29, Try.ntmps29
    go_wp2
    go_ret
    exact ⟨by rw [HZ.out]; rfl, 0, rfl⟩
  rcases Int.lt_or_le p a with h2 | h2
  · rcases Int.lt_or_le a (b.length : Int) with h3 | h3
    · obtain ⟨p, rfl⟩ := Int.eq_ofNat_of_zero_le h1
      obtain ⟨a, rfl⟩ := Int.eq_ofNat_of_zero_le (show 0 ≤ a by omega)
      have h2' : p < a := by omega
      have h3' : a < b.length := by omega
      have HW : Hid (withI b (a : Int) (p : Int) = withN b a p) := by
        show _ = _
        unfold withI
        rw [if_pos ⟨h1, h2, h3⟩, Int.toNat_natCast, Int.toNat_natCast]
      clear h1 h2 h3
      obtain ⟨ad, rfl, _, _⟩ := HO.out.at_ (k := 0) (by omega)
      have HC : Hid (∀ k, k < b.length → w.cell? (ad.add k) = some (.int .u8 ((b[k]?.getD 0).toNat : Int))) := fun k hk => HO.out.cell hk
      go_enter Try.func29, Try.ntmps29
      go_wp2
      go_loopw [7] (fun n wr => ∃ k m : Nat, n = .int .i64 k ∧ k ≤ 130 ∧ a + k ≤ b.length ∧ Hid (∀ j, j < k → okAt b a p j = true) ∧ wr = w.drewN m) (fun n _ => 130 - (intOf n).toNat)
      case atStart => exact ⟨0, 0, rfl, by omega, by omega, fun j hj => by omega, rfl⟩
      case round =>
        obtain ⟨k, m, rfl, hk, hak, HK, rfl⟩ := hrel
        rcases Nat.lt_or_ge k 130 with hk1 | hk1
        · have hw1 : IntKind.i64.wrap ((a : Int) + (k : Int)) = (a : Int) + (k : Int) := IntWalk.i64_in _ (by omega)
          have hki : (k : Int) < 130 := by omega
          have hw2 : (0 : Int) ≤ (a : Int) + (k : Int) := by omega
          have hw3 : ((a : Int) + (k : Int)).toNat = a + k := by omega
          rcases Nat.lt_or_ge (a + k) b.length with hk2 | hk2
          · have hq1 : IntKind.i64.wrap ((p : Int) + (k : Int)) = (p : Int) + (k : Int) := IntWalk.i64_in _ (by omega)
            have hq2 : (0 : Int) ≤ (p : Int) + (k : Int) := by omega
            have hq3 : ((p : Int) + (k : Int)).toNat = p + k := by omega
            have hk3 : (a : Int) + (k : Int) < (b.length : Int) := by omega
            have hq4 : (p : Int) + (k : Int) < (b.length : Int) := by omega
            have hc1 := HC.out (a + k) hk2
            have hc2 := HC.out (p + k) (by omega)
            have hbq := bv_eq (b[a + k]?.getD 0) (b[p + k]?.getD 0)
            have HE : Hid (okAt b a p k = (b[a + k]?.getD 0 == b[p + k]?.getD 0)) := by
              show _ = _
              simp [okAt, hk1, hk2]
            generalize b[a + k]?.getD 0 = x at *
            generalize b[p + k]?.getD 0 = y at *
            cases hxy : (x == y)
            all_goals
              rw [hxy] at HE hbq
              clear hxy
              go_wp2
              go_quiet (fail)
              clear hw1 hw2 hw3 hq1 hq2 hq3 hk3 hq4
              go_wp2
            · go_ret
              exact ⟨ret_int (by rw [HW.out, withN_eq HK.out HE.out]), m + nq, World.drewN_drewN _ _ _⟩
            · go_roundw
              case rel => exact ⟨k + 1, m + nq, by go_num, by omega, by omega, fun j hj => by
                rcases Nat.lt_or_ge j k with h | h
                · exact HK.out j h
                · obtain rfl : j = k := by omega
                  exact HE.out, (by first | rfl | exact World.drewN_drewN _ _ _)⟩
              case measure => simp [intOf]; omega
          · have hk3 : decide ((a : Int) + (k : Int) < (b.length : Int)) = false := by simp; omega
            have HE : Hid (okAt b a p k = false) := by
              show _ = _
              simp [okAt]; omega
            go_wp2
            go_quiet (fail)
            clear hw1 hw2 hw3 hk3
            go_wp2
            go_ret
            exact ⟨ret_int (by rw [HW.out, withN_eq HK.out HE.out]), m + nq, World.drewN_drewN _ _ _⟩
        · obtain rfl : k = 130 := by omega
          have HE : Hid (okAt b a p 130 = false) := by
            show _ = _
            simp [okAt]
          go_wp2
          go_quiet (fail)
          go_wp2
          go_ret
          exact ⟨ret_int (by rw [HW.out, withN_eq HK.out HE.out]), m + nq, World.drewN_drewN _ _ _⟩
    · have HZ := Lib.hid (withI_zero (b := b) (a := a) (p := p) (.inr (.inr ⟨h1, h2, h3⟩)))
      go_enter Try.func29, Try.ntmps29
      go_wp2
      go_ret
      exact ⟨by rw [HZ.out]; rfl, 0, rfl⟩
  · have HZ := Lib.hid (withI_zero (b := b) (a := a) (p := p) (.inr (.inl ⟨h1, h2⟩)))
    go_enter Try.func29, Try.ntmps29
    go_wp2
    go_ret
    exact ⟨by rw [HZ.out]; rfl, 0, rfl⟩
end Go.Proofs.YtckdellcnoojaaaRRR
