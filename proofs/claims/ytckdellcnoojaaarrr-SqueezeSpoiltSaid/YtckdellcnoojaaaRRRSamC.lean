/- The reference's Of. -/
import Derived.Test.YtckdellcnoojaaaRRRSamB
import Derived.Deep.DeepCutAuto
namespace Go.Proofs.YtckdellcnoojaaaRRR
open Go.RowKit

set_option maxHeartbeats 1000000 in
theorem rOf_len {w : World} {A : Option Addr} {n c : Nat} (hn : n ≠ 4096) :
    Calls Try.prog 42 #[.slice A n c] w fun e w' => e = .returned (.tuple #[.int .u64 0, .bool false]) ∧ w = w' := by
  have h1 : ((n : Int) != 4096) = true := bne_iff_ne.2 (by omega)
  go_enter Try.func42, Try.ntmps42
  go_wp2
  go_ret2
  exact ⟨rfl, rfl⟩

set_option maxRecDepth 100000 in
set_option maxHeartbeats 2000000 in
theorem rOf_any {w : World} {B : Nat} {A : Option Addr} {c : Nat} {p : List UInt8} (h : RdY w B A p) (hl : p.length = 4096) (ok : Bool) (hok : ok = true → ∀ i, 8 ≤ i → i < 4096 → p[i]?.getD 0 = p[i % 8]?.getD 0) (hno : ok = false → ∃ i, 8 ≤ i ∧ i < 4096 ∧ p[i]?.getD 0 ≠ p[i % 8]?.getD 0) :
    Calls Try.prog 42 #[.slice A p.length c] w fun e w' => e = .returned (.tuple #[.int .u64 (if ok then getN p 0 8 else 0 : Nat), .bool ok]) ∧ ∃ n, w' = w.drewN n := by
  have HR := Lib.hid h
  have HOk := Lib.hid hok
  have HNo := Lib.hid hno
  have HG := Lib.hid (fun n => rGet8_any (w := w.drewN n) (c := c) (h.drewN n) (by omega) 0 (by omega))
  have HL := Lib.hid hl
  clear hok hno
  obtain ⟨g, o, rfl⟩ : ∃ g o, A = some ⟨g, o, none⟩ := by
    obtain ⟨ad, rfl, _, _⟩ := h.at_ (k := 0) (by omega)
    obtain ⟨g, o, s⟩ := ad
    have := World.cell?_spot (h.cell (k := 0) (by omega))
    have hs : s = none := by simpa [Addr.add] using this
    exact ⟨g, o, by rw [hs]⟩
  have hlt : ∀ k, k < 4096 → w.cell? ⟨g, o + k, none⟩ = some (.int .u8 ((p[k]?.getD 0).toNat : Int)) := fun k hk => by
    have := h.cell (k := k) (by omega)
    rwa [show (⟨g, o, none⟩ : Addr).add k = ⟨g, o + k, none⟩ by unfold Addr.add; split <;> simp_all] at this
  have HC := Lib.hid hlt
  obtain ⟨m, hm⟩ : ∃ m, p.length = m := ⟨_, rfl⟩
  rw [hm] at HG hl ⊢
  subst hl
  clear h hm hlt
  go_enter Try.func42, Try.ntmps42
  go_wp2
  go_loopw [4] (fun j wr => ∃ n nq : Nat, 8 ≤ n ∧ n ≤ 4096 ∧ j = .int .i64 n ∧ wr = w.drewN nq ∧ Hid (∀ i, 8 ≤ i → i < n → p[i]?.getD 0 = p[i % 8]?.getD 0)) (fun j _ => 4096 - (intOf j).toNat)
  case atStart => exact ⟨8, 0, Nat.le_refl _, by omega, rfl, rfl, fun i h1 h2 => by omega⟩
  case round =>
    obtain ⟨n, nq, h8, hn, rfl, rfl, HS⟩ := hrel
    rcases Nat.lt_or_ge n 4096 with h | h
    · have hni : (n : Int) < 4096 := by omega
      obtain ⟨q, hq, hq8⟩ : ∃ q, n % 8 = q ∧ q < 8 := ⟨_, rfl, by omega⟩
      have hqi : (n : Int) % 8 = (q : Int) := by omega
      have hqi8 : (q : Int) < 4096 := by omega
      have hq4 : q < 4096 := by omega
      have k1 : w.cell? ⟨g, o + n, none⟩ = some (.int .u8 ((p[n]?.getD 0).toNat : Int)) := HC.out n h
      have k2 : w.cell? ⟨g, o + q, none⟩ = some (.int .u8 ((p[q]?.getD 0).toNat : Int)) := HC.out q hq4
      by_cases hxy : p[n]?.getD 0 = p[q]?.getD 0
      · have HS2 : Hid (∀ i, 8 ≤ i → i < n + 1 → p[i]?.getD 0 = p[i % 8]?.getD 0) := fun i h1 h2 => by
          rcases Nat.lt_or_ge i n with h3 | h3
          · exact HS.out i h1 h3
          · obtain rfl : i = n := by omega
            rw [hq]; exact hxy
        rw [hxy] at k1
        generalize p[q]?.getD 0 = x at *
        clear hxy
        go_upto_region 6 with fail
        go_quiet (fail)
        go_wp2
        go_roundw
        case rel => exact ⟨n + 1, _, by omega, by omega, by go_num, rfl, HS2⟩
        case measure => simp [intOf]; omega
      · have hf : ok = false := by
          cases ok
          · rfl
          · exact absurd (HOk.out rfl n h8 h) (by rw [hq]; exact hxy)
        subst hf
        have hb : (((p[n]?.getD 0).toNat : Int) != ((p[q]?.getD 0).toNat : Int)) = true := bne_iff_ne.2 (fun e => hxy (UInt8.toNat.inj (by omega)))
        generalize (p[n]?.getD 0).toNat = x at *
        generalize (p[q]?.getD 0).toNat = y at *
        clear hxy
        go_upto_region 6 with fail
        go_quiet (fail)
        go_wp2
        go_ret2
        exact ⟨rfl, _, rfl⟩
    · obtain rfl : n = 4096 := by omega
      have ht : ok = true := by
        cases ok
        · obtain ⟨i, h1, h2, h3⟩ := HNo.out rfl
          exact absurd (HS.out i h1 h2) h3
        · rfl
      subst ht
      have HG1 := Lib.hid (HG.out nq)
      go_wp2_with (go_at_call 59; refine HG1.out.mono ?_; rintro e w2 ⟨rfl, rfl⟩)
      go_ret2
      exact ⟨rfl, _, rfl⟩
end Go.Proofs.YtckdellcnoojaaaRRR
