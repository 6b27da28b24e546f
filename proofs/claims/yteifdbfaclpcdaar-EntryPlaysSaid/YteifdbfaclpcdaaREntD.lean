/- The walk of gunnylaw22.EntryRounds. -/
import Derived.Test.YteifdbfaclpcdaaREntC
namespace Go.Proofs.YteifdbfaclpcdaaR
open Go.RowKit

theorem nextOf_first {f : Nat → Bool} {L k : Nat} (h : nextOf f L = k + 1) (_hk : L % 512 ≤ k) : ∀ j, L % 512 ≤ j → j < k → f j = true := by
  intro j h1 h2
  unfold nextOf at h
  split at h
  · rename_i i hi
    rw [List.find?_range_eq_some] at hi
    have hi2 : i < 512 := by simpa using hi.2.1
    have h3 := hi.2.2 (j - L % 512) (by omega)
    have e : (L + (j - L % 512)) % 512 = j := by omega
    rw [e] at h3
    simpa using h3
  · omega
theorem nextOf_all {f : Nat → Bool} (L : Nat) (h : cntB f 512 = 512) : nextOf f L = 0 := by
  rcases hn : nextOf f L with _ | k
  · rfl
  · obtain ⟨hk, hf⟩ := nextOf_free hn
    have := cntB_lt hk hf
    omega
theorem cntB_cut {f : Nat → Bool} {m n : Nat} (h : ∀ j, j < n → f j = decide (j < m)) (hm : m ≤ n) : cntB f n = m := by
  induction n generalizing m with
  | zero =>
    obtain rfl : m = 0 := by omega
    rfl
  | succ n ih =>
    rw [cntB_succ, h n (by omega)]
    rcases Nat.lt_or_ge n m with h1 | h1
    · obtain rfl : m = n + 1 := by omega
      rw [cntB_all fun k hk => by rw [h k (by omega)]; simp; omega]
      simp
    · rw [ih (fun j hj => h j (by omega)) h1]
      simp; omega
theorem inB_one (f : Nat → Bool) {k : Nat} (hk : k < 512) : inB f (1 + (k : Int)) = f k := by
  rw [Int.add_comm]
  exact inB_succ f hk
theorem drop_one (f : Nat → Bool) {k : Nat} (hk : k < 512) : dropN f [1 + (k : Int)] = (f k).toNat ∧ cntB (dropE f [1 + (k : Int)]) 512 + (f k).toNat = cntB f 512 := by
  have h1 := inB_one f hk
  refine ⟨by simp [dropN, h1], ?_⟩
  show cntB (drop1 f (1 + (k : Int))) 512 + _ = _
  unfold drop1
  rw [h1]
  cases hf : f k
  · simp
  · have e : ((1 : Int) + (k : Int) - 1).toNat = k := by omega
    rw [if_pos rfl, e]
    have := cntB_upd f k false hk
    rw [hf] at this
    simpa using this

set_option maxRecDepth 100000 in
theorem rounds_great (w : World) (A : Option Addr) (c n : Nat) (hl : 600 < n) (hn : n ≤ 9223372036854775807) :
    Calls Try.prog 8 #[.slice A n c] w fun e w' => e = .returned (.bool true) ∧ Below w.heap.size w w' := by
  have hli : (600 : Int) < n := by omega
  go_enter Try.func8, Try.ntmps8
  go_wp2_with (go_at_call 37; refine (entLives _).mono ?_; rintro x w7 ⟨rfl, hB7⟩)
  go_ret
  exact ⟨rfl, hB7⟩

set_option maxRecDepth 100000 in
set_option maxHeartbeats 4000000 in
theorem rounds_any (w : World) (A : Option Addr) (c : Nat) (l : List Nat) (hA : RdU w w.heap.size A l) (hl : l.length ≤ 600) (hu : ∀ n ∈ l, n ≤ 65535) :
    Calls Try.prog 8 #[.slice A l.length c] w fun e w' => e = .returned (.bool true) ∧ Below w.heap.size w w' := by
  have HA := Lib.hid hA
  have HU := Lib.hid hu
  clear hA hu
  go_enter Try.func8, Try.ntmps8
  go_wp2_with (go_at_call 38; refine (eNew_any w).mono ?_; rintro x w1 ⟨e, g, gw, rfl, h1, hB1, b1, b2, b3⟩)
  have hS : ∀ b, b < w.heap.size → ¬ EntS e g gw b := fun b hb hh => by rcases hh with h | h | h <;> omega
  have h10 : EntAt w1 e g gw (fun _ => false) 0 := h1
  go_loopw [4] (fun i wr => ∃ (m : Nat) (f : Nat → Bool), m ≤ 512 ∧ i = .int .i64 ((m : Int) + 1) ∧ Hid (∀ j, j < 512 → f j = decide (j < m)) ∧ EntAt wr e g gw f m ∧ Below w.heap.size w wr) (fun i _ => 513 - (intOf i).toNat)
  case atStart => exact ⟨0, fun _ => false, by omega, rfl, fun j _ => by simp, h10, hB1⟩
  case round =>
    clear h1 h10 hB1
    obtain ⟨m, f, hm, rfl, HF, hE, hB⟩ := hrel
    rcases Nat.lt_or_ge m 512 with hlt | hge
    · have hf : f m = false := by rw [HF.out m hlt]; simp
      have HT := Lib.hid (eTake_at hE (Nat.mod_eq_of_lt hlt) hf)
      clear hf
      go_wp2_with (go_at_call 33; refine HT.out.mono ?_; rintro x w2 ⟨rfl, hE2, hF2⟩)
      go_roundw
      case rel =>
        refine ⟨m + 1, updB f m true, by omega, by go_num, fun j hj => ?_, hE2, hB.trans (hF2.below hB.size hS)⟩
        unfold updB
        split
        · subst_vars; simp
        · rw [HF.out j hj]; simp; omega
      case measure => simp [intOf]; omega
    · obtain rfl : m = 512 := by omega
      have hcn : cntB f 512 = 512 := cntB_cut HF.out (by omega)
      have HT := Lib.hid (eTake_none hE (nextOf_all 512 hcn))
      have HC := Lib.hid hcn
      clear hcn
      go_wp2_with (go_at_call 33; refine HT.out.mono ?_; rintro x w2 ⟨rfl, rfl⟩)
      clear HT
      go_loopw [9, 10] (fun fr i wi => ∃ (k n : Nat) (f : Nat → Bool), k ≤ l.length ∧ n ≤ k ∧ i = .int .i64 k ∧ fr = .int .i64 n ∧ Hid (cntB f 512 + n = 512) ∧ EntAt wi e g gw f 512 ∧ Below w.heap.size w wi) (fun _ i _ => l.length - (intOf i).toNat)
      case atStart => exact ⟨0, 0, f, by omega, by omega, rfl, rfl, HC.out, hE, hB⟩
      case round =>
        clear hE hB HC HF
        obtain ⟨k, n, f, hk, hn, rfl, rfl, HC, hE, hB⟩ := hrel
        rcases Nat.lt_or_ge k l.length with hkl | hkl
        · obtain ⟨ad, rfl, hab, hc⟩ := (HA.out.below hB).at_ hkl
          have hu : l[k]?.getD 0 ≤ 65535 := HU.out _ (by simp [hkl])
          generalize l[k]?.getD 0 = z at *
          have hmod : ((z : Int) % 512) = ((z % 512 : Nat) : Int) := by omega
          have hz : z % 512 < 512 := Nat.mod_lt _ (by omega)
          generalize z % 512 = q at *
          obtain ⟨hd1, hd2⟩ := drop_one f hz
          have hsz := hE.top.lt
          have hsz2 := hE.set.lt
          have HD := Lib.hid (eDrop_any (c := 1) (ks := [1 + (q : Int)]) (hE.fr ((Fr.refl (fun _ => False) wr).alloc _) id id id) (rd_lit wr [1 + (q : Int)] rfl) (by simp) (fun ad he _ hh => by
            injection he with he
            subst he
            rcases hh with h | h | h
            · simp at h; omega
            · simp at h; omega
            · simp at h; omega) (by simp; omega) (by simp))
          rw [hd1] at HD
          have hbn : (f q).toNat ≤ 1 := by cases f q <;> simp
          have HD2 := Lib.hid hd2
          generalize (f q).toNat = bn at *
          clear hd1 hd2
          go_wp2_with (go_at_call 35; refine HD.out.mono ?_; rintro x w2 ⟨rfl, hE2, hF2⟩)
          go_roundw
          case rel =>
            refine ⟨k + 1, n + bn, _, by omega, by omega, by go_num, by go_num, ?_, hE2, (hB.alloc hB.size _).trans (hF2.below (by have := hB.size; simp; omega) hS)⟩
            have h1 := HD2.out
            have h2 := HC.out
            show _ = _
            omega
          case measure => simp [intOf]; omega
        · obtain rfl : k = l.length := by omega
          have hcn : (cntB f 512 : Int) = 512 - (n : Int) := by have := HC.out; omega
          have HL := Lib.hid (eLen_any hE)
          rw [hcn] at HL
          clear hcn
          go_wp2_with (go_at_call 36; refine HL.out.mono ?_; rintro x w2 ⟨rfl, rfl⟩)
          clear HL
          have hrel0 : ∃ (m L last : Nat) (f : Nat → Bool), m ≤ n ∧ last ≤ 512 ∧ L % 512 = last % 512 ∧ (0 : Int) = m ∧ (0 : Int) = last ∧ Hid (cntB f 512 + n = 512 + m) ∧ Hid (∀ j, j < last → f j = true) ∧ EntAt wr e g gw f L ∧ Below w.heap.size w wr :=
            ⟨0, 512, 0, f, by omega, by omega, rfl, rfl, rfl, HC.out, fun j hj => by omega, hE, hB⟩
          clear hE hB HC
          go_loopw [11, 12] (fun la i wi => ∃ (m L last : Nat) (f : Nat → Bool), m ≤ n ∧ last ≤ 512 ∧ L % 512 = last % 512 ∧ i = .int .i64 m ∧ la = .int .i64 last ∧ Hid (cntB f 512 + n = 512 + m) ∧ Hid (∀ j, j < last → f j = true) ∧ EntAt wi e g gw f L ∧ Below w.heap.size w wi) (fun _ i _ => n - (intOf i).toNat)
          case atStart =>
            obtain ⟨m, L, last, f, h1, h2, h3, h4, h5, h6⟩ := hrel0
            exact ⟨m, L, last, f, h1, h2, h3, by rw [h4], by rw [h5], h6⟩
          case round =>
            clear hrel0
            obtain ⟨m, L, last, f, hm, hla, hL, rfl, rfl, HC, HP, hE, hB⟩ := hrel
            rcases Nat.lt_or_ge m n with hmn | hmn
            · have hcn : cntB f 512 < 512 := by have := HC.out; omega
              obtain ⟨q, hq, hq2, hqf⟩ := nextOf_some (last := L) hcn
              have hlq : last ≤ q := by
                rcases Nat.lt_or_ge q last with h | h
                · rw [HP.out q h] at hqf; cases hqf
                · exact h
              have hLq : L % 512 ≤ q := by omega
              have HN := Lib.hid (nextOf_first hq hLq)
              have HT := Lib.hid (eTake_some hE hq)
              have hcu := cntB_upd f q true hq2
              rw [hqf] at hcu
              have HCU := Lib.hid hcu
              have HL := Lib.hid hL
              clear hcn hq hqf hcu hLq hL
              go_wp2_with (go_at_call 33; refine HT.out.mono ?_; rintro x w2 ⟨rfl, hE2, hF2⟩)
              go_roundw
              case rel =>
                refine ⟨m + 1, q + 1, q + 1, updB f q true, by omega, by omega, rfl, by go_num, by go_num, ?_, fun j hj => ?_, hE2, hB.trans (hF2.below hB.size hS)⟩
                · have h1 := HCU.out
                  have h2 := HC.out
                  simp at h1
                  show _ = _
                  omega
                · unfold updB
                  split
                  · rfl
                  · rcases Nat.lt_or_ge j last with h | h
                    · exact HP.out j h
                    · exact HN.out j (by have := HL.out; have := Nat.mod_le last 512; omega) (by omega)
              case measure => simp [intOf]; omega
            · obtain rfl : m = n := by omega
              have hcn : cntB f 512 = 512 := by have := HC.out; omega
              have HT := Lib.hid (eTake_none hE (nextOf_all L hcn))
              have HL := Lib.hid (eLen_any hE)
              rw [hcn] at HL
              clear hcn hL
              go_wp2_with (first
                | (go_at_call 33; refine HT.out.mono ?_; rintro x w2 ⟨rfl, rfl⟩)
                | (go_at_call 36; refine HL.out.mono ?_; rintro x w2 ⟨rfl, rfl⟩)
                | (go_at_call 37; refine (entLives _).mono ?_; rintro x w7 ⟨rfl, hB7⟩))
              go_ret
              exact ⟨rfl, hB.trans (hB7.mono hB.size)⟩
end Go.Proofs.YteifdbfaclpcdaaR
