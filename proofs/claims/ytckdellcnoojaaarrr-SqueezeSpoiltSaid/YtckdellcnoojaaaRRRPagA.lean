/- Pieces, and gunnylaw10.Page: some page of 4096 bytes. -/
import Derived.Test.YtckdellcnoojaaaRRRByt
import Derived.Test.YtckdellcnoojaaaRRRGyZero
namespace Go.Proofs.YtckdellcnoojaaaRRR
open Go.RowKit

/-- A piece: where its bytes lie, what they are, and how often they stand. -/
structure Pc where
  A : Option Addr
  c : Nat
  b : List UInt8
  many : Nat
instance : Inhabited Pc := ⟨⟨none, 0, [], 0⟩⟩
/-- A slice of pieces. -/
def PcsAt (w : World) (B : Nat) (A : Option Addr) (L : List Pc) : Prop :=
  ∀ i d, L[i]? = some d → ∃ b o, A = some ⟨b, o, none⟩ ∧ b < B ∧ w.cell? ⟨b, o + i * 2, none⟩ = some (.slice d.A d.b.length d.c) ∧ w.cell? ⟨b, o + i * 2 + 1, none⟩ = some (.int .u16 (d.many : Int)) ∧ RdY w B d.A d.b ∧ d.many ≤ 65535
theorem PcsAt.below {w w' : World} {B : Nat} {A : Option Addr} {L : List Pc} (h : PcsAt w B A L) (hb : Below B w w') : PcsAt w' B A L := fun i d hd => by
  obtain ⟨b, o, e, h1, h2, h3, h4, h5⟩ := h i d hd
  exact ⟨b, o, e, h1, (hb.cell (p := ⟨b, _, none⟩) h1).trans h2, (hb.cell (p := ⟨b, _, none⟩) h1).trans h3, h4.below hb, h5⟩
theorem PcsAt.below' {w w' : World} {B D : Nat} {A : Option Addr} {L : List Pc} (h : PcsAt w B A L) (hb : Below D w w') (hD : B ≤ D) : PcsAt w' B A L := h.below ⟨hb.os, hb.tape, hb.output, hb.size, fun k hk => hb.block k (by omega)⟩
theorem PcsAt.get {w : World} {B : Nat} {A : Option Addr} {L : List Pc} (h : PcsAt w B A L) {i : Nat} (hi : i < L.length) : ∃ d b o, L[i]? = some d ∧ A = some ⟨b, o, none⟩ ∧ b < B ∧ w.cell? ⟨b, o + i * 2, none⟩ = some (.slice d.A d.b.length d.c) ∧ w.cell? ⟨b, o + i * 2 + 1, none⟩ = some (.int .u16 (d.many : Int)) ∧ RdY w B d.A d.b ∧ d.many ≤ 65535 := by
  obtain ⟨b, o, h1⟩ := h i L[i] (by simp [hi])
  exact ⟨L[i], b, o, by simp [hi], h1⟩

theorem OwnY.cut {w : World} {base : Nat} {A : Option Addr} {n c : Nat} {l : List UInt8} (h : OwnY w base (.slice A n c) l) {k : Nat} (hk : k ≤ l.length) (h0 : 0 < l.length) : OwnY w base (.slice A k c) (l.take k) := by
  rcases h.2 with ⟨_, hv⟩ | ⟨g, cap, cur, hv, hb, hg, hnc, hcm, hcs, htake⟩
  · simp at hv
    subst hv
    simp at h0
  · injection hv with h1 h2 h3
    subst h1 h2 h3
    have hlk : (l.take k).length = k := by rw [List.length_take]; omega
    refine ⟨by simp, .inr ⟨g, c, cur, by rw [hlk], hb, hg, by omega, hcm, hcs, ?_⟩⟩
    rw [Nat.mul_one] at htake ⊢
    rw [hlk, List.map_take, ← htake, List.take_take, Nat.min_eq_left hk]

theorem own_zeros {w : World} {base n q : Nat} {v : Value} {l : List UInt8} (hl : l.length = n) (h : w.ownsRow base 5 1 v (n + q) (l.map bv ++ List.replicate q (.int .u8 0))) : OwnY w base v (l ++ List.replicate q 0) := by
  have e : (l ++ List.replicate q (0 : UInt8)).map bv = l.map bv ++ List.replicate q (.int .u8 0) := by
    rw [List.map_append, List.map_replicate]
    rfl
  unfold OwnY
  rw [e, List.length_append, List.length_replicate, hl]
  exact h
theorem page_close {w0 w w' : World} {n q : Nat} {v v' : Value} {l : List UInt8} (hb : Below w0.heap.size w0 w) (ho : ∀ k, v.ownBlock = some k → w0.heap.size ≤ k) (hl : l.length = n) (hn : n + q = 4096) (h : w'.ownsRow w0.heap.size 5 1 v' (n + q) (l.map bv ++ List.replicate q (.int .u8 0))) (hg : w.grownBy w' v.ownBlock) :
    ∃ (A' : Option Addr) (c' : Nat) (p : List UInt8), Ending.returned v' = .returned (.slice A' 4096 c') ∧ p.length = 4096 ∧ OwnY w' w0.heap.size (.slice A' 4096 c') p ∧ Below w0.heap.size w0 w' := by
  have h2 := own_zeros hl h
  have hlen : (l ++ List.replicate q (0 : UInt8)).length = 4096 := by simp; omega
  obtain ⟨A', c', rfl⟩ := h2.form
  rw [hlen] at h2 ⊢
  exact ⟨A', c', _, rfl, hlen, h2, hb.grown hg hb.size ho⟩

set_option maxRecDepth 100000 in
set_option maxHeartbeats 4000000 in
/-- Page: 4096 bytes, the call's own. -/
theorem page_any {w : World} {B : Nat} {A : Option Addr} {c : Nat} {L : List Pc} (h : PcsAt w B A L) (hB : B ≤ w.heap.size) (hl : L.length ≤ 1000) (hL : ∀ d ∈ L, d.b.length ≤ 5000) :
    Calls Try.prog 30 #[.slice A L.length c] w fun e w' => ∃ (A' : Option Addr) (c' : Nat) (p : List UInt8), e = .returned (.slice A' 4096 c') ∧ p.length = 4096 ∧ OwnY w' w.heap.size (.slice A' 4096 c') p ∧ Below w.heap.size w w' := by
  obtain ⟨i0, hi0, hz0, hz1, hz2⟩ := info_parts u8_info
  have HA := Lib.hid h
  have HL := Lib.hid hL
  clear h hL
  go_enter Try.func30, Try.ntmps30
  go_wp2
  go_loopw [3, 4] (fun v i wr => ∃ (k cv : Nat) (Av : Option Addr) (p : List UInt8), k ≤ L.length ∧ i = .int .i64 k ∧ v = .slice Av p.length cv ∧ p.length ≤ 9095 ∧ OwnY wr w.heap.size (.slice Av p.length cv) p ∧ Below w.heap.size w wr) (fun _ i _ => L.length - (intOf i).toNat)
  case atStart => exact ⟨0, 0, none, [], Nat.zero_le _, rfl, rfl, by simp, OwnY.nil _ _, Below.refl _ _⟩
  case round =>
    obtain ⟨k, cv, Av, p, hk, rfl, rfl, hp, hO, hBl⟩ := hrel
    by_cases hin : k < L.length ∧ p.length < 4096
    · obtain ⟨hkl, hpl⟩ := hin
      have hpli : (p.length : Int) < 4096 := by omega
      obtain ⟨d, b, o, hd, rfl, hbB, hc1, hc2, hR, hm⟩ := (HA.out.below' hBl hB).get hkl
      have hbl := HL.out d (List.mem_of_getElem? hd)
      have HR := Lib.hid hR
      obtain ⟨bA, bc, bb, bm⟩ := d
      simp only at hc1 hc2 HR hbl hm
      clear hd hR
      go_wp2
      go_loopw [3, 5] (fun v j wi => ∃ (n cv : Nat) (Av : Option Addr) (p : List UInt8), n ≤ bm ∧ j = .int .i64 n ∧ v = .slice Av p.length cv ∧ p.length ≤ 9095 ∧ OwnY wi w.heap.size (.slice Av p.length cv) p ∧ Below w.heap.size w wi ∧ Below w.heap.size wr wi) (fun _ j _ => bm - (intOf j).toNat)
      case atStart => exact ⟨0, cv, Av, p, Nat.zero_le _, rfl, rfl, hp, hO, hBl, Below.refl _ _⟩
      case round =>
        obtain ⟨wo, rfl⟩ : ∃ wo : World, wo = wr := ⟨_, rfl⟩
        clear hO hp hpl hpli
        obtain ⟨n, cv, Av, p, hn, rfl, rfl, hp, hO, hBl2, hBr⟩ := hrel
        have hc1' : wo.cell? ⟨b, o + k * 2, none⟩ = some (.slice bA bb.length bc) := (hBr.cell (p := ⟨b, _, none⟩) (by show b < _; omega)).trans hc1
        have hc2' : wo.cell? ⟨b, o + k * 2 + 1, none⟩ = some (.int .u16 (bm : Int)) := (hBr.cell (p := ⟨b, _, none⟩) (by show b < _; omega)).trans hc2
        clear hc1 hc2
        have hbl2 := hBl2.size
        by_cases hgo : n < bm ∧ 0 < bb.length ∧ p.length < 4096
        · obtain ⟨g1, g2, g3⟩ := hgo
          have g2i : (0 : Int) < (bb.length : Int) := by omega
          have g3i : (p.length : Int) < 4096 := by omega
          have HO2 := Lib.hid hO
          have HR2 : Hid (Rd wo B bA (bb.map bv)) := Rd.below' HR.out hBr hB
          clear hO
          go_wp2_with (at_builtin; refine wpList_append_rd rfl (.tmp 41) (.tmp 46) 22 rfl w.heap.size 5 i0 (.int .u8 0) 1 Try.underlying22 hi0 hz0 hz1 hz2 rfl (.slice Av p.length cv) p.length _ rfl HO2.out B bA bb.length bc (bb.map bv) rfl (by simp) HR2.out (oneY bb) (by simp [maxLen]; omega) (by simp; omega) hbl2 ?_; intro v2 w2 hown hg hat)
          have hO3 : OwnY w2 w.heap.size v2 (p ++ bb) := by
            unfold OwnY
            rw [List.length_append, List.map_append]
            simpa using hown
          have hB3 := hBl2.grown hg hbl2 (fun k hk => (OwnY.lt HO2.out hk).1)
          have hB4 := hBr.grown hg hbl2 (fun k hk => (OwnY.lt HO2.out hk).1)
          obtain ⟨A3, c3, rfl⟩ := hO3.form
          clear hown hg hat
          go_wp2
          go_roundw
          case rel => exact ⟨n + 1, c3, A3, p ++ bb, by omega, by go_num, rfl, by simp; omega, hO3, hB3, hB4⟩
          case measure => simp [intOf]; omega
        · have hcase : (n = bm) ∨ (n < bm ∧ bb.length = 0) ∨ (n < bm ∧ 0 < bb.length ∧ decide ((p.length : Int) < 4096) = false) := by
            rcases Nat.lt_or_ge n bm with h1 | h1
            · rcases Nat.eq_zero_or_pos bb.length with h2 | h2
              · exact .inr (.inl ⟨h1, h2⟩)
              · exact .inr (.inr ⟨h1, h2, by simp; omega⟩)
            · exact .inl (by omega)
          clear hgo
          rcases hcase with rfl | ⟨g1, g2⟩ | ⟨g1, g2, g3⟩
          · go_wp2
            go_roundw
            case rel => exact ⟨k + 1, cv, Av, p, by omega, by go_num, rfl, hp, hO, hBl2⟩
            case measure => simp [intOf]; omega
          · go_wp2
            go_roundw
            case rel => exact ⟨k + 1, cv, Av, p, by omega, by go_num, rfl, hp, hO, hBl2⟩
            case measure => simp [intOf]; omega
          · have g2i : (0 : Int) < (bb.length : Int) := by omega
            go_wp2
            go_roundw
            case rel => exact ⟨k + 1, cv, Av, p, by omega, by go_num, rfl, hp, hO, hBl2⟩
            case measure => simp [intOf]; omega
    · rcases Nat.lt_or_ge 4096 p.length with h4 | h4
      · have h4i : (4096 : Int) < p.length := by omega
        have hn4 : decide ((p.length : Int) < 4096) = false := by simp; omega
        obtain ⟨gb, rfl, _, _, hcv, -, -, -⟩ := hO.at_ (by omega)
        have HC : Hid (wr.ownsRow w.heap.size 5 1 (.slice (some ⟨gb, 0, none⟩) 4096 cv) 4096 ((p.take 4096).map bv)) := by
          have := hO.cut (k := 4096) (by omega) (by omega)
          unfold OwnY at this
          rwa [List.length_take, Nat.min_eq_left (by omega)] at this
        have hlt : (p.take 4096).length = 4096 := by rw [List.length_take]; omega
        have HLT := Lib.hid hlt
        clear hlt hO
        have hsz := hBl.size
        have h4c : 4096 ≤ cv := by omega
        have hcase : k < L.length ∨ k = L.length := by omega
        rcases hcase with hk2 | rfl
        all_goals
          go_wp2_with (at_builtin; refine wpList_append_zeros rfl (.tmp 53) (.tmp 56) 22 3 rfl w.heap.size 5 i0 (.int .u8 0) 1 .i64 .i64 Try.underlying22 Try.underlying3 hi0 hz0 hz1 hz2 rfl rfl (.slice (some ⟨gb, 0, none⟩) 4096 cv) 4096 _ rfl HC.out 0 rfl (by simp [maxLen]) (by omega) hsz ?_; intro v2 w2 hown hg hat)
          go_ret
          exact page_close hBl (fun k hk => by simp [Value.ownBlock] at hk; omega) HLT.out rfl hown hg
      · obtain ⟨q, hq, hpq⟩ : ∃ q : Nat, p.length + q = 4096 ∧ (4096 : Int) - (p.length : Int) = (q : Int) := ⟨4096 - p.length, by omega, by omega⟩
        have hO2 := Lib.hid hO
        have HQ := Lib.hid hq
        have hq2 : q ≤ 4096 := by omega
        have hsz := hBl.size
        clear hO hq
        have hcase : (k < L.length ∧ decide ((p.length : Int) < 4096) = false) ∨ k = L.length := by
          rcases Nat.lt_or_ge k L.length with h | h
          · exact .inl ⟨h, by simp; omega⟩
          · exact .inr (by omega)
        clear hin
        rcases hcase with ⟨hk2, hn4⟩ | rfl
        all_goals
          go_wp2_with (at_builtin; refine wpList_append_zeros rfl (.tmp 53) (.tmp 56) 22 3 rfl w.heap.size 5 i0 (.int .u8 0) 1 .i64 .i64 Try.underlying22 Try.underlying3 hi0 hz0 hz1 hz2 rfl rfl (.slice Av p.length cv) p.length _ rfl hO2.out q rfl (by simp [maxLen]; omega) (by omega) hsz ?_; intro v2 w2 hown hg hat)
          go_ret
          exact page_close hBl (fun k hk => (OwnY.lt hO2.out hk).1) rfl HQ.out hown hg
end Go.Proofs.YtckdellcnoojaaaRRR
