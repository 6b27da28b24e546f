/- Tokens' bytes: Put of the reference and of the program. -/
import Derived.Test.YtckdellcnoojaaaRRRTokA
import Derived.Test.YtckdellcnoojaaaRRRNumA
import Derived.Deep.DeepCutAuto
namespace Go.Proofs.YtckdellcnoojaaaRRR
open Go.RowKit

/-- A token's bytes. -/
def putT (l : List UInt8) (n d : Nat) : List UInt8 := if 0 < l.length then UInt8.ofNat (l.length - 1) :: l else [UInt8.ofNat (125 + n), UInt8.ofNat (d % 256), UInt8.ofNat (d / 256)]

theorem own_lit (w : World) {base g : Nat} (l : List UInt8) (hg : g = w.heap.size) (hb : base ≤ g) (hl : l.length ≤ maxLen) : OwnY (w.alloc (.cells (l.map bv).toArray 5)) base (.slice (some ⟨g, 0, none⟩) l.length l.length) l := by
  subst hg
  exact ⟨by simp, .inr ⟨w.heap.size, l.length, _, rfl, hb, heap_alloc_new w _, Nat.le_refl _, hl, by simp, by simp [List.take_of_length_le]⟩⟩
theorem u8_small {n : Nat} (h : n ≤ 255) : (UInt8.ofNat n).toNat = n := by
  rw [UInt8.toNat_ofNat']
  exact Nat.mod_eq_of_lt (by omega)

set_option maxRecDepth 100000 in
set_option maxHeartbeats 1000000 in
theorem rPut_any {w : World} {B : Nat} {A : Option Addr} {c : Nat} {l : List UInt8} {n d : Int} (h : RdY w B A l) (hB : B ≤ w.heap.size) (hm : mayT l.length n d = true) :
    Calls Try.prog 32 #[.agg #[.slice A l.length c, .int .i64 n, .int .i64 d]] w fun e w' => ∃ A' c', e = .returned (.slice A' (putT l n.toNat d.toNat).length c') ∧ OwnY w' w.heap.size (.slice A' (putT l n.toNat d.toNat).length c') (putT l n.toNat d.toNat) ∧ Below w.heap.size w w' := by
  obtain ⟨i0, hi0, hz0, hz1, hz2⟩ := info_parts u8_info
  rcases Nat.eq_zero_or_pos l.length with h0 | h0
  · obtain rfl : l = [] := List.eq_nil_of_length_eq_zero h0
    obtain ⟨h1, h2, h3, h4⟩ := mayT_copy hm
    clear hm h0
    obtain ⟨n, rfl⟩ := Int.eq_ofNat_of_zero_le (show 0 ≤ n by omega)
    obtain ⟨d, rfl⟩ := Int.eq_ofNat_of_zero_le (show 0 ≤ d by omega)
    go_enter Try.func32, Try.ntmps32
    have e1 : (125 : Int) + (n : Int) = ((UInt8.ofNat (125 + n)).toNat : Int) := by rw [u8_small (by omega)]; omega
    have e2 : (d : Int) % 256 = ((UInt8.ofNat (d % 256)).toNat : Int) := by rw [u8_small (by omega)]; omega
    have e3 : (d : Int) / 256 = ((UInt8.ofNat (d / 256)).toNat : Int) := by rw [u8_small (by omega)]; omega
    have HP : Hid (putT [] n d = [UInt8.ofNat (125 + n), UInt8.ofNat (d % 256), UInt8.ofNat (d / 256)]) := rfl
    generalize UInt8.ofNat (125 + n) = x1 at *
    generalize UInt8.ofNat (d % 256) = x2 at *
    generalize UInt8.ofNat (d / 256) = x3 at *
    go_wp2
    go_ret
    rw [Int.toNat_natCast, Int.toNat_natCast, HP.out]
    exact ⟨_, 3, rfl, own_lit _ [x1, x2, x3] (by simp) (by omega) (by simp [maxLen]), ((Below.refl _ _).alloc (Nat.le_refl _) _).alloc (by simp) _⟩
  · obtain ⟨h1, rfl, rfl⟩ := mayT_lit hm h0
    have h0i : (0 : Int) < (l.length : Int) := by omega
    obtain ⟨ad, rfl, hab, _⟩ := h.at_ h0
    have hq : (l.length : Int) - 1 = ((UInt8.ofNat (l.length - 1)).toNat : Int) := by rw [u8_small (by omega)]; omega
    have HP : Hid (putT l 0 0 = UInt8.ofNat (l.length - 1) :: l) := by show _ = _; unfold putT; rw [if_pos h0]
    generalize UInt8.ofNat (l.length - 1) = x at *
    have HO : Hid (((w.alloc (.cells #[.slice (some ad) l.length c, .int .i64 0, .int .i64 0] 32)).alloc (.cells #[.int .u8 (x.toNat : Int)] 5)).ownsRow w.heap.size 5 1 (.slice (some ⟨w.heap.size + 1, 0, none⟩) 1 1) 1 ([x].map bv)) :=
      own_lit (w.alloc (.cells #[.slice (some ad) l.length c, .int .i64 0, .int .i64 0] 32)) [x] (by simp) (by omega) (by simp [maxLen])
    have hbb : Below w.heap.size w ((w.alloc (.cells #[.slice (some ad) l.length c, .int .i64 0, .int .i64 0] 32)).alloc (.cells #[.int .u8 (x.toNat : Int)] 5)) := ((Below.refl _ _).alloc (Nat.le_refl _) _).alloc (by simp) _
    have HR := Lib.hid (h.below' hbb hB)
    have HBB := Lib.hid hbb
    clear h hbb hm
    go_enter Try.func32, Try.ntmps32
    go_wp2_with (at_builtin; refine wpList_append_rd rfl (.tmp 12) (.tmp 14) 22 rfl w.heap.size 5 i0 (.int .u8 0) 1 Try.underlying22 hi0 hz0 hz1 hz2 rfl (.slice (some ⟨w.heap.size + 1, 0, none⟩) 1 1) 1 ([x].map bv) rfl HO.out B (some ad) l.length c (l.map bv) rfl (by simp) HR.out (oneY _) (by simp [maxLen]; omega) (by simp; omega) (by simp; omega) ?_; intro v2 w2 hown hg hat)
    have hO2 : OwnY w2 w.heap.size v2 (putT l 0 0) := by
      rw [HP.out]
      exact own_app (l := [x]) (m := l) (by simp) hown
    obtain ⟨A', c', rfl⟩ := hO2.form
    go_ret
    exact ⟨A', c', rfl, hO2, HBB.out.grown hg HBB.out.size (fun k hk => by simp [Value.ownBlock] at hk; omega)⟩

/-- A token: where its bytes lie, what they are, its length and distance. -/
structure Tk where
  A : Option Addr
  c : Nat
  b : List UInt8
  n : Int
  d : Int
instance : Inhabited Tk := ⟨⟨none, 0, [], 0, 0⟩⟩
def Tk.may (t : Tk) : Bool := mayT t.b.length t.n t.d
def Tk.put (t : Tk) : List UInt8 := putT t.b t.n.toNat t.d.toNat
/-- A slice of tokens. -/
def TksAt (w : World) (B : Nat) (A : Option Addr) (L : List Tk) : Prop :=
  ∀ i t, L[i]? = some t → ∃ b o, A = some ⟨b, o, none⟩ ∧ b < B ∧ w.cell? ⟨b, o + i * 3, none⟩ = some (.slice t.A t.b.length t.c) ∧ w.cell? ⟨b, o + i * 3 + 1, none⟩ = some (.int .i64 t.n) ∧ w.cell? ⟨b, o + i * 3 + 2, none⟩ = some (.int .i64 t.d) ∧ RdY w B t.A t.b
theorem TksAt.below {w w' : World} {B : Nat} {A : Option Addr} {L : List Tk} (h : TksAt w B A L) (hb : Below B w w') : TksAt w' B A L := fun i d hd => by
  obtain ⟨b, o, e, h1, h2, h3, h4, h5⟩ := h i d hd
  exact ⟨b, o, e, h1, (hb.cell (p := ⟨b, _, none⟩) h1).trans h2, (hb.cell (p := ⟨b, _, none⟩) h1).trans h3, (hb.cell (p := ⟨b, _, none⟩) h1).trans h4, h5.below hb⟩
theorem TksAt.below' {w w' : World} {B D : Nat} {A : Option Addr} {L : List Tk} (h : TksAt w B A L) (hb : Below D w w') (hD : B ≤ D) : TksAt w' B A L := h.below ⟨hb.os, hb.tape, hb.output, hb.size, fun k hk => hb.block k (by omega)⟩
theorem TksAt.get {w : World} {B : Nat} {A : Option Addr} {L : List Tk} (h : TksAt w B A L) {i : Nat} (hi : i < L.length) : ∃ t b o, L[i]? = some t ∧ A = some ⟨b, o, none⟩ ∧ b < B ∧ w.cell? ⟨b, o + i * 3, none⟩ = some (.slice t.A t.b.length t.c) ∧ w.cell? ⟨b, o + i * 3 + 1, none⟩ = some (.int .i64 t.n) ∧ w.cell? ⟨b, o + i * 3 + 2, none⟩ = some (.int .i64 t.d) ∧ RdY w B t.A t.b := by
  obtain ⟨b, o, h1⟩ := h i L[i] (by simp [hi])
  exact ⟨L[i], b, o, by simp [hi], h1⟩
/-- All tokens' bytes. -/
def putAll (L : List Tk) : List UInt8 := (L.map Tk.put).flatten
theorem putAll_succ {L : List Tk} {k : Nat} {t : Tk} (h : L[k]? = some t) : putAll (L.take (k + 1)) = putAll (L.take k) ++ t.put := by
  have hk := (List.getElem?_eq_some_iff.1 h).1
  rw [List.take_succ_eq_append_getElem hk, putAll, List.map_append, List.flatten_append]
  have e : L[k] = t := (List.getElem?_eq_some_iff.1 h).2
  simp [putAll, e]
theorem put_len {t : Tk} (h : t.may = true) : t.put.length ≤ 129 := by
  unfold Tk.put putT
  obtain ⟨h1, _⟩ := mayT_bd h
  split
  · simp; omega
  · simp
theorem putAll_len {L : List Tk} (h : ∀ t ∈ L, t.may = true) : (putAll L).length ≤ 129 * L.length := by
  induction L with
  | nil => simp [putAll]
  | cons t r ih =>
    have h1 := put_len (h t List.mem_cons_self)
    have h2 := ih (fun t ht => h t (List.mem_cons_of_mem _ ht))
    have e : putAll (t :: r) = t.put ++ putAll r := by simp [putAll]
    rw [e, List.length_append, List.length_cons]
    omega

theorem putT_copy (n d : Nat) (hd : d ≤ 4095) : putT [] n d = [UInt8.ofNat (125 + n)] ++ putN d 2 := by
  have e : d / 256 % 256 = d / 256 := Nat.mod_eq_of_lt (by omega)
  simp [putT, putN, List.range_succ, e]

set_option maxRecDepth 100000 in
set_option maxHeartbeats 4000000 in
/-- Put of tokens: their bytes; or none, if one may not be. -/
theorem tPut_any {w : World} {B : Nat} {A : Option Addr} {c : Nat} {L : List Tk} (h : TksAt w B A L) (hB : B ≤ w.heap.size) (hl : L.length ≤ 1000) (hL : ∀ t ∈ L, t.b.length ≤ 300) :
    Calls Try.prog 35 #[.slice A L.length c] w fun e w' => Below w.heap.size w w' ∧
      ((∃ A' c', e = .returned (.tuple #[.slice A' (putAll L).length c', .bool true]) ∧ OwnY w' w.heap.size (.slice A' (putAll L).length c') (putAll L) ∧ ∀ t ∈ L, t.may = true) ∨
       (e = .returned (.tuple #[.slice none 0 0, .bool false]) ∧ ∃ t ∈ L, t.may = false)) := by
  obtain ⟨i0, hi0, hz0, hz1, hz2⟩ := info_parts u8_info
  have HA := Lib.hid h
  have HL := Lib.hid hL
  clear h hL
  go_enter Try.func35, Try.ntmps35
  go_wp2
  go_loopw [4, 9] (fun v i wr => ∃ (k cv : Nat) (Av : Option Addr), k ≤ L.length ∧ i = .int .i64 k ∧ v = .slice Av (putAll (L.take k)).length cv ∧ OwnY wr w.heap.size (.slice Av (putAll (L.take k)).length cv) (putAll (L.take k)) ∧ Below w.heap.size w wr ∧ Hid (∀ t ∈ L.take k, t.may = true)) (fun _ i _ => L.length - (intOf i).toNat)
  case atStart => exact ⟨0, 0, none, Nat.zero_le _, rfl, rfl, OwnY.nil _ _, Below.refl _ _, fun t ht => by simp at ht⟩
  case round =>
    obtain ⟨k, cv, Av, hk, rfl, rfl, hO, hBl, HM⟩ := hrel
    have hpl : (putAll (L.take k)).length ≤ 129 * 1000 := Nat.le_trans (putAll_len HM.out) (Nat.mul_le_mul_left _ (Nat.le_trans (List.length_take_le _ _) (by omega)))
    rcases Nat.lt_or_ge k L.length with hlt | hge
    · obtain ⟨t, b, o, ht, rfl, hbB, hc1, hc2, hc3, hR⟩ := (HA.out.below' hBl hB).get hlt
      have hbl := HL.out t (List.mem_of_getElem? ht)
      have HS := Lib.hid (putAll_succ ht)
      have HTM := Lib.hid (List.mem_of_getElem? ht)
      have HM2 : Hid (t.may = true → ∀ t' ∈ L.take (k + 1), t'.may = true) := fun hm t' ht' => by
        rw [List.take_succ_eq_append_getElem hlt] at ht'
        rcases List.mem_append.1 ht' with h | h
        · exact HM.out t' h
        · simp only [List.mem_singleton] at h
          have e : L[k] = t := (List.getElem?_eq_some_iff.1 ht).2
          rw [h, e]; exact hm
      have HMay : Hid (∀ W, Calls Try.prog 33 #[.agg #[.slice t.A t.b.length t.c, .int .i64 t.n, .int .i64 t.d]] W fun e w' => e = .returned (.bool t.may) ∧ Below W.heap.size W w') := fun W => tMay_any W t.A t.b.length t.c t.n t.d (by omega)
      have HPt : Hid (t.put = putT t.b t.n.toNat t.d.toNat) := rfl
      have HMt : Hid (t.may = mayT t.b.length t.n t.d) := rfl
      generalize t.may = tm at *
      generalize t.put = tp at *
      obtain ⟨tA, tc, tb, tn, td⟩ := t
      simp only at hc1 hc2 hc3 hR hbl HMay HPt HMt
      clear ht
      cases tm
      · go_wp2_with (go_at_call 33; refine (HMay.out _).mono ?_; rintro e w2 ⟨rfl, hB2⟩; obtain ⟨hcc, hff⟩ := bcell hB2)
        go_ret2
        exact ⟨(hBl.alloc hBl.size _).trans (hB2.mono (by have := hBl.size; simp; omega)), .inr ⟨rfl, _, HTM.out, HMt.out.symm⟩⟩
      · have HM3 := Lib.hid (HM2.out rfl)
        have hmy := HMt.out.symm
        have hbl2 := hBl.size
        have hvlt : ∀ q, (Value.slice Av (putAll (L.take k)).length cv).ownBlock = some q → w.heap.size ≤ q ∧ q < wr.heap.size := fun q hq => hO.lt hq
        have HVL := Lib.hid hvlt
        have HLit := Lib.hid (fun W => tLit_any W tA tb.length tc tn td)
        have htop : Bk (wr.alloc (.cells #[.slice tA tb.length tc, .int .i64 tn, .int .i64 td] 24)) wr.heap.size 24 #[.slice tA tb.length tc, .int .i64 tn, .int .i64 td] := Bk.new _ _ _
        have hbA : Below wr.heap.size wr (wr.alloc (.cells #[.slice tA tb.length tc, .int .i64 tn, .int .i64 td] 24)) := (Below.refl _ _).alloc (Nat.le_refl _) _
        have HTop := Lib.hid htop
        have HBA := Lib.hid hbA
        have HOw := Lib.hid hO
        generalize putAll (L.take k) = pk at *
        clear hvlt htop hbA hO HM2 HM HMt
        rcases Nat.eq_zero_or_pos tb.length with h0 | h0
        · obtain rfl : tb = [] := List.eq_nil_of_length_eq_zero h0
          simp only [List.length_nil] at *
          obtain ⟨g1, g2, g3, g4⟩ := mayT_copy hmy
          obtain ⟨n, rfl⟩ := Int.eq_ofNat_of_zero_le (show 0 ≤ tn by omega)
          obtain ⟨d, rfl⟩ := Int.eq_ofNat_of_zero_le (show 0 ≤ td by omega)
          have e1 : (128 : Int) + (n : Int) - 3 = ((UInt8.ofNat (125 + n)).toNat : Int) := by rw [u8_small (by omega)]; omega
          have HPQ : Hid (tp = [UInt8.ofNat (125 + n)] ++ putN d 2) := HPt.out.trans (putT_copy n d (by omega))
          generalize UInt8.ofNat (125 + n) = x at *
          clear hmy h0 HPt
          go_upto_region 5 with (first
            | (go_at_call 33; refine (HMay.out _).mono ?_; rintro e w2 ⟨rfl, hB2⟩; obtain ⟨hcc, hff⟩ := bcell hB2)
            | (go_at_call 55; refine (HLit.out _).mono ?_; rintro e w3 ⟨rfl, hB3⟩; obtain ⟨hcc3, hff3⟩ := bcell hB3))
          have hT3 := (HTop.out.below' hB2).below' hB3
          have hBr : Below wr.heap.size wr w3 := (HBA.out.trans (hB2.mono (by simp))).trans (hB3.mono (by have := hB2.size; simp at this; omega))
          clear hcc hff hcc3 hff3 hB2 hB3
          have hf1 : w3.cell? ⟨wr.heap.size, 1, none⟩ = some (.int .i64 (n : Int)) := Bk.cell hT3 1
          have hO3 := HOw.out.below hBr
          have HO3 : Hid ((w3.alloc (.cells #[.int .u8 (x.toNat : Int)] 5)).ownsRow w.heap.size 5 1 (.slice Av pk.length cv) pk.length (pk.map bv)) := World.ownsRow.alloc hO3 _
          have HR3 := Lib.hid (rd_one w3 x rfl)
          have hsz := hBr.size
          clear hO3
          go_upto_region 6 with (at_builtin; refine wpList_append_rd rfl (.tmp 13) (.tmp 19) 22 rfl w.heap.size 5 i0 (.int .u8 0) 1 Try.underlying22 hi0 hz0 hz1 hz2 rfl (.slice Av pk.length cv) pk.length _ rfl HO3.out _ (some ⟨w3.heap.size, 0, none⟩) 1 1 ([x].map bv) rfl rfl HR3.out (oneY _) (by simp [maxLen]; omega) (by simp; omega) (by simp; omega) ?_; intro v4 w4 hown hg hat)
          have hO4 : OwnY w4 w.heap.size v4 (pk ++ [x]) := own_app rfl hown
          have hBr4 : Below w.heap.size w w4 := ((hBl.trans (hBr.mono hbl2)).alloc (by omega) _).grown hg (by simp; omega) (fun q hq => (HVL.out q hq).1)
          have hT4 : Bk w4 wr.heap.size 24 _ := (hT3.alloc _).grown hg (fun e => by have := HVL.out _ e.symm; omega)
          have hf2 : w4.cell? ⟨wr.heap.size, 2, none⟩ = some (.int .i64 (d : Int)) := Bk.cell hT4 2
          have hvl4 : ∀ q, v4.ownBlock = some q → w.heap.size ≤ q := fun q hq => (hO4.lt hq).1
          obtain ⟨A4, c4, rfl⟩ := hO4.form
          have HNum := Lib.hid (numPut_any (w := w4.alloc (.cells #[.int .u64 (d : Int)] 69)) (ad := ⟨w4.heap.size, 0, none⟩) (c := 1) 2 d (by omega) (by omega) (Bk.cell (Bk.new w4 69 #[.int .u64 (d : Int)]) 0) (by simp))
          have HO4 := Lib.hid (OwnY.below hO4 (w' := w4.alloc (.cells #[.int .u64 (d : Int)] 69)) ((Below.refl _ _).alloc (Nat.le_refl _) _))
          have HVL4 := Lib.hid hvl4
          have hsz4 := hBr4.size
          have hpl4 : (pk ++ [x]).length ≤ 129 * 1000 + 1 := by simp; omega
          generalize HPK0 : pk ++ [x] = pk4 at *
          have HPK := Lib.hid HPK0
          clear hown hg hat HO3 HR3 hT3 hf1 hO4 hvl4 HPK0
          go_wp2_with (first
            | (go_at_call 56; refine HNum.out.mono ?_; rintro e w5 ⟨A5, c5, rfl, hO5, hB5⟩; have HO5 := Lib.hid (HO4.out.below hB5); have HR5 := Lib.hid hO5.rd; have hsz5 := hB5.size)
            | (at_builtin; refine wpList_append_rd rfl (.tmp 21) (.tmp 26) 22 rfl w.heap.size 5 i0 (.int .u8 0) 1 Try.underlying22 hi0 hz0 hz1 hz2 rfl (.slice A4 pk4.length c4) pk4.length _ rfl HO5.out _ A5 2 c5 ((putN d 2).map bv) rfl (by simp [putN_len]) HR5.out (oneY _) (by simp [maxLen, putN_len]; omega) (by simp [putN_len]; omega) (by simp at hsz5; omega) ?_; intro v6 w6 hown hg hat))
          have hO6 : OwnY w6 w.heap.size v6 (putAll (L.take (k + 1))) := by
            rw [HS.out, HPQ.out, ← List.append_assoc, HPK.out]
            exact own_app (by simp [putN_len]) hown
          have hB6 : Below w.heap.size w w6 := ((hBr4.alloc hsz4 _).trans (hB5.mono (by simp; omega))).grown hg (by simp at hsz5; omega) (fun q hq => HVL4.out q hq)
          obtain ⟨A6, c6, rfl⟩ := hO6.form
          clear hown hg hat HO5 HR5
          go_wp2
          go_roundw
          case rel => exact ⟨k + 1, c6, A6, by omega, by go_num, rfl, hO6, hB6, HM3.out⟩
          case measure => simp [intOf]; omega
        · obtain ⟨g1, rfl, rfl⟩ := mayT_lit hmy h0
          obtain ⟨ad, rfl, hab, _⟩ := hR.at_ h0
          have hq : (tb.length : Int) - 1 = ((UInt8.ofNat (tb.length - 1)).toNat : Int) := by rw [u8_small (by omega)]; omega
          have HPQ : Hid (tp = [UInt8.ofNat (tb.length - 1)] ++ tb) := by show _ = _; rw [HPt.out]; unfold putT; rw [if_pos h0]; rfl
          have HLit2 : Hid (∀ W, Calls Try.prog 55 #[.agg #[.slice (some ad) tb.length tc, .int .i64 0, .int .i64 0]] W fun e w' => e = .returned (.bool true) ∧ Below W.heap.size W w') := fun W => by
            have := HLit.out W
            rwa [decide_eq_true h0] at this
          generalize UInt8.ofNat (tb.length - 1) = x at *
          have HR := Lib.hid hR
          clear hmy HPt HLit hR
          go_upto_region 10 with (first
            | (go_at_call 33; refine (HMay.out _).mono ?_; rintro e w2 ⟨rfl, hB2⟩; obtain ⟨hcc, hff⟩ := bcell hB2)
            | (go_at_call 55; refine (HLit2.out _).mono ?_; rintro e w3 ⟨rfl, hB3⟩; obtain ⟨hcc3, hff3⟩ := bcell hB3))
          have hT3 := (HTop.out.below' hB2).below' hB3
          have hBr : Below wr.heap.size wr w3 := (HBA.out.trans (hB2.mono (by simp))).trans (hB3.mono (by have := hB2.size; simp at this; omega))
          clear hcc hff hcc3 hff3 hB2 hB3
          have hf1 : w3.cell? ⟨wr.heap.size, 0, none⟩ = some (.slice (some ad) tb.length tc) := Bk.cell hT3 0
          have hO3 := HOw.out.below hBr
          have HO3 : Hid ((w3.alloc (.cells #[.int .u8 (x.toNat : Int)] 5)).ownsRow w.heap.size 5 1 (.slice Av pk.length cv) pk.length (pk.map bv)) := World.ownsRow.alloc hO3 _
          have HR3 := Lib.hid (rd_one w3 x rfl)
          have hsz := hBr.size
          clear hO3
          go_upto_region 11 with (at_builtin; refine wpList_append_rd rfl (.tmp 35) (.tmp 41) 22 rfl w.heap.size 5 i0 (.int .u8 0) 1 Try.underlying22 hi0 hz0 hz1 hz2 rfl (.slice Av pk.length cv) pk.length _ rfl HO3.out _ (some ⟨w3.heap.size, 0, none⟩) 1 1 ([x].map bv) rfl rfl HR3.out (oneY _) (by simp [maxLen]; omega) (by simp; omega) (by simp; omega) ?_; intro v4 w4 hown hg hat)
          have hO4 : OwnY w4 w.heap.size v4 (pk ++ [x]) := own_app rfl hown
          have hBr4 : Below w.heap.size w w4 := ((hBl.trans (hBr.mono hbl2)).alloc (by omega) _).grown hg (by simp; omega) (fun q hq => (HVL.out q hq).1)
          have hBr5 : Below w.heap.size wr w4 := ((hBr.mono hbl2).alloc (by omega) _).grown hg (by simp; omega) (fun q hq => (HVL.out q hq).1)
          have hT4 : Bk w4 wr.heap.size 24 _ := (hT3.alloc _).grown hg (fun e => by have := HVL.out _ e.symm; omega)
          have hf2 : w4.cell? ⟨wr.heap.size, 0, none⟩ = some (.slice (some ad) tb.length tc) := Bk.cell hT4 0
          have hvl4 : ∀ q, v4.ownBlock = some q → w.heap.size ≤ q := fun q hq => (hO4.lt hq).1
          obtain ⟨A4, c4, rfl⟩ := hO4.form
          have HO4 := Lib.hid hO4
          have HVL4 := Lib.hid hvl4
          have HR4 := Lib.hid (HR.out.below' hBr5 hB)
          have hsz4 := hBr4.size
          have hpl4 : (pk ++ [x]).length ≤ 129 * 1000 + 1 := by simp; omega
          generalize HPK0 : pk ++ [x] = pk4 at *
          have HPK := Lib.hid HPK0
          clear hown hg hat HO3 HR3 hT3 hf1 hO4 hvl4 HPK0
          go_wp2_with (at_builtin; refine wpList_append_rd rfl (.tmp 43) (.tmp 45) 22 rfl w.heap.size 5 i0 (.int .u8 0) 1 Try.underlying22 hi0 hz0 hz1 hz2 rfl (.slice A4 pk4.length c4) pk4.length _ rfl HO4.out B (some ad) tb.length tc (tb.map bv) rfl (by simp) HR4.out (oneY _) (by simp [maxLen]; omega) (by simp; omega) hsz4 ?_; intro v6 w6 hown hg hat)
          have hO6 : OwnY w6 w.heap.size v6 (putAll (L.take (k + 1))) := by
            rw [HS.out, HPQ.out, ← List.append_assoc, HPK.out]
            exact own_app (by simp) hown
          have hB6 : Below w.heap.size w w6 := hBr4.grown hg hsz4 (fun q hq => HVL4.out q hq)
          obtain ⟨A6, c6, rfl⟩ := hO6.form
          clear hown hg hat HO4 HR4
          go_wp2
          go_roundw
          case rel => exact ⟨k + 1, c6, A6, by omega, by go_num, rfl, hO6, hB6, HM3.out⟩
          case measure => simp [intOf]; omega
    · obtain rfl : k = L.length := by omega
      rw [List.take_of_length_le (Nat.le_refl _)] at *
      go_wp2
      go_ret2
      exact ⟨hBl, .inl ⟨Av, cv, rfl, hO, HM.out⟩⟩
end Go.Proofs.YtckdellcnoojaaaRRR
