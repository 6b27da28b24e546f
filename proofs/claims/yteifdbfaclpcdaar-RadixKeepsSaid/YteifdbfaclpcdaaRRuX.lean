/- The walk of gunnylaw04.RadixKeeps. -/
import Derived.Test.YteifdbfaclpcdaaRRuW
namespace Go.Proofs.YteifdbfaclpcdaaR.Ru
open Go.RowKit

theorem AtIs.ex {α : Type} : ∀ (L : List (Nat × α)) (key : Int), ∃ n b, AtIs L key n b
  | [], key => ⟨0, false, ⟨Nat.le_refl _, fun j e h => by omega, fun e he => by simp at he, fun _ => rfl⟩⟩
  | x :: r, key => by
    by_cases h : key ≤ x.1
    · exact ⟨0, decide ((x.1 : Int) = key), ⟨by omega, fun j e hj => by omega, fun e he => by
        simp at he
        subst he
        exact ⟨h, rfl⟩, fun hn => by simp at hn⟩⟩
    · obtain ⟨n, b, hb⟩ := AtIs.ex r key
      refine ⟨n + 1, b, ⟨by have := hb.le; simp; omega, fun j e hj he => ?_, fun e he => hb.here e (by simpa using he), fun hn => hb.out (by simpa using hn)⟩⟩
      rcases j with _ | j
      · simp at he
        subst he
        omega
      · exact hb.below j e (by omega) (by simpa using he)
/-- As many keys have something. -/
def Ghost (f : Nat → Option Value) (n : Nat) : Prop := ∃ L : Ks, Lists L f ∧ L.length = n
theorem Ghost.nil : Ghost (fun _ => none) 0 := ⟨[], Lists.nil, rfl⟩
theorem Ghost.pos {f : Nat → Option Value} {n : Nat} (h : Ghost f n) (k : Nat) (hk : f k ≠ none) : n ≠ 0 := by
  obtain ⟨L, h1, rfl⟩ := h
  exact Lists.pos h1 k hk
theorem Ghost.zero {f : Nat → Option Value} {n : Nat} (h : Ghost f n) (hf : ∀ q, f q = none) : n = 0 ∧ f = fun _ => none := by
  obtain ⟨L, h1, rfl⟩ := h
  refine ⟨?_, funext hf⟩
  rcases L with _ | ⟨e, r⟩
  · rfl
  · have := (h1.mem e.1 e.2).1 (by simp)
    rw [hf] at this
    cases this
theorem Ghost.set {f : Nat → Option Value} {n : Nat} (h : Ghost f n) (key : Int) (x : Value) : Ghost (setF f key x) (n + newK f key) := by
  obtain ⟨L, h1, rfl⟩ := h
  unfold setF newK
  cases hi : inK key
  · exact ⟨L, h1, by simp⟩
  · have hk : 0 ≤ key ∧ key < 65536 := by simpa [inK] using hi
    obtain ⟨k, rfl⟩ := Int.eq_ofNat_of_zero_le hk.1
    obtain ⟨m, b, hb⟩ := AtIs.ex L (k : Int)
    refine ⟨_, h1.set hb (by omega) x rfl, ?_⟩
    rw [h1.set_length hb x rfl, Int.toNat_natCast]
    cases f k <;> simp
theorem Ghost.drop {f : Nat → Option Value} {n : Nat} (h : Ghost f n) (key : Int) : Ghost (dropF f key) (if (getF f key).isSome then n - 1 else n) := by
  obtain ⟨L, h1, rfl⟩ := h
  unfold dropF
  cases hg : getF f key with
  | none => exact ⟨L, h1, rfl⟩
  | some u =>
    obtain ⟨m, b, hb⟩ := AtIs.ex L key
    rcases AtIs.hitF hb h1 with ⟨rfl, k, v, rfl, hv, hf⟩ | ⟨_, hn⟩
    · have hlt := (List.getElem?_eq_some_iff.1 hv).1
      refine ⟨_, h1.dropK hb, ?_⟩
      simp
      omega
    · rw [hn] at hg
      cases hg
theorem setF_dom {f : Nat → Option Value} {key : Int} {x : Value} {q : Nat} (h : setF f key x q ≠ none) : f q ≠ none ∨ (q : Int) = key := by
  unfold setF at h
  split at h
  · rename_i hi
    have hk : 0 ≤ key ∧ key < 65536 := by simpa [inK] using hi
    unfold updF at h
    split at h
    · right
      omega
    · exact .inl h
  · exact .inl h
theorem dropF_dom {f : Nat → Option Value} {key : Int} {q : Nat} (h : dropF f key q ≠ none) : f q ≠ none ∧ (q : Int) ≠ key := by
  unfold dropF at h
  split at h
  · rename_i hs
    unfold updF at h
    split at h
    · exact absurd rfl h
    · refine ⟨h, fun e => ?_⟩
      rename_i hne
      exact hne (by omega)
  · rename_i hs
    refine ⟨h, fun e => hs ?_⟩
    subst e
    rw [getF_nat]
    cases hf : f q
    · exact absurd hf h
    · rfl
theorem getF_set {f : Nat → Option Value} (hlt : ∀ k, f k ≠ none → k < 65536) (key : Int) (x : Value) : getF (setF f key x) key = if inK key then some x else none := by
  unfold setF
  cases hi : inK key
  · have hk : ¬(0 ≤ key ∧ key < 65536) := by simpa [inK] using hi
    simp only [Bool.false_eq_true, if_false]
    unfold getF
    split
    · cases hf : f key.toNat with
      | none => rfl
      | some u => exact absurd ⟨by assumption, by have := hlt key.toNat (by rw [hf]; simp); omega⟩ hk
    · rfl
  · have hk : 0 ≤ key ∧ key < 65536 := by simpa [inK] using hi
    simp only [if_true]
    unfold getF updF
    rw [if_pos hk.1, if_pos rfl]
section
variable {w0 w w' : World} {g n : Nat} {f f' : Nat → Option Value} {v : Value} {L : Ks}
theorem Both.lt (h : Both w0 w g f n v L f') : ∀ k, f k ≠ none → k < 65536 := by
  obtain ⟨ex, nd, hT⟩ := h.tr
  exact hT.lt
theorem bTGet2 (h : Both w0 w g f n v L f') (key : Int) :
    Calls Try.prog 43 #[.pointer (some ⟨g, 0, none⟩), .int .i64 key] w fun e w' => e = .returned (.tuple #[(getF f key).getD vZero, .bool (getF f key).isSome]) ∧ Below w.heap.size w w' := by
  obtain ⟨ex, nd, hT⟩ := h.tr
  exact rGet hT key
theorem KAt.kp {w w' : World} {base : Nat} {v : Value} {L : Ks} (h : KAt w base v L) (hk : Kp w w') : KAt w' base v L := by
  refine ⟨owns_same h.row fun k hb => ?_, h.ok⟩
  rcases h.row.2 with ⟨rfl, _⟩ | ⟨g', cap, cur, rfl, _, hh, _⟩
  · simp [Value.ownBlock] at hb
  · have : g' = k := by simpa [Value.ownBlock] using hb
    subst this
    exact (hk _ _ _ (show Bk w g' _ _ from hh) (by decide) (by decide)).trans hh.symm
set_option maxRecDepth 100000 in
theorem rkeeps_great (w : World) (A : Option Addr) (c n : Nat) (d : Dd) (hl : 100 < n) (_hn : n ≤ 9223372036854775807) :
    Calls Try.prog 11 #[.slice A n c, .agg #[.int .i64 d.kind, .int .i64 d.key, .int .u64 d.v]] w fun e w' => e = .returned (.bool true) ∧ Below w.heap.size w w' := by
  have hli : (100 : Int) < n := by omega
  go_enter Try.func11, Try.ntmps11
  go_wp2_with (go_at_call 25; refine (rxLives _).mono ?_; rintro x w7 ⟨rfl, hB7⟩)
  go_ret
  exact ⟨rfl, ((Below.refl _ _).alloc (Nat.le_refl _) _).trans (hB7.mono (by simp))⟩
set_option maxRecDepth 100000 in
set_option maxHeartbeats 4000000 in
theorem rkeeps_any (w : World) (A : Option Addr) (c : Nat) (l : List Dd) (hA : DdsAt w w.heap.size A l) (hl : l.length ≤ 100) (d : Dd) :
    Calls Try.prog 11 #[.slice A l.length c, .agg #[.int .i64 d.kind, .int .i64 d.key, .int .u64 d.v]] w fun e w' => e = .returned (.bool true) ∧ Below w.heap.size w w' := by
  obtain ⟨dd, dk, dv⟩ := d
  have HA := Lib.hid hA
  clear hA
  go_enter Try.func11, Try.ntmps11
  go_wp2_with fail
  have HB0 : Hid (Below w.heap.size w (w.alloc (.cells #[.int .i64 dd, .int .i64 dk, .int .u64 dv] 74))) := (Below.refl _ _).alloc (Nat.le_refl _) _
  have HD0 : Hid (Bk (w.alloc (.cells #[.int .i64 dd, .int .i64 dk, .int .u64 dv] 74)) w.heap.size 74 #[.int .i64 dd, .int .i64 dk, .int .u64 dv]) := Bk.new _ _ _
  generalize hwa : w.alloc (.cells #[.int .i64 dd, .int .i64 dk, .int .u64 dv] 74) = wa at *
  clear hwa
  refine (bNew wa).mono ?_
  rintro e w1 ⟨g, rfl, h1⟩
  have H1 := Lib.hid h1
  clear h1
  go_wp2_with fail
  go_loopw [6] (fun i wr => ∃ (k : Nat) (f : Nat → Option Value) (n : Nat), k ≤ l.length ∧ i = .int .i64 k ∧ Both wa wr g f n (.slice none 0 0) [] (fun _ => none) ∧ Ghost f n ∧ n ≤ k ∧ ∀ q, f q ≠ none → ∃ i d, i < k ∧ l[i]? = some d ∧ (q : Int) = d.key) (fun i _ => l.length - (intOf i).toNat)
  case atStart => exact ⟨0, _, 0, Nat.zero_le _, rfl, H1.out, Ghost.nil, Nat.le_refl _, fun q hq => absurd rfl hq⟩
  case round =>
    clear H1
    obtain ⟨k, f, n, hk, rfl, hR, hG, hn, hdom⟩ := hrel
    have hsz0 := HB0.out.size
    have hszr := hR.below.size
    have HBw := Lib.hid (HB0.out.trans (hR.below.mono hsz0))
    rcases Nat.lt_or_ge k l.length with hlt | hge
    · have hd : l[k]? = some l[k] := by simp [hlt]
      obtain ⟨b, o, rfl, hbB, k0, k1, k2⟩ := (HA.out.below HBw.out) _ _ hd
      have HDom : Hid (∀ q, setF f l[k].key (.int .u64 l[k].v) q ≠ none → ∃ i d, i < k + 1 ∧ l[i]? = some d ∧ (q : Int) = d.key) := fun q hq => by
        rcases setF_dom hq with h | h
        · obtain ⟨i, d, h1, h2, h3⟩ := hdom q h
          exact ⟨i, d, by omega, h2, h3⟩
        · exact ⟨k, l[k], by omega, hd, h⟩
      generalize l[k] = d at *
      obtain ⟨ed, ek, ev⟩ := d
      simp only at k0 k1 k2 HDom
      have hR2 := hR.below0 ((Fr.refl (fun _ => False) wr).drewN 1).below0
      have HS := Lib.hid (bTSet hR2 ek (x := .int .u64 ev) ⟨_, rfl⟩ (by omega))
      have HG := Lib.hid (hG.set ek (.int .u64 ev))
      have hnk := newK_le f ek
      have hki : (k : Int) < l.length := by omega
      have hk0 : (0 : Int) ≤ k := by omega
      generalize setF f ek (.int .u64 ev) = f9 at *
      generalize newK f ek = nk at *
      clear hR hG hd hdom hR2 k0
      go_upto_region 7 with fail
      go_still_tail 11, (by kernel_rfl)
      change wpList _ _ _ _ _ wr.drew
      go_wp2_with fail
      refine HS.out.mono ?_
      rintro e w9 ⟨rfl, h9, -⟩
      have H9 := Lib.hid h9
      clear h9 HS k1 k2
      go_wp2_with fail
      go_roundw
      case rel => exact ⟨k + 1, f9, n + nk, by omega, by go_num, H9.out, HG.out, by omega, HDom.out⟩
      case measure => simp [intOf]; omega
    · obtain rfl : k = l.length := by omega
      have HT1 := Lib.hid (bFrom hR 0 (-1))
      rw [show ∀ (M : Ks), tkM (-1) M = M from fun M => by unfold tkM; rw [if_neg (by omega)]] at HT1
      have HR := Lib.hid hR
      have HG := Lib.hid hG
      have HDom := Lib.hid hdom
      obtain ⟨M, hM⟩ : ∃ M, M = seg f 0 0 65536 := ⟨_, rfl⟩
      rw [← hM] at HT1
      have HM := Lib.hid hM
      have hMl : M.length ≤ 65536 := by rw [hM]; exact seg_len _ _ _ _
      clear hR hG hdom hM
      go_wp2_with fail
      refine HT1.out.mono ?_
      rintro e wb ⟨A1, c1, rfl, hK1, hB1⟩
      have HRb := Lib.hid (HR.out.below0 hB1)
      have hDb : Bk wb w.heap.size 74 #[.int .i64 dd, .int .i64 dk, .int .u64 dv] := HD0.out.below HRb.out.below HD0.out.lt
      have q1 : wb.cell? ⟨w.heap.size, 1, none⟩ = some (.int .i64 dk) := hDb.cell 1
      have q2 : wb.cell? ⟨w.heap.size, 2, none⟩ = some (.int .u64 dv) := hDb.cell 2
      have HS := Lib.hid (bTSet HRb.out dk (x := .int .u64 dv) ⟨_, rfl⟩ (by omega))
      have HG9 := Lib.hid (HG.out.set dk (.int .u64 dv))
      have hnk := newK_le f dk
      obtain ⟨ik, y, hgd, his, hik1, hik⟩ : ∃ (ik : Bool) (y : Int), (getF (setF f dk (.int .u64 dv)) dk).getD vZero = .int .u64 y ∧ (getF (setF f dk (.int .u64 dv)) dk).isSome = ik ∧ inK dk = ik ∧ ((ik = true ∧ y = dv ∧ 0 ≤ dk ∧ dk < 65536) ∨ (ik = false ∧ ¬(0 ≤ dk ∧ dk < 65536))) := by
        rw [getF_set HRb.out.lt dk (.int .u64 dv)]
        cases hi : inK dk
        · exact ⟨false, 0, rfl, rfl, rfl, .inr ⟨rfl, by simpa [inK] using hi⟩⟩
        · have : 0 ≤ dk ∧ dk < 65536 := by simpa [inK] using hi
          exact ⟨true, dv, rfl, rfl, rfl, .inl ⟨rfl, rfl, this⟩⟩
      have HIk := Lib.hid hik
      have HGd := Lib.hid hgd
      have HIs := Lib.hid his
      rw [hik1] at HS
      have HK1 := Lib.hid hK1
      generalize newK f dk = nk at *
      clear hK1 hB1 hDb HT1 hik1 hik hgd his
      go_wp2_with fail
      refine HS.out.mono ?_
      rintro e wc ⟨rfl, hc, hKp⟩
      have HRc := Lib.hid hc
      have HKc := Lib.hid (HK1.out.kp hKp)
      have HGe := Lib.hid (bTGet2 hc dk)
      have hDc : Bk wc w.heap.size 74 #[.int .i64 dd, .int .i64 dk, .int .u64 dv] := HD0.out.below hc.below HD0.out.lt
      have q3 : wc.cell? ⟨w.heap.size, 1, none⟩ = some (.int .i64 dk) := hDc.cell 1
      rw [HGd.out, HIs.out] at HGe
      clear hc hKp hDc q1 q2 HS
      go_wp2_with fail
      refine HGe.out.mono ?_
      rintro e wd ⟨rfl, hBd⟩
      have HRd := Lib.hid (HRc.out.below0 hBd)
      have HKd := Lib.hid (HKc.out.below hBd)
      have hDd : Bk wd w.heap.size 74 #[.int .i64 dd, .int .i64 dk, .int .u64 dv] := HD0.out.below HRd.out.below HD0.out.lt
      have r1 : wd.cell? ⟨w.heap.size, 1, none⟩ = some (.int .i64 dk) := hDd.cell 1
      have r2 : wd.cell? ⟨w.heap.size, 2, none⟩ = some (.int .u64 dv) := hDd.cell 2
      clear hBd hDd q3 HGe
      go_upto_region 11 with fail
      go_cut [86] (fun s wx => s = .bool false ∧ wd = wx)
      case first =>
        rcases HIk.out with ⟨rfl, rfl, hin1, hin2⟩ | ⟨rfl, hin⟩
        · have hi1 := decide_eq_true hin1
          have hi2 := decide_eq_true hin2
          go_wp2
          go_meet
          exact ⟨rfl, rfl⟩
        · rcases Int.lt_or_le dk 0 with h0 | h0
          · have hi1 : decide (0 ≤ dk) = false := decide_eq_false (by omega)
            go_wp2
            go_meet
            exact ⟨rfl, rfl⟩
          · have hi1 : decide (0 ≤ dk) = true := decide_eq_true h0
            have hi2 : decide (dk < 65536) = false := decide_eq_false (by omega)
            go_wp2
            go_meet
            exact ⟨rfl, rfl⟩
      case rest =>
        obtain ⟨rfl, rfl⟩ := hcut
        obtain ⟨f9, hf9⟩ : ∃ f9, f9 = setF f dk (.int .u64 dv) := ⟨_, rfl⟩
        have HF9 : Hid (∀ q u, f q = some u → f9 q = some (if (q : Int) = dk then .int .u64 dv else u)) := fun q u hq => by
          rw [hf9]
          have hq2 := HR.out.lt q (by rw [hq]; simp)
          unfold setF
          by_cases e : (q : Int) = dk
          · have hi : inK dk = true := decide_eq_true (by omega)
            rw [if_pos e, if_pos hi]
            unfold updF
            rw [if_pos (by omega)]
          · rw [if_neg e]
            split
            · rename_i hi
              have hi2 : 0 ≤ dk ∧ dk < 65536 := by simpa [inK] using hi
              unfold updF
              rw [if_neg (by omega)]
              exact hq
            · exact hq
        have HMem : Hid (∀ e ∈ M, f e.1 = some e.2) := fun e he => by
          rw [HM.out] at he
          exact (mem_seg.1 he).2.2.2
        have HDom9 : Hid (∀ q, f9 q ≠ none → (q : Int) = dk ∨ ∃ i d, i < l.length ∧ l[i]? = some d ∧ (q : Int) = d.key) := fun q hq => by
          rw [hf9] at hq
          rcases setF_dom hq with h | h
          · exact .inr (HDom.out q h)
          · exact .inl h
        rw [← hf9] at HG9 HRc HRd
        have HN9 := hn
        clear hf9 HGd HIs r2
        go_wp2_with fail
        go_loopw [12] (fun i wr2 => ∃ k : Nat, k ≤ M.length ∧ i = .int .i64 k ∧ Below wd.heap.size wd wr2) (fun i _ => M.length - (intOf i).toNat)
        case atStart => exact ⟨0, Nat.zero_le _, rfl, Below.refl _ _⟩
        case round =>
          obtain ⟨k, hk2, rfl, hB2⟩ := hrel
          rcases Nat.lt_or_ge k M.length with hlt | hge2
          · have he : M[k]? = some M[k] := by simp [hlt]
            obtain ⟨g2, o2, rfl, hg2, c1', c2'⟩ := (HKd.out.below hB2).krd _ _ he
            have hmem := List.mem_of_getElem? he
            obtain ⟨z, hz⟩ := HKd.out.ok _ hmem
            have hfq : f M[k].1 = some M[k].2 := HMem.out _ hmem
            generalize M[k] = e at *
            obtain ⟨q, u⟩ := e
            simp only at c1' c2' hz hfq
            subst hz
            have h9 := HF9.out q _ hfq
            have HGe := Lib.hid (bTGet2 (HRd.out.below0 hB2) (q : Int))
            rw [getF_nat, h9] at HGe
            have r1' : wr.cell? ⟨w.heap.size, 1, none⟩ = some (.int .i64 dk) := (hB2.cell (p := ⟨w.heap.size, 1, none⟩) (by have := HRd.out.below.size; have := HD0.out.lt; show w.heap.size < _; omega)).trans r1
            have HB2 := Lib.hid hB2
            have hki : (k : Int) < M.length := by omega
            have hk0 : (0 : Int) ≤ k := by omega
            clear he hmem hfq h9 hB2
            by_cases e : (q : Int) = dk
            · rw [if_pos e] at HGe
              have hq1 : ((q : Int) != dk) = false := by rw [bne, beq_iff_eq.2 e]; rfl
              clear e
              go_wp2_with fail
              refine HGe.out.mono ?_
              rintro x we ⟨rfl, hBe⟩
              have s1 := (hBe.cell (p := ⟨g2, o2 + k * 2, none⟩) hg2).trans c1'
              have s2 := (hBe.cell (p := ⟨g2, o2 + k * 2 + 1, none⟩) hg2).trans c2'
              have s3 := (hBe.cell (p := ⟨w.heap.size, 1, none⟩) (World.block_lt_of_cell? _ _ r1')).trans r1'
              have HBe := Lib.hid (HB2.out.trans (hBe.mono HB2.out.size))
              clear hBe c1' c2' r1'
              go_upto_region 17 with fail
              go_quiet (fail)
              go_wp2
              go_roundw
              case rel => exact ⟨k + 1, by omega, by go_num, HBe.out.trans (((Fr.refl (fun _ => False) we).drewN _).below0.mono HBe.out.size)⟩
              case measure => simp [intOf]; omega
            · rw [if_neg e] at HGe
              have hq1 : ((q : Int) != dk) = true := by rw [bne, beq_eq_false_iff_ne.2 e]; rfl
              clear e
              go_wp2_with fail
              refine HGe.out.mono ?_
              rintro x we ⟨rfl, hBe⟩
              have s1 := (hBe.cell (p := ⟨g2, o2 + k * 2, none⟩) hg2).trans c1'
              have s2 := (hBe.cell (p := ⟨g2, o2 + k * 2 + 1, none⟩) hg2).trans c2'
              have s3 := (hBe.cell (p := ⟨w.heap.size, 1, none⟩) (World.block_lt_of_cell? _ _ r1')).trans r1'
              have HBe := Lib.hid (HB2.out.trans (hBe.mono HB2.out.size))
              clear hBe c1' c2' r1'
              go_upto_region 17 with fail
              go_quiet (fail)
              go_wp2
              go_roundw
              case rel => exact ⟨k + 1, by omega, by go_num, HBe.out.trans (((Fr.refl (fun _ => False) we).drewN _).below0.mono HBe.out.size)⟩
              case measure => simp [intOf]; omega
          · obtain rfl : k = M.length := by omega
            have HRx := Lib.hid (HRd.out.below0 hB2)
            have r1' : wr.cell? ⟨w.heap.size, 1, none⟩ = some (.int .i64 dk) := (hB2.cell (p := ⟨w.heap.size, 1, none⟩) (World.block_lt_of_cell? _ _ r1)).trans r1
            have HDr := Lib.hid (bTDrop HRx.out dk (by omega) HG9.out.pos)
            have HG10 := Lib.hid (HG9.out.drop dk)
            obtain ⟨f10, hf10⟩ : ∃ f10, f10 = dropF f9 dk := ⟨_, rfl⟩
            obtain ⟨n10, hn10⟩ : ∃ n10, n10 = (if (getF f9 dk).isSome = true then n + nk - 1 else n + nk) := ⟨_, rfl⟩
            have hn10l : n10 ≤ 1000 := by
              rw [hn10]
              split <;> omega
            have HDom10 : Hid (∀ q, f10 q ≠ none → ∃ i d, 0 ≤ i ∧ i < l.length ∧ l[i]? = some d ∧ (q : Int) = d.key) := fun q hq => by
              rw [hf10] at hq
              obtain ⟨h1, h2⟩ := dropF_dom hq
              rcases HDom9.out q h1 with h3 | ⟨i, d, h4, h5, h6⟩
              · exact absurd h3 h2
              · exact ⟨i, d, Nat.zero_le _, h4, h5, h6⟩
            rw [← hf10, ← hn10] at HDr HG10
            obtain ⟨y1, hy1⟩ := HRx.out.val dk
            rw [hy1] at HDr
            generalize (getF f9 dk).isSome = b1 at *
            clear hB2 hf10 hn10 r1 hy1
            go_wp2_with fail
            refine HDr.out.mono ?_
            rintro x we ⟨rfl, he10, -⟩
            have HRe := Lib.hid he10
            clear he10 HDr
            go_wp2_with fail
            go_loopw [15] (fun i wr3 => ∃ (k : Nat) (f : Nat → Option Value) (n : Nat), k ≤ l.length ∧ i = .int .i64 k ∧ Both wa wr3 g f n (.slice none 0 0) [] (fun _ => none) ∧ Ghost f n ∧ n ≤ 1000 ∧ ∀ q, f q ≠ none → ∃ i d, k ≤ i ∧ i < l.length ∧ l[i]? = some d ∧ (q : Int) = d.key) (fun i _ => l.length - (intOf i).toNat)
            case atStart => exact ⟨0, f10, n10, Nat.zero_le _, rfl, HRe.out, HG10.out, hn10l, HDom10.out⟩
            case round =>
              clear HRe HG10 HDom10 hn10l
              obtain ⟨k3, f3, n3, hk3, rfl, hR3, hG3, hn3, hdom3⟩ := hrel
              have HBw3 := Lib.hid (HB0.out.trans (hR3.below.mono hsz0))
              rcases Nat.lt_or_ge k3 l.length with hlt3 | hge3
              · have hd : l[k3]? = some l[k3] := by simp [hlt3]
                obtain ⟨b, o, rfl, hbB, k0, k1, k2⟩ := (HA.out.below HBw3.out) _ _ hd
                have HDom3 : Hid (∀ q, dropF f3 l[k3].key q ≠ none → ∃ i d, k3 + 1 ≤ i ∧ i < l.length ∧ l[i]? = some d ∧ (q : Int) = d.key) := fun q hq => by
                  obtain ⟨h1, h2⟩ := dropF_dom hq
                  obtain ⟨i, d, h3, h4, h5, h6⟩ := hdom3 q h1
                  refine ⟨i, d, ?_, h4, h5, h6⟩
                  rcases Nat.eq_or_lt_of_le h3 with h7 | h7
                  · subst h7
                    rw [hd] at h5
                    injection h5 with h5
                    rw [← h5] at h6
                    exact absurd h6 h2
                  · exact h7
                generalize l[k3] = d at *
                obtain ⟨ed, ek, ev⟩ := d
                simp only at k0 k1 k2 HDom3
                have HDr := Lib.hid (bTDrop hR3 ek (by omega) hG3.pos)
                have HG4 := Lib.hid (hG3.drop ek)
                obtain ⟨f4, hf4⟩ : ∃ f4, f4 = dropF f3 ek := ⟨_, rfl⟩
                obtain ⟨n4, hn4⟩ : ∃ n4, n4 = (if (getF f3 ek).isSome = true then n3 - 1 else n3) := ⟨_, rfl⟩
                have hn4l : n4 ≤ 1000 := by
                  rw [hn4]
                  split <;> omega
                rw [← hf4, ← hn4] at HDr HG4
                rw [← hf4] at HDom3
                obtain ⟨y2, hy2⟩ := hR3.val ek
                rw [hy2] at HDr
                generalize (getF f3 ek).isSome = b2 at *
                clear hR3 hG3 hd hdom3 hf4 hn4 hy2 k0 k2
                go_wp2_with fail
                refine HDr.out.mono ?_
                rintro x wf ⟨rfl, hf, -⟩
                have HRf := Lib.hid hf
                clear hf HDr k1
                go_wp2_with fail
                go_roundw
                case rel => exact ⟨k3 + 1, f4, n4, by omega, by go_num, HRf.out, HG4.out, hn4l, HDom3.out⟩
                case measure => simp [intOf]; omega
              · obtain rfl : k3 = l.length := by omega
                obtain ⟨rfl, rfl⟩ := hG3.zero fun q => by
                  cases hq : f3 q with
                  | none => rfl
                  | some u =>
                    obtain ⟨i, d, h1, h2, _⟩ := hdom3 q (by rw [hq]; simp)
                    omega
                have HR3 := Lib.hid hR3
                have r3 : wr.cell? ⟨w.heap.size, 1, none⟩ = some (.int .i64 dk) := (HD0.out.below HR3.out.below HD0.out.lt).cell 1
                have HDr := Lib.hid (bTDrop HR3.out dk (by omega) (fun k h => absurd rfl h))
                have hg0 : getF (fun _ => (none : Option Value)) dk = none := by
                  unfold getF
                  split <;> rfl
                have hd0 : dropF (fun _ => (none : Option Value)) dk = fun _ => none := by
                  unfold dropF
                  rw [hg0]
                  rfl
                rw [hg0, hd0] at HDr
                clear hR3 hG3 hdom3 hg0 hd0
                go_wp2_with fail
                refine HDr.out.mono ?_
                rintro x wf ⟨rfl, hf, -⟩
                have HRf := Lib.hid hf
                have HLn := Lib.hid (bTLen hf)
                have HNd := Lib.hid (bTNodes hf)
                rw [show cntN (exL ((([] : Ks)).map (·.1))) = 0 from cntN_exL_nil] at HNd
                clear hf HDr r3
                go_wp2_with (first
                  | (go_at_call 44; refine HLn.out.mono ?_; rintro x w10 ⟨rfl, rfl⟩)
                  | (go_at_call 45; refine HNd.out.mono ?_; rintro x w10 ⟨rfl, rfl⟩)
                  | (go_at_call 25; refine (rxLives _).mono ?_; rintro x w7 ⟨rfl, hB7⟩))
                go_ret
                exact ⟨rfl, HB0.out.trans ((HRf.out.below.trans (hB7.mono HRf.out.below.size)).mono hsz0)⟩
end
end Go.Proofs.YteifdbfaclpcdaaR.Ru
