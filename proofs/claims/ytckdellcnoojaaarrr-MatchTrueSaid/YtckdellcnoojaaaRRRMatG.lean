/- The walk of gunnylaw12.MatchTrue. -/
import Derived.Test.YtckdellcnoojaaaRRRMatF
import Derived.Test.YtckdellcnoojaaaRRRPagA
import Derived.Deep.CutBlock
namespace Go.Proofs.YtckdellcnoojaaaRRR
open Go.RowKit

/-- A slice of uint16. -/
def RdU (w : World) (B : Nat) (A : Option Addr) (l : List Nat) : Prop := Rd w B A (l.map fun n : Nat => Value.int .u16 (n : Int))
theorem RdU.at_ {w : World} {B : Nat} {A : Option Addr} {l : List Nat} (h : RdU w B A l) {k : Nat} (hk : k < l.length) :
    ∃ ad, A = some ad ∧ ad.block < B ∧ w.cell? (ad.add k) = some (.int .u16 (l[k]?.getD 0 : Nat)) := by
  obtain ⟨ad, e, hb, hc⟩ := h k (.int .u16 (l[k]?.getD 0 : Nat)) (by simp [hk])
  exact ⟨ad, e, hb, hc⟩
theorem RdU.below {w w' : World} {B : Nat} {A : Option Addr} {l : List Nat} (h : RdU w B A l) (hb : Below B w w') : RdU w' B A l := Rd.below h hb

set_option maxRecDepth 100000 in
set_option maxHeartbeats 1000000 in
theorem mtrue_great (w : World) (A A2 : Option Addr) (n c k c2 : Nat) (hl : 100 < n ∨ (n ≤ 100 ∧ 100 < k)) (hn : n ≤ 9223372036854775807) (hk : k ≤ 9223372036854775807) :
    Calls Try.prog 6 #[.slice A n c, .slice A2 k c2] w fun e w' => e = .returned (.bool true) ∧ Below w.heap.size w w' := by
  rcases hl with hl | ⟨hl, hl2⟩
  · have hli : (100 : Int) < n := by omega
    go_enter Try.func6, Try.ntmps6
    go_wp2_with (go_at_call 22; refine (matLives _).mono ?_; rintro x w7 ⟨rfl, hB7⟩)
    go_ret
    exact ⟨rfl, hB7⟩
  · have hli : (100 : Int) < k := by omega
    go_enter Try.func6, Try.ntmps6
    go_wp2_with (go_at_call 22; refine (matLives _).mono ?_; rintro x w7 ⟨rfl, hB7⟩)
    go_ret
    exact ⟨rfl, hB7⟩

/-- What is found at a place of a page. -/
theorem found_page {P : List UInt8} (hP : P.length = 4096) {a : Nat} (ha : a < 4096) :
    (findM P a = (0, 0, 0) ∧ (1 ≤ a → a + 3 ≤ 4096 → P[a - 1]?.getD 0 = P[a]?.getD 0 → P[a]?.getD 0 = P[a + 1]?.getD 0 → P[a + 1]?.getD 0 ≠ P[a + 2]?.getD 0)) ∨
    ∃ n d q : Nat, findM P a = (n, d, q) ∧ 3 ≤ n ∧ n ≤ 130 ∧ 1 ≤ d ∧ d ≤ a ∧ a + n ≤ 4096 ∧ (∀ k, k < n → P[a + k]?.getD 0 = P[a + k - d]?.getD 0) ∧ (n < 130 → a + n < 4096 → P[a + n]?.getD 0 ≠ P[a + n - d]?.getD 0) := by
  rcases foundM P a with ⟨h0, hn⟩ | ⟨_, p, h1, h2, h3, h4⟩
  · refine .inl ⟨h0, fun g1 g2 e1 e2 e3 => ?_⟩
    have := hn (a - 1) (by omega) (by omega)
    have h3 : 3 ≤ withN P a (a - 1) := withN_ge fun m hm => by
      have hm3 : m = 0 ∨ m = 1 ∨ m = 2 := by omega
      unfold okAt
      simp only [Bool.and_eq_true, decide_eq_true_eq, beq_iff_eq]
      refine ⟨by omega, by omega, ?_⟩
      rcases hm3 with rfl | rfl | rfl
      · exact e1.symm
      · rw [show a - 1 + 1 = a by omega]; exact e2.symm
      · rw [show a - 1 + 2 = a + 1 by omega]; exact e3.symm
    omega
  · refine .inr ⟨(findM P a).1, (findM P a).2.1, (findM P a).2.2, rfl, h4, ?_, by omega, by omega, ?_, fun k hk => ?_, fun g1 g2 => ?_⟩
    · rw [h3]; exact withN_le _ _ _
    · rw [h3]; have := withN_end P p (show a ≤ P.length by omega); omega
    · rw [h3] at hk
      rw [withN_same hk, show a + k - (findM P a).2.1 = p + k by omega]
    · rw [h3] at g1 g2 ⊢
      have := withN_next g1 (by omega)
      rwa [show a + withN P a p - (findM P a).2.1 = p + withN P a p by omega]
theorem findI_nat {P : List UInt8} {a : Nat} (ha : a < P.length) : findI P (a : Int) = findM P a := by
  unfold findI
  rw [if_pos (by omega), Int.toNat_natCast]

set_option maxRecDepth 100000 in
set_option maxHeartbeats 4000000 in
theorem mtrue_any {w : World} {A A2 : Option Addr} {c c2 : Nat} {L : List Pc} {ps : List Nat} (h : PcsAt w w.heap.size A L) (hl : L.length ≤ 100) (hP : RdU w w.heap.size A2 ps) (hl2 : ps.length ≤ 100) (hu : ∀ n ∈ ps, n ≤ 65535) (hLm : ∀ d ∈ L, d.b.length ≤ 9223372036854775807) :
    Calls Try.prog 6 #[.slice A L.length c, .slice A2 ps.length c2] w fun e w' => e = .returned (.bool true) ∧ Below w.heap.size w w' := by
  obtain ⟨i0, hi0, hz0, hz1, hz2⟩ := info_parts u8_info
  have HA := Lib.hid h
  have HP := Lib.hid hP
  have HU := Lib.hid hu
  have HM := Lib.hid hLm
  have hdl1 : decide ((100 : Int) < (L.length : Int)) = false := by simp; omega
  have hdl2 : decide ((100 : Int) < (ps.length : Int)) = false := by simp; omega
  clear h hP hu hLm
  go_enter Try.func6, Try.ntmps6
  go_wp2
  go_loop [5] (fun i => ∃ k : Nat, k ≤ L.length ∧ i = .int .i64 k ∧ Hid (∀ d ∈ L.take k, d.b.length ≤ 5000)) (fun i => L.length - (intOf i).toNat)
  case atStart => exact ⟨0, Nat.zero_le _, rfl, fun d hd => by simp at hd⟩
  case round =>
    obtain ⟨k, hk, rfl, HK⟩ := hrel
    rcases Nat.lt_or_ge k L.length with hlt | hge
    · obtain ⟨d, b, o, hd, rfl, hbB, hc1, _, _, _⟩ := HA.out.get hlt
      have hm := HM.out d (List.mem_of_getElem? hd)
      rcases Nat.lt_or_ge 5000 d.b.length with h5 | h5
      · have h5i : (5000 : Int) < d.b.length := by omega
        clear hd
        go_wp2_with (go_at_call 22; refine (matLives _).mono ?_; rintro x w7 ⟨rfl, hB7⟩)
        go_ret
        exact ⟨rfl, hB7⟩
      · have HK2 : Hid (∀ d ∈ L.take (k + 1), d.b.length ≤ 5000) := fun d' hd' => by
          rw [List.take_succ_eq_append_getElem hlt] at hd'
          rcases List.mem_append.1 hd' with h | h
          · exact HK.out d' h
          · simp only [List.mem_singleton] at h
            subst h
            simp [hlt] at hd
            rw [hd]; exact h5
        clear hd
        have h5i : (d.b.length : Int) ≤ 5000 := by omega
        go_wp2
        go_round
        case rel => exact ⟨k + 1, by omega, by go_num, HK2⟩
        case measure => simp [intOf]; omega
    · obtain rfl : k = L.length := by omega
      rw [List.take_of_length_le (Nat.le_refl _)] at HK
      have HPg := Lib.hid (page_any (c := c) HA.out (Nat.le_refl _) (by omega) HK.out)
      go_upto_region 9 with (go_at_call 30; refine HPg.out.mono ?_; rintro e w1 ⟨Ap, cp, P, rfl, hPl, hPo, hB1⟩)
      clear HPg HA HK HM
      obtain ⟨gp, rfl, hgp, hgp2, hcp, -, hPc, -⟩ := hPo.at_ (by omega)
      have HO := Lib.hid (World.ownsRow_made (base := w1.heap.size) (e := 5) (size := 1) w1 #[] 0 (Nat.le_refl _) (by decide) rfl)
      have HR2 : Hid (Rd (w1.alloc (.cells #[] 5)) w1.heap.size (some ⟨gp, 0, none⟩) (P.map bv)) := hPo.rd.below ((Below.refl w1.heap.size w1).alloc (Nat.le_refl _) (.cells #[] 5))
      have HPL := Lib.hid hPl
      have HPC := Lib.hid hPc
      clear hPl hPc hPo hcp
      go_upto_region 10 with (at_builtin; refine wpList_append_rd rfl (.tmp 40) (.tmp 41) 22 rfl w1.heap.size 5 i0 (.int .u8 0) 1 Try.underlying22 hi0 hz0 hz1 hz2 rfl (.slice (some ⟨w1.heap.size, 0, none⟩) 0 0) 0 [] rfl HO.out w1.heap.size (some ⟨gp, 0, none⟩) 4096 cp (P.map bv) rfl (by rw [List.length_map, HPL.out]) HR2.out (oneY P) (by simp [maxLen, HPL.out]) (by simp [HPL.out]) (by simp) ?_; intro v2 w2 hown hg hat)
      have hB2 : Below w1.heap.size w1 w2 := ((Below.refl _ _).alloc (Nat.le_refl _) _).grown hg (by simp) (fun k hk => by simp [Value.ownBlock] at hk; omega)
      have hO2 : OwnY w2 w1.heap.size v2 P := by simpa [OwnY] using hown
      clear hown hg hat HO HR2
      obtain ⟨Am, cm, rfl⟩ := hO2.form
      rw [HPL.out] at hO2 ⊢
      obtain ⟨gm, rfl, hgm, hgm2, hcm, -, -, -⟩ := hO2.at_ (by rw [HPL.out]; omega)
      have hO2' : OwnY w2 w1.heap.size (.slice (some ⟨gm, 0, none⟩) P.length cm) P := by rw [HPL.out]; exact hO2
      have HN := fNew_any (c := cm) hO2'.rd (Nat.le_refl _) (by rw [HPL.out] at hcm ⊢; exact hcm) (by rw [HPL.out]; omega)
      rw [List.take_of_length_le (by rw [HPL.out]; omega), HPL.out] at HN
      have HNh := Lib.hid HN
      clear HN
      go_upto_region 11 with (go_at_call 23; refine HNh.out.mono ?_; rintro e w3 ⟨g, gl, v, rfl, hF, hB3⟩)
      clear HNh
      obtain ⟨cur, hcur, hcs⟩ : ∃ cur, Bk w3 gm 5 cur ∧ cur.size = cm := by
        rcases hO2.2 with ⟨_, hv⟩ | ⟨g', cap', cur', hv, _, hg, _, _, hcs, _⟩
        · have := HPL.out
          simp at hv
          rw [hv] at this
          simp at this
        · injection hv with h1 h2 h3
          injection h1 with h1
          injection h1 with h1
          subst h1 h3
          exact ⟨cur', (hB3.block _ hgm2).trans hg, by simpa using hcs⟩
      have hcm4 : 4096 ≤ cm := by rw [HPL.out] at hcm; exact hcm
      have hg3 := hF.bg
      have hrel0 : ∃ cur, Bk w3 gm 5 cur ∧ cur.size = cm ∧ Fr (· = gm) w3 w3 := ⟨cur, hcur, hcs, Fr.refl _ _⟩
      clear hO2' hO2 hcm hcur hcs
      go_wp2
      go_loopw [9] (fun i wr => ∃ k : Nat, k ≤ 4096 ∧ i = .int .i64 k ∧ ∃ cur, Bk wr gm 5 cur ∧ cur.size = cm ∧ Fr (· = gm) w3 wr) (fun i _ => 4096 - (intOf i).toNat)
      case atStart => exact ⟨0, Nat.zero_le _, rfl, hrel0⟩
      case round =>
        clear hrel0
        obtain ⟨k, hk2, rfl, cur2, hcur2, hcs2, hF2⟩ := hrel
        rcases Nat.lt_or_ge k 4096 with hk4 | hk4
        · have hcc : w3.heap.size ≤ wr.heap.size := hF2.size
          obtain ⟨x, hx⟩ : ∃ x, wr.cell? ⟨gm, k, none⟩ = some x := by
            rw [Bk.cell hcur2 k]
            exact ⟨cur2[k]'(by omega), by simp⟩
          have hfz := Bk.free hcur2 k
          have HS := Lib.hid (hcur2.set k (.int .u8 0))
          have HF3 := Lib.hid (hF2.set ⟨gm, k, none⟩ (.int .u8 0) (fun _ => rfl))
          have HSz : Hid ((cur2.setIfInBounds k (.int .u8 0)).size = cm) := by show _ = _; simp [hcs2]
          clear hcur2 hcs2 hF2 hF
          go_wp2
          go_roundw
          case rel => exact ⟨k + 1, by omega, by go_num, _, HS.out, HSz.out, HF3.out⟩
          case measure => simp [intOf]; omega
        · obtain rfl : k = 4096 := by omega
          have hF4 : FindAt wr w2.heap.size g gl v P := hF.fr hF2 (fun q hq e => by omega)
          have hPc4 : Hid (∀ k, k < 4096 → wr.cell? ⟨gp, k, none⟩ = some (.int .u8 ((P[k]?.getD 0).toNat : Int))) := fun k hk => by
            rw [hF2.cell (a := ⟨gp, k, none⟩) (by have := hB2.size; have := hB3.size; show gp < _; omega) (by show ¬ gp = gm; omega)]
            rw [hB3.cell (p := ⟨gp, k, none⟩) (by have := hB2.size; show gp < _; omega), hB2.cell (p := ⟨gp, k, none⟩) hgp2]
            exact HPC.out k (by rw [HPL.out]; exact hk)
          have hB4 : Below w.heap.size w wr := (hB1.trans ((hB2.mono hB1.size).trans (hB3.mono (Nat.le_trans hB1.size hB2.size)))).trans (hF2.below (by have := hB1.size; have := hB2.size; have := hB3.size; omega) (fun q hq e => by have := hB1.size; omega))
          have HPu := Lib.hid (HP.out.below hB4)
          clear HPC HP hF hF2 hcur2 hcs2 hB1 hB2 hB3
          obtain ⟨w4, rfl⟩ : ∃ w4 : World, w4 = wr := ⟨_, rfl⟩
          go_wp2
          go_loopw [10] (fun i wi => ∃ k m : Nat, k ≤ ps.length ∧ i = .int .i64 k ∧ wi = w4.drewN m) (fun i _ => ps.length - (intOf i).toNat)
          case atStart => exact ⟨0, 0, Nat.zero_le _, rfl, rfl⟩
          case round =>
            obtain ⟨k, m, hk, rfl, rfl⟩ := hrel
            rcases Nat.lt_or_ge k ps.length with hkp | hkp
            · obtain ⟨ad, rfl, hab, hcc⟩ := HPu.out.at_ hkp
              have hu : ps[k]?.getD 0 ≤ 65535 := HU.out _ (by simp [hkp])
              generalize ps[k]?.getD 0 = z at *
              have hcz : w4.cell? (ad.add k) = some (.int .u16 (z : Int)) := hcc
              have hmod : ((z : Int) % 4096) = ((z % 4096 : Nat) : Int) := by omega
              have ha : z % 4096 < 4096 := Nat.mod_lt _ (by omega)
              generalize z % 4096 = a at *
              clear hcc
              have HFd := Lib.hid (fFind_any (hF4.drewN m) a)
              rw [findI_nat (by rw [HPL.out]; exact ha)] at HFd
              rcases found_page HPL.out ha with ⟨h0, hno⟩ | ⟨n, d, q, h0, hn3, hn130, hd1, hda, han, hsame, hnext⟩
              · rw [h0] at HFd
                have HNO := Lib.hid hno
                clear h0 hno
                go_upto_region 21 with (go_at_call 27; refine HFd.out.mono ?_; rintro e w5 ⟨rfl, m2, rfl⟩)
                go_cut [121] (fun s wx => s = .bool false ∧ ∃ q, wx = w4.drewN q)
                case first => as_aux_lemma =>
                  rcases Nat.eq_zero_or_pos a with ha0 | ha0
                  · have hg1 : decide ((1 : Int) ≤ (a : Int)) = false := by simp; omega
                    clear ha0
                    go_quiet (fail)
                    go_wp2
                    go_meet
                    exact ⟨rfl, _, World.drewN_drewN _ _ _⟩
                  have hg1 : (1 : Int) ≤ (a : Int) := by omega
                  have hw3 : IntKind.i64.wrap ((a : Int) + 3) = (a : Int) + 3 := IntWalk.i64_in _ (by omega)
                  rcases Nat.lt_or_ge 4096 (a + 3) with ha3 | ha3
                  · have hg2 : decide ((a : Int) + 3 ≤ 4096) = false := by simp; omega
                    go_quiet (fail)
                    clear hw3
                    go_wp2
                    go_meet
                    exact ⟨rfl, _, World.drewN_drewN _ _ _⟩
                  have hno3 := HNO.out (by omega) (by omega)
                  have hg2 : (a : Int) + 3 ≤ 4096 := by omega
                  have hc0 := hPc4.out (a - 1) (by omega)
                  have hc1 := hPc4.out a (by omega)
                  have hc2 := hPc4.out (a + 1) (by omega)
                  have hc3 := hPc4.out (a + 2) (by omega)
                  have hb0 := bv_eq (P[a - 1]?.getD 0) (P[a]?.getD 0)
                  have hb1 := bv_eq (P[a]?.getD 0) (P[a + 1]?.getD 0)
                  have hb2 := bv_eq (P[a + 1]?.getD 0) (P[a + 2]?.getD 0)
                  generalize P[a - 1]?.getD 0 = x0 at *
                  generalize P[a]?.getD 0 = x1 at *
                  generalize P[a + 1]?.getD 0 = x2 at *
                  generalize P[a + 2]?.getD 0 = x3 at *
                  have hm1 : IntKind.i64.wrap ((a : Int) - 1) = (a : Int) - 1 := IntWalk.i64_in _ (by omega)
                  have hm2 : (0 : Int) ≤ (a : Int) - 1 := by omega
                  have hm3 : ((a : Int) - 1).toNat = a - 1 := by omega
                  have hm4 : (a : Int) - 1 < 4096 := by omega
                  have hp1 : IntKind.i64.wrap ((a : Int) + 1) = (a : Int) + 1 := IntWalk.i64_in _ (by omega)
                  have hp2 : (0 : Int) ≤ (a : Int) + 1 := by omega
                  have hp3 : ((a : Int) + 1).toNat = a + 1 := by omega
                  have hp4 : (a : Int) + 1 < 4096 := by omega
                  have hq1 : IntKind.i64.wrap ((a : Int) + 2) = (a : Int) + 2 := IntWalk.i64_in _ (by omega)
                  have hq2 : (0 : Int) ≤ (a : Int) + 2 := by omega
                  have hq3 : ((a : Int) + 2).toNat = a + 2 := by omega
                  have hq4 : (a : Int) + 2 < 4096 := by omega
                  by_cases e1 : x0 = x1
                  · by_cases e2 : x1 = x2
                    · have e3 : (x2 == x3) = false := beq_eq_false_iff_ne.2 (hno3 e1 e2)
                      rw [e3] at hb2
                      subst e1 e2
                      clear e3 hno3 hb0 hb1 HNO
                      go_quiet (fail)
                      clear hw3 hm1 hm2 hm3 hm4 hp1 hp2 hp3 hp4 hq1 hq2 hq3 hq4
                      go_wp2
                      go_meet
                      exact ⟨rfl, _, World.drewN_drewN _ _ _⟩
                    · rw [beq_eq_false_iff_ne.2 e2] at hb1
                      subst e1
                      clear e2 hno3 hb0 hb2 HNO
                      go_quiet (fail)
                      clear hw3 hm1 hm2 hm3 hm4 hp1 hp2 hp3 hp4 hq1 hq2 hq3 hq4
                      go_wp2
                      go_meet
                      exact ⟨rfl, _, World.drewN_drewN _ _ _⟩
                  · rw [beq_eq_false_iff_ne.2 e1] at hb0
                    clear e1 hno3 hb1 hb2 HNO
                    go_quiet (fail)
                    clear hw3 hm1 hm2 hm3 hm4 hp1 hp2 hp3 hp4 hq1 hq2 hq3 hq4
                    go_wp2
                    go_meet
                    exact ⟨rfl, _, World.drewN_drewN _ _ _⟩
                case rest =>
                  obtain ⟨rfl, m3, rfl⟩ := hcut
                  go_wp2
                  go_roundw
                  case rel => (repeat apply Exists.intro (α := Value)); exact ⟨⟨k + 1, _, by omega, by go_num, rfl⟩, rfl⟩
                  case measure => simp [intOf]; omega
              · rw [h0] at HFd
                have HS := Lib.hid hsame
                have HX := Lib.hid hnext
                clear h0 hsame hnext
                go_wp2_with (go_at_call 27; refine HFd.out.mono ?_; rintro e w5 ⟨rfl, m2, rfl⟩)
                go_loopw [14] (fun j wi => ∃ jn m3 : Nat, jn ≤ n ∧ j = .int .i64 jn ∧ wi = w4.drewN m3) (fun j _ => n - (intOf j).toNat)
                case atStart => exact ⟨0, _, Nat.zero_le _, rfl, rfl⟩
                case round =>
                  obtain ⟨jn, m3, hjn, rfl, rfl⟩ := hrel
                  have hw1 : IntKind.i64.wrap ((a : Int) + (jn : Int)) = (a : Int) + (jn : Int) := IntWalk.i64_in _ (by omega)
                  have hw2 : (0 : Int) ≤ (a : Int) + (jn : Int) := by omega
                  have hw3 : ((a : Int) + (jn : Int)).toNat = a + jn := by omega
                  have hd1' : IntKind.i64.wrap ((a : Int) + (jn : Int) - (d : Int)) = (a : Int) + (jn : Int) - (d : Int) := IntWalk.i64_in _ (by omega)
                  have hd2' : (0 : Int) ≤ (a : Int) + (jn : Int) - (d : Int) := by omega
                  have hd3' : ((a : Int) + (jn : Int) - (d : Int)).toNat = a + jn - d := by omega
                  rcases Nat.lt_or_ge jn n with hj | hj
                  · have hw4 : (a : Int) + (jn : Int) < 4096 := by omega
                    have hd4' : (a : Int) + (jn : Int) - (d : Int) < 4096 := by omega
                    have hc1 := hPc4.out (a + jn) (by omega)
                    have hc2 := hPc4.out (a + jn - d) (by omega)
                    rw [HS.out jn hj] at hc1
                    generalize P[a + jn - d]?.getD 0 = x at *
                    go_wp2
                    go_quiet (fail)
                    clear hw1 hw2 hw3 hw4 hd1' hd2' hd3' hd4'
                    go_wp2
                    go_roundw
                    case rel => exact ⟨jn + 1, _, by omega, by go_num, rfl⟩
                    case measure => simp [intOf]; omega
                  · obtain rfl : jn = n := by omega
                    go_wp2
                    go_cut [187] (fun s wx => s = .bool false ∧ ∃ q, wx = w4.drewN q)
                    case first => as_aux_lemma =>
                      rcases Nat.lt_or_ge jn 130 with h130 | h130
                      · have h130i : (jn : Int) < 130 := by omega
                        rcases Nat.lt_or_ge (a + jn) 4096 with h4 | h4
                        · have hw4 : (a : Int) + (jn : Int) < 4096 := by omega
                          have hd4' : (a : Int) + (jn : Int) - (d : Int) < 4096 := by omega
                          have hc1 := hPc4.out (a + jn) (by omega)
                          have hc2 := hPc4.out (a + jn - d) (by omega)
                          have hb := bv_eq (P[a + jn]?.getD 0) (P[a + jn - d]?.getD 0)
                          rw [beq_eq_false_iff_ne.2 (HX.out h130 h4)] at hb
                          generalize P[a + jn]?.getD 0 = x at *
                          generalize P[a + jn - d]?.getD 0 = y at *
                          go_quiet (fail)
                          clear hw1 hw2 hw3 hw4 hd1' hd2' hd3' hd4'
                          go_wp2
                          go_meet
                          exact ⟨rfl, _, World.drewN_drewN _ _ _⟩
                        · have hw4 : decide ((a : Int) + (jn : Int) < 4096) = false := by simp; omega
                          go_quiet (fail)
                          clear hw1 hw2 hw3 hd1' hd2' hd3'
                          go_wp2
                          go_meet
                          exact ⟨rfl, _, World.drewN_drewN _ _ _⟩
                      · have h130i : decide ((jn : Int) < 130) = false := by simp; omega
                        go_quiet (fail)
                        clear hw1 hw2 hw3 hd1' hd2' hd3'
                        go_wp2
                        go_meet
                        exact ⟨rfl, _, World.drewN_drewN _ _ _⟩
                    case rest =>
                      clear hw1 hw2 hw3 hd1' hd2' hd3'
                      obtain ⟨rfl, m5, rfl⟩ := hcut
                      go_wp2
                      go_roundw
                      case rel => (repeat apply Exists.intro (α := Value)); exact ⟨⟨k + 1, _, by omega, by go_num, rfl⟩, rfl⟩
                      case measure => simp [intOf]; omega
            · obtain rfl : k = ps.length := by omega
              go_wp2_with (go_at_call 22; refine (matLives _).mono ?_; rintro x w7 ⟨rfl, hB7⟩)
              go_ret
              have hB2 := below_drewN hB4 m
              exact ⟨rfl, hB2.trans (hB7.mono hB2.size)⟩
end Go.Proofs.YtckdellcnoojaaaRRR
