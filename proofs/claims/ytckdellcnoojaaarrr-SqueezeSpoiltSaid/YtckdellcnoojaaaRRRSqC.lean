/- Squeeze: taken, Unpack, Tokens. -/
import Derived.Test.YtckdellcnoojaaaRRRSqB
import Derived.OwnWalk
import Derived.Handy
namespace Go.Proofs.YtckdellcnoojaaaRRR
open Go.RowKit

theorem takeF_nn (b : List UInt8) (a : Int) : 0 ≤ (takeF b a).err := by
  unfold takeF
  split
  · simp
  · split
    · split <;> simp
    · split
      · simp
      · split <;> simp
set_option maxRecDepth 100000 in
set_option maxHeartbeats 8000000 in
theorem taken_any {w : World} {B : Nat} {A : Option Addr} {c : Nat} {b : List UInt8} (h : RdY w B A b) (hB : B ≤ w.heap.size) (hl : b.length ≤ 100000) (hc : b.length ≤ c) :
    Calls Try.prog 63 #[.slice A b.length c] w fun e w' => ∃ A' c', e = .returned (.tuple #[.slice A' (unpF b [] 0 0).1.length c', .int .i64 ((unpF b [] 0 0).2.1 : Nat), .int .i64 ((unpF b [] 0 0).2.2 : Nat)]) ∧ OwnY w' w.heap.size (.slice A' (unpF b [] 0 0).1.length c') (unpF b [] 0 0).1 ∧ Below w.heap.size w w' := by
  obtain ⟨i0, hi0, hz0, hz1, hz2⟩ := info_parts u8_info
  have HA := Lib.hid h
  have HB := Lib.hid hB
  have HC := Lib.hid hc
  obtain ⟨U, hU⟩ : ∃ U, U = unpF b [] 0 0 := ⟨_, rfl⟩
  have HU0 := Lib.hid hU
  rw [← hU]
  obtain ⟨N, hN⟩ : ∃ N, N = 4096 := ⟨_, rfl⟩
  have HN := Lib.hid hN
  clear h hB hc hU hN
  go_enter Try.func63, Try.ntmps63
  go_upto_region 2 with (at_make; refine wpList_make_own _ rfl _ _ 22 rfl w.heap.size 5 i0 (.int .u8 0) 1 Try.underlying22 hi0 hz0 hz1 .i64 .i64 _ N rfl rfl (by have := HN.out; omega) (by rw [hz2]; have := HN.out; omega) (by have := HN.out; simp [maxLen]; omega) (Nat.le_refl _) ?_; intro w1 hown hg)
  have hO1 : OwnY w1 w.heap.size (.slice (some ⟨w.heap.size, 0, none⟩) 0 N) [] := hown
  have hB1 : Below w.heap.size w w1 := (Below.refl w.heap.size w).grown hg (Nat.le_refl _) (fun q hq => by cases hq)
  clear hown hg
  go_wp2
  go_loopw [5, 6, 7] (fun p av mv wr => ∃ (pg : List UInt8) (Ap : Option Addr) (cp a m : Nat), p = .slice Ap pg.length cp ∧ av = .int .i64 a ∧ mv = .int .i64 m ∧ OwnY wr w.heap.size (.slice Ap pg.length cp) pg ∧ pg.length ≤ 4096 ∧ a ≤ b.length ∧ m ≤ a ∧ Hid (unpF b pg a m = U) ∧ Below w.heap.size w wr) (fun _ av _ _ => b.length - (intOf av).toNat)
  case atStart => exact ⟨[], _, N, 0, 0, rfl, rfl, rfl, hO1, by simp, Nat.zero_le _, Nat.zero_le _, HU0.out.symm, hB1⟩
  case round =>
    clear hO1 hB1
    obtain ⟨pg, Ap, cp, a, m, rfl, rfl, rfl, hO, hpg, hab, hma, HU, hBr⟩ := hrel
    rcases Nat.lt_or_ge pg.length 4096 with hlt | hge
    · have hli : (pg.length : Int) < 4096 := by omega
      obtain ⟨tk, htk⟩ : ∃ tk, takeF b (a : Int) = tk := ⟨_, rfl⟩
      have HT := Lib.hid (tTake_any (c := c) (HA.out.below' hBr HB.out) (Nat.le_trans HB.out hBr.size) (by omega) HC.out (a : Int))
      have hnn := takeF_nn b (a : Int)
      rw [htk] at HT hnn
      have HTk := Lib.hid htk
      have HO := Lib.hid hO
      have HBr := Lib.hid hBr
      clear htk hO hBr
      obtain ⟨lit, n, d, fin, err⟩ := tk
      simp only at HT hnn
      go_wp2_with fail
      refine HT.out.mono ?_
      rintro x w2 ⟨A2, c2, rfl, hR2, hB2⟩
      obtain ⟨w3, hw3⟩ : ∃ w3, w3 = w2.alloc (.cells #[.slice A2 lit.length c2, .int .i64 n, .int .i64 d] 24) := ⟨_, rfl⟩
      have hb3 : Below w2.heap.size w2 w3 := by rw [hw3]; exact (Below.refl _ _).alloc (Nat.le_refl _) _
      have HK : Hid (Bk w3 w2.heap.size 24 #[.slice A2 lit.length c2, .int .i64 n, .int .i64 d]) := by show Bk _ _ _ _; rw [hw3]; exact Bk.new _ _ _
      have HR3 := Lib.hid (hR2.below hb3)
      have HBq : Hid (Below w.heap.size w w3) := (HBr.out.trans (hB2.mono HBr.out.size)).trans (hb3.mono (HBr.out.trans (hB2.mono HBr.out.size)).size)
      have HO3 := Lib.hid ((HO.out.below hB2).below hb3)
      have hg8 : Hid (w.heap.size ≤ w2.heap.size ∧ wr.heap.size ≤ w2.heap.size) := ⟨(HBr.out.trans (hB2.mono HBr.out.size)).size, hB2.size⟩
      have HOl : Hid (∀ q, (Value.slice Ap pg.length cp).ownBlock = some q → q < wr.heap.size) := fun q hq => (HO.out.lt hq).2
      go_upto_region 5 with fail
      rw [← hw3]
      clear hw3 hb3 hR2 hB2 HT HO HBr
      generalize w2.heap.size = g8 at *
      have k0 : w3.cell? ⟨g8, 0, none⟩ = some (.slice A2 lit.length c2) := HK.out.cell 0
      have k1 : w3.cell? ⟨g8, 1, none⟩ = some (.int .i64 n) := HK.out.cell 1
      have k2 : w3.cell? ⟨g8, 2, none⟩ = some (.int .i64 d) := HK.out.cell 2
      by_cases he : err = 0
      · subst he
        have he0 : (takeF b (a : Int)).err = 0 := by rw [HTk.out]
        obtain ⟨hmay, hf0, hf1, hf2⟩ := takeF_may he0
        have hstep := fun h1 h2 => unpF_step (b := b) (page := pg) (a := a) (n := m) hlt he0 h1 h2
        have hfar := fun h1 => unpF_far (b := b) (page := pg) (a := a) (n := m) hlt he0 h1
        have hlong := fun h1 h2 => unpF_long (b := b) (page := pg) (a := a) (n := m) hlt he0 h1 h2
        rw [HTk.out] at hmay hf0 hf1 hf2 hstep hfar hlong
        simp only at hmay hf0 hf1 hf2 hstep hfar hlong
        have hbd := mayT_bd hmay
        have hps := mayT_pos hmay
        have HHm := Lib.hid hmay
        obtain ⟨n, rfl⟩ := Int.eq_ofNat_of_zero_le hbd.2.1
        obtain ⟨d, rfl⟩ := Int.eq_ofNat_of_zero_le hbd.2.2.2.1
        obtain ⟨fin, rfl⟩ := Int.eq_ofNat_of_zero_le hf0
        have hnl := mayT_lit hmay
        have hcp := fun h0 : lit.length = 0 => mayT_copy (show mayT 0 (n : Int) (d : Int) = true by rw [← h0]; exact hmay)
        have hLL : 0 < n → 1 ≤ d := fun h0 => by
          rcases Nat.eq_zero_or_pos lit.length with h1 | h1
          · have := hcp h1; omega
          · have := hnl h1; omega
        have HLL := Lib.hid hLL
        obtain ⟨hb1, -, hb2, -, hb3⟩ := hbd
        have hsz := hps.2
        rw [Int.toNat_natCast] at hsz
        have HStep := Lib.hid hstep
        have HFar := Lib.hid hfar
        have HLong := Lib.hid hlong
        have HSz := Lib.hid hsz
        have hSi : Hid (∀ W, Calls Try.prog 34 #[.agg #[.slice A2 lit.length c2, .int .i64 n, .int .i64 d]] W fun e w' => e = .returned (.int .i64 ((lit.length + n : Nat) : Int)) ∧ Below W.heap.size W w') := fun W => by
          have := tSize_any W A2 lit.length c2 n d (by omega)
          rwa [hsz] at this
        clear hmay hnl hcp hLL hps hstep hfar hlong hsz HHm he0 hnn hf0
        rcases Nat.lt_or_ge pg.length d with hdl | hdl
        · have hdi : (pg.length : Int) < (d : Int) := by omega
          have HE : Hid (U = ([], 0, 3)) := by show _ = _; rw [← HU.out, HFar.out hdi]
          go_wp2
          go_ret3
          rw [HE.out]
          exact ⟨none, 0, rfl, OwnY.nil _ _, HBq.out⟩
        · have hdi : ¬ (pg.length : Int) < (d : Int) := by omega
          have hszb : ((lit.length + n : Nat) : Int) ≤ 300 := by omega
          rcases Nat.lt_or_ge 4096 (pg.length + (lit.length + n)) with hsl | hsl
          · have hsi : (4096 : Int) < (pg.length : Int) + ((lit.length + n : Nat) : Int) := by omega
            have HE : Hid (U = ([], 0, 5)) := by show _ = _; rw [← HU.out, HLong.out (by omega) (by rw [HSz.out]; exact hsl)]
            go_wp2_with fail
            refine (hSi.out _).mono ?_
            rintro x w4 ⟨rfl, hB4⟩
            have HB4 := Lib.hid (HBq.out.trans (hB4.mono HBq.out.size))
            clear hB4
            generalize (lit.length + n) = sz at *
            go_wp2
            go_ret3
            rw [HE.out]
            exact ⟨none, 0, rfl, OwnY.nil _ _, HB4.out⟩
          · have hsi : ¬ (4096 : Int) < (pg.length : Int) + ((lit.length + n : Nat) : Int) := by omega
            have HE : Hid (unpF b (growL (pg ++ lit) d n) fin (m + 1) = U) := by
              have := HStep.out (by omega) (by rw [HSz.out]; exact hsl)
              simp only [Int.toNat_natCast] at this
              show _ = _
              rw [← this]
              exact HU.out
            go_wp2_with fail
            refine (hSi.out _).mono ?_
            rintro x w4 ⟨rfl, hB4⟩
            have HK4 := Lib.hid (HK.out.below' hB4)
            have HR4 := Lib.hid (HR3.out.below' hB4 (Nat.le_of_lt HK.out.lt))
            have HB4 := Lib.hid (HBq.out.trans (hB4.mono HBq.out.size))
            have HO4 := Lib.hid (HO3.out.below hB4)
            have hB4z : w3.heap.size ≤ w4.heap.size := hB4.size
            clear hB4 HStep HFar HLong hSi k0 k1 k2
            obtain ⟨sz, hsz⟩ : ∃ sz, lit.length + n = sz := ⟨_, rfl⟩
            have HSZ := Lib.hid hsz
            rw [hsz] at hsi hszb ⊢
            have k0 : w4.cell? ⟨g8, 0, none⟩ = some (.slice A2 lit.length c2) := HK4.out.cell 0
            have k1 : w4.cell? ⟨g8, 1, none⟩ = some (.int .i64 n) := HK4.out.cell 1
            clear hsz
            have hm1 : ∀ q, (Value.slice Ap pg.length cp).ownBlock = some q → q ≠ g8 := fun q hq e => by have := HOl.out q hq; have := hg8.out.2; omega
            have HM1 := Lib.hid hm1
            clear hm1
            have HLm : Hid (lit.length = (lit.map bv).length) := by show _ = _; rw [List.length_map]
            have hlm : (lit.map bv).length ≤ 128 := by rw [List.length_map]; exact hb1
            have H63 : Hid (pg.length + (lit.map bv).length ≤ maxLen) := by show _ ≤ _; unfold maxLen; omega
            have HBy : Hid ((pg.length + (lit.map bv).length) * 1 ≤ 140737488355328) := by show _ ≤ _; omega
            have HBs : Hid (w.heap.size ≤ w4.heap.size) := HB4.out.size
            have h1 := Lib.hid (oneY lit)
            have HO4' : Hid (w4.ownsRow w.heap.size 5 1 (.slice Ap pg.length cp) pg.length (pg.map bv)) := HO4.out
            go_wp2_with (at_builtin; refine wpList_append_rd rfl (.tmp 36) (.tmp 38) 22 rfl w.heap.size 5 i0 (.int .u8 0) 1 Try.underlying22 hi0 hz0 hz1 hz2 rfl (.slice Ap pg.length cp) pg.length _ rfl HO4'.out g8 A2 lit.length c2 _ rfl HLm.out HR4.out h1.out H63.out HBy.out HBs.out ?_; intro v5 w5 hown hg hat; have hk1 : w5.cell? ⟨g8, 1, none⟩ = some (.int .i64 n) := (HK4.out.grown hg (fun e => HM1.out _ e.symm rfl)).cell 1)
            have hO5 : OwnY w5 w.heap.size v5 (growL (pg ++ lit) d 0) := own_app (by simp) hown
            have hK5 : Bk w5 g8 24 _ := HK4.out.grown hg (fun e => HM1.out _ e.symm rfl)
            have hB5 : Below w.heap.size w w5 := HB4.out.grown hg HBs.out (fun q hq => (HO4.out.lt hq).1)
            have hn5 : ∀ q, v5.ownBlock = some q → q ≠ g8 := fun q hq e => by
              rcases hat with h | h
              · exact HM1.out q (h ▸ hq) e
              · rw [h] at hq
                injection hq with hq
                have := HK4.out.lt
                omega
            obtain ⟨A5, c5, rfl⟩ := hO5.form
            have hbl : (pg ++ lit).length + n ≤ 4096 := by have := HSZ.out; rw [List.length_append]; omega
            have hbd' : d ≤ (pg ++ lit).length := by rw [List.length_append]; omega
            clear hown hg hat HO4 HO4' HLm hlm H63 HBy HBs h1 HR3 HR4 HM1 HOl hk1 hB4z HSZ hsi hszb hsl HK4 HB4 HO3 HK HBq
            generalize pg ++ lit = bl at *
            go_wp2
            go_loopw [5, 42] (fun v j wz => ∃ (k cv : Nat) (Av : Option Addr), k ≤ n ∧ j = .int .i64 k ∧ v = .slice Av (growL bl d k).length cv ∧ OwnY wz w.heap.size (.slice Av (growL bl d k).length cv) (growL bl d k) ∧ Bk wz g8 24 #[.slice A2 lit.length c2, .int .i64 (n : Int), .int .i64 (d : Int)] ∧ Hid (∀ q, (Value.slice Av (growL bl d k).length cv).ownBlock = some q → q ≠ g8) ∧ Below w.heap.size w wz) (fun _ j _ => n - (intOf j).toNat)
            case atStart => exact ⟨0, c5, A5, Nat.zero_le _, rfl, rfl, hO5, hK5, hn5, hB5⟩
            case round =>
              clear hO5 hK5 hn5 hB5
              obtain ⟨k, cv, Av, hk, rfl, rfl, hO, hT, HN5, hBl⟩ := hrel
              have hgl := growL_len bl d k
              rcases Nat.lt_or_ge k n with hkn | hkn
              · have hd1 := HLL.out (by omega)
                have HG : Hid (growL bl d (k + 1) = growL bl d k ++ [(growL bl d k)[(growL bl d k).length - d]?.getD 0]) := rfl
                generalize growL bl d k = pk at *
                obtain ⟨q, hq, hqi⟩ : ∃ q : Nat, pk.length - d = q ∧ (pk.length : Int) - (d : Int) = (q : Int) := ⟨pk.length - d, rfl, by omega⟩
                have hql : q < pk.length := by omega
                rw [hq] at HG
                obtain ⟨gb, rfl, hgb, hgb2, _, -, hcell, -⟩ := hO.at_ (by omega)
                have hc := hcell q hql
                have hf2 : wr.cell? ⟨g8, 2, none⟩ = some (.int .i64 (d : Int)) := Bk.cell hT 2
                generalize pk[q]?.getD 0 = x at *
                have HO2 : Hid ((wr.alloc (.cells #[.int .u8 (x.toNat : Int)] 5)).ownsRow w.heap.size 5 1 (.slice (some ⟨gb, 0, none⟩) pk.length cv) pk.length (pk.map bv)) := World.ownsRow.alloc hO _
                have HR3 := Lib.hid (rd_one wr x rfl)
                have hsz := hBl.size
                have hTl := hT.lt
                have hgg : gb ≠ g8 := HN5.out gb rfl
                have hpl : pk.length ≤ 20000 := by omega
                clear hcell hO hq hgl HN5
                go_wp2_with (at_builtin; refine wpList_append_rd rfl (.tmp 44) (.tmp 53) 22 rfl w.heap.size 5 i0 (.int .u8 0) 1 Try.underlying22 hi0 hz0 hz1 hz2 rfl (.slice (some ⟨gb, 0, none⟩) pk.length cv) pk.length _ rfl HO2.out _ (some ⟨wr.heap.size, 0, none⟩) 1 1 ([x].map bv) rfl rfl HR3.out (oneY _) (by simp [maxLen]; omega) (by simp; omega) (by simp; omega) ?_; intro v6 w6 hown hg hat)
                have hO6 : OwnY w6 w.heap.size v6 (growL bl d (k + 1)) := by
                  rw [HG.out]
                  exact own_app rfl hown
                have hB6 : Below w.heap.size w w6 := (hBl.alloc hsz _).grown hg (by simp; omega) (fun q hq => by simp [Value.ownBlock] at hq; omega)
                have hT6 : Bk w6 g8 24 _ := (hT.alloc _).grown hg (fun e => by simp [Value.ownBlock] at e; exact hgg e.symm)
                have hn6 : ∀ q, v6.ownBlock = some q → q ≠ g8 := fun q hq e => by
                  rcases hat with h | h
                  · rw [h] at hq
                    injection hq with hq
                    exact hgg (hq.trans e)
                  · rw [h] at hq
                    injection hq with hq
                    simp at hq
                    omega
                obtain ⟨A6, c6, rfl⟩ := hO6.form
                clear hown hg hat HO2 HR3 hqi
                go_wp2
                go_roundw
                case rel => exact ⟨k + 1, c6, A6, by omega, by go_num, rfl, hO6, hT6, hn6, hB6⟩
                case measure => simp [intOf]; omega
              · obtain rfl : k = n := by omega
                go_wp2
                go_roundw
                case rel => exact ⟨_, Av, cv, fin, m + 1, rfl, rfl, by go_num, hO, by omega, by omega, by omega, HE, hBl⟩
                case measure => simp [intOf]; omega
      · have hen : (err != 0) = true := bne_iff_ne.2 he
        have hE : U = ([], 0, err.toNat) := by
          rw [← HU.out, unpF_err hlt (by rw [HTk.out]; exact he), HTk.out]
        have hei : ((err.toNat : Nat) : Int) = err := by omega
        have HE := Lib.hid hE
        clear hE he
        go_wp2
        go_ret3
        rw [HE.out]
        exact ⟨none, 0, by rw [hei]; rfl, OwnY.nil _ _, HBq.out⟩
    · have hgi : ¬ (pg.length : Int) < 4096 := by omega
      rcases Nat.lt_or_ge a b.length with hab2 | hab2
      · have hai : (a : Int) < (b.length : Int) := by omega
        have HE : Hid (U = ([], 0, 3)) := by show _ = _; rw [← HU.out, unpF_more hge hab2]
        go_wp2
        go_ret3
        rw [HE.out]
        exact ⟨none, 0, rfl, OwnY.nil _ _, hBr⟩
      · have hai : ¬ (a : Int) < (b.length : Int) := by omega
        have HE : Hid (U = (pg, m, 0)) := by show _ = _; rw [← HU.out, unpF_done hge hab2]
        go_wp2
        go_ret3
        rw [HE.out]
        exact ⟨Ap, cp, rfl, hO, hBr⟩
section
variable {w : World} {B : Nat} {A : Option Addr} {c : Nat} {b : List UInt8}
theorem unpack_any (h : RdY w B A b) (hB : B ≤ w.heap.size) (hl : b.length ≤ 100000) (hc : b.length ≤ c) :
    Calls Try.prog 48 #[.slice A b.length c] w fun e w' => ∃ A' c', e = .returned (.tuple #[.slice A' (unpF b [] 0 0).1.length c', .int .i64 ((unpF b [] 0 0).2.2 : Nat)]) ∧ OwnY w' w.heap.size (.slice A' (unpF b [] 0 0).1.length c') (unpF b [] 0 0).1 ∧ Below w.heap.size w w' := by
  have HT := Lib.hid (taken_any h hB hl hc)
  clear h
  generalize unpF b [] 0 0 = U at *
  go_enter Try.func48, Try.ntmps48
  go_wp2_with (go_at_call 63; refine HT.out.mono ?_; rintro x w2 ⟨A', c', rfl, hO, hB2⟩)
  go_ret2
  exact ⟨A', c', rfl, hO, hB2⟩
theorem tokens_any (h : RdY w B A b) (hB : B ≤ w.heap.size) (hl : b.length ≤ 100000) (hc : b.length ≤ c) :
    Calls Try.prog 50 #[.slice A b.length c] w fun e w' => e = .returned (.int .i64 ((unpF b [] 0 0).2.1 : Nat)) ∧ Below w.heap.size w w' := by
  have HT := Lib.hid (taken_any h hB hl hc)
  clear h
  generalize unpF b [] 0 0 = U at *
  go_enter Try.func50, Try.ntmps50
  go_wp2_with (go_at_call 63; refine HT.out.mono ?_; rintro x w2 ⟨A', c', rfl, hO, hB2⟩)
  go_ret
  exact ⟨rfl, hB2⟩
end
end Go.Proofs.YtckdellcnoojaaaRRR
