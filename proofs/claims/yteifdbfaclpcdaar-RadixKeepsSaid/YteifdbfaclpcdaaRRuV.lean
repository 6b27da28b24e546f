/- The walk of gunnylaw04.RadixStops. -/
import Derived.Test.YteifdbfaclpcdaaRRuU
import Derived.Test.YteifdbfaclpcdaaRCntA
namespace Go.Proofs.YteifdbfaclpcdaaR.Ru
open Go.RowKit
section
variable {w0 w w' : World} {g n : Nat} {f f' : Nat → Option Value} {v : Value} {L : Ks}
theorem newK_le (f : Nat → Option Value) (key : Int) : newK f key ≤ 1 := by
  unfold newK
  split <;> omega
theorem bFrom (h : Both w0 w g f n v L f') (key most : Int) :
    Calls Try.prog 30 #[.pointer (some ⟨g, 0, none⟩), .int .i64 key, .int .i64 most] w (FromPost w (tkM most (seg f key 0 65536))) := by
  obtain ⟨ex, nd, hT⟩ := h.tr
  exact fromK hT key most
theorem seg_ok (h : Both w0 w g f n v L f') (key : Int) : KOk (seg f key 0 65536) := by
  obtain ⟨ex, nd, hT⟩ := h.tr
  intro e he
  exact hT.ok e.1 e.2 (mem_seg.1 he).2.2.2
theorem tkM_ok {L : Ks} (h : KOk L) (most : Int) : KOk (tkM most L) := by
  unfold tkM
  split
  · exact fun e he => h e (List.mem_of_mem_take he)
  · exact h
set_option maxRecDepth 100000 in
theorem rstops_great (w : World) (A : Option Addr) (c n : Nat) (x y : Value) (hl : 100 < n) (_hn : n ≤ 9223372036854775807) :
    Calls Try.prog 6 #[.slice A n c, x, y] w fun e w' => e = .returned (.bool true) ∧ Below w.heap.size w w' := by
  have hli : (100 : Int) < n := by omega
  go_enter Try.func6, Try.ntmps6
  go_wp2_with (go_at_call 25; refine (rxLives _).mono ?_; rintro x w7 ⟨rfl, hB7⟩)
  go_ret
  exact ⟨rfl, hB7⟩
set_option maxRecDepth 100000 in
set_option maxHeartbeats 4000000 in
theorem rstops_any (w : World) (A : Option Addr) (c : Nat) (l : List Int) (hA : RdI w w.heap.size A l) (hl : l.length ≤ 100) (start most : Int) :
    Calls Try.prog 6 #[.slice A l.length c, .int .i64 start, .int .i64 most] w fun e w' => e = .returned (.bool true) ∧ Below w.heap.size w w' := by
  have HA := Lib.hid hA
  clear hA
  go_enter Try.func6, Try.ntmps6
  go_wp2_with fail
  refine (bNew w).mono ?_
  rintro e w1 ⟨g, rfl, h1⟩
  have H1 := Lib.hid h1
  clear h1
  go_wp2_with fail
  go_loopw [8, 9] (fun x8 i wr => ∃ (k : Nat) (f : Nat → Option Value) (L : Ks) (A' : Option Addr) (c' : Nat), k ≤ l.length ∧ L.length ≤ k ∧ i = .int .i64 k ∧ x8 = .slice A' L.length c' ∧ Both w wr g f L.length (.slice A' L.length c') L f) (fun _ i _ => l.length - (intOf i).toNat)
  case atStart => exact ⟨0, _, [], none, 0, Nat.zero_le _, Nat.le_refl _, rfl, rfl, H1.out⟩
  case round =>
    clear H1
    obtain ⟨k, f, L, A', c', hk, hLk, rfl, rfl, hR⟩ := hrel
    rcases Nat.lt_or_ge k l.length with hlt | hge
    · obtain ⟨ad, rfl, hab, hcu⟩ := (HA.out.below hR.below).at_ hlt
      generalize l[k]?.getD 0 = key at *
      have HS := Lib.hid (bTSet hR key (x := .int .u64 (k : Int)) ⟨_, rfl⟩ (by omega))
      have HR := Lib.hid hR
      clear hR
      go_wp2_with fail
      refine HS.out.mono ?_
      rintro e w2 ⟨rfl, h2, -⟩
      have HK := Lib.hid (bKSet h2 (by omega) key (x := .int .u64 (k : Int)) ⟨_, rfl⟩)
      have hab2 : (ad.add k).block < w.heap.size := by rw [block_add]; exact hab
      have hcu2 := ((Below.cell h2.below hab2)).trans ((Below.cell HR.out.below hab2).symm.trans hcu)
      have hnk := newK_le f key
      clear h2 HS
      go_wp2_with fail
      refine HK.out.mono ?_
      rintro e w3 ⟨A3, c3, L3, rfl, hlen, h3, -⟩
      rw [← hlen] at h3
      have H3 := Lib.hid h3
      have hL3 : L3.length ≤ k + 1 := by omega
      clear h3 hlen HK hcu hcu2
      go_wp2_with fail
      go_roundw
      case rel => exact ⟨k + 1, _, L3, A3, c3, by omega, hL3, by go_num, rfl, H3.out⟩
      case measure => simp [intOf]; omega
    · have HT := Lib.hid (bFrom hR start most)
      have HAt := Lib.hid (kAt (c := c') hR.ks.krd (by omega) start)
      have HR := Lib.hid hR
      have hcap := hR.ks.cap.2
      have hLl : L.length ≤ 100 := by omega
      clear hR
      go_wp2_with fail
      refine HAt.out.mono ?_
      rintro e w2 ⟨n, b, rfl, hi, m, rfl⟩
      have HI := Lib.hid hi
      have hnl := hi.le
      obtain ⟨AB, cB, cutB, -, hKr, hcB⟩ := run_backK (A := A') (n := L.length) (c := c') (k := n) hnl hcap rfl
      have HKr := Lib.hid hKr
      have HFr := Lib.hid (HR.out.ls.from hi)
      have HD : Hid (Below wr.heap.size wr (wr.drewN m)) := ((Fr.refl (fun _ => False) wr).drewN m).below0
      have HR2 := Lib.hid (HR.out.below0 HD.out)
      have HT2 := Lib.hid (bFrom HR2.out start most)
      have HKr2 : Hid (KRd (wr.drewN m) (wr.drewN m).heap.size AB (L.drop n)) := hKr _ _ _ rfl HR2.out.ks.krd
      have hdl : (L.drop n).length = L.length - n := List.length_drop
      have HOk : Hid (KOk (L.drop n)) := fun e he => HR.out.ks.ok e (List.mem_of_mem_drop he)
      have HLv : Hid (∀ W, Below (wr.drewN m).heap.size (wr.drewN m) W → Calls Try.prog 25 #[] W fun e w' => e = .returned (.bool true) ∧ Below w.heap.size w w') := fun W hW => (rxLives W).mono fun e w' ⟨h1, h2⟩ => ⟨h1, (HR2.out.below0 hW).below.trans (h2.mono (HR2.out.below0 hW).below.size)⟩
      rw [HFr.out] at HT2
      generalize wr.drewN m = w2 at *
      generalize hDL : L.drop n = DL at *
      have hDl2 : DL.length = L.length - n := hdl
      clear hi hKr HKr HT HAt HFr hDL hdl HI
      rcases Int.lt_or_le 0 most with hm | hm
      · rcases Int.lt_or_le most ((L.length - n : Nat) : Int) with hm2 | hm2
        · obtain ⟨mo, rfl⟩ := Int.eq_ofNat_of_zero_le (Int.le_of_lt hm)
          have e1 : tkM (mo : Int) DL = DL.take mo := by
            unfold tkM
            rw [if_pos hm, Int.toNat_natCast]
          rw [e1] at HT2
          have hml : mo ≤ cB := by omega
          have cutF := fun W : World => run_frontK (w := W) (A := AB) (n := L.length - n) (c := cB) (k := mo) hml
          have htl : (DL.take mo).length = mo := by rw [List.length_take]; omega
          have HKe : Hid (∀ W A9 c9, Below w2.heap.size w2 W → KAt W w2.heap.size (.slice A9 (DL.take mo).length c9) (DL.take mo) → Calls Try.prog 31 #[.slice A9 mo c9, .slice AB mo cB] W fun e w' => e = .returned (.bool true) ∧ Below W.heap.size W w') := fun W A9 c9 hW hK => by
            have := kKeys (c := c9) (c2 := cB) hK.krd (((HKr2.out.below hW).take mo).more hW.size) (fun e he => HOk.out e (List.mem_of_mem_take he)) (by rw [htl]; omega)
            rwa [htl] at this
          have HTl := Lib.hid htl
          clear e1 htl
          go_wp2_with fail
          refine HT2.out.mono ?_
          rintro e w5 ⟨A9, c9, rfl, hK9, hB9⟩
          have HK2 := Lib.hid (HKe.out w5 A9 c9 hB9 hK9)
          have HB9 := Lib.hid hB9
          have HLv2 : Hid (∀ W, Below w5.heap.size w5 W → Calls Try.prog 25 #[] W fun e w' => e = .returned (.bool true) ∧ Below w.heap.size w w') := fun W hW => HLv.out W (HB9.out.trans (hW.mono HB9.out.size))
          rw [HTl.out]
          clear hK9 hB9
          go_wp2_with (first
            | (go_at_call 31; refine HK2.out.mono ?_; rintro x w6 ⟨rfl, hB6⟩)
            | (go_at_call 25; refine (HLv2.out _ hB6).mono ?_; rintro x w7 ⟨rfl, hB7⟩))
          go_ret
          exact ⟨rfl, hB7⟩
        · have e1 : tkM most DL = DL := by
            unfold tkM
            rw [if_pos hm]
            exact List.take_of_length_le (by omega)
          rw [e1] at HT2
          have HKe : Hid (∀ W A9 c9, Below w2.heap.size w2 W → KAt W w2.heap.size (.slice A9 DL.length c9) DL → Calls Try.prog 31 #[.slice A9 (L.length - n) c9, .slice AB (L.length - n) cB] W fun e w' => e = .returned (.bool true) ∧ Below W.heap.size W w') := fun W A9 c9 hW hK => by
            have := kKeys (c := c9) (c2 := cB) hK.krd ((HKr2.out.below hW).more hW.size) HOk.out (by omega)
            rwa [hDl2] at this
          have HTl := Lib.hid hDl2
          clear e1 hDl2
          go_wp2_with fail
          refine HT2.out.mono ?_
          rintro e w5 ⟨A9, c9, rfl, hK9, hB9⟩
          have HK2 := Lib.hid (HKe.out w5 A9 c9 hB9 hK9)
          have HB9 := Lib.hid hB9
          have HLv2 : Hid (∀ W, Below w5.heap.size w5 W → Calls Try.prog 25 #[] W fun e w' => e = .returned (.bool true) ∧ Below w.heap.size w w') := fun W hW => HLv.out W (HB9.out.trans (hW.mono HB9.out.size))
          rw [HTl.out]
          clear hK9 hB9
          go_wp2_with (first
            | (go_at_call 31; refine HK2.out.mono ?_; rintro x w6 ⟨rfl, hB6⟩)
            | (go_at_call 25; refine (HLv2.out _ hB6).mono ?_; rintro x w7 ⟨rfl, hB7⟩))
          go_ret
          exact ⟨rfl, hB7⟩
      · have e1 : tkM most DL = DL := by
          unfold tkM
          rw [if_neg (by omega)]
        rw [e1] at HT2
        have HKe : Hid (∀ W A9 c9, Below w2.heap.size w2 W → KAt W w2.heap.size (.slice A9 DL.length c9) DL → Calls Try.prog 31 #[.slice A9 (L.length - n) c9, .slice AB (L.length - n) cB] W fun e w' => e = .returned (.bool true) ∧ Below W.heap.size W w') := fun W A9 c9 hW hK => by
          have := kKeys (c := c9) (c2 := cB) hK.krd ((HKr2.out.below hW).more hW.size) HOk.out (by omega)
          rwa [hDl2] at this
        have HTl := Lib.hid hDl2
        clear e1 hDl2
        go_wp2_with fail
        refine HT2.out.mono ?_
        rintro e w5 ⟨A9, c9, rfl, hK9, hB9⟩
        have HK2 := Lib.hid (HKe.out w5 A9 c9 hB9 hK9)
        have HB9 := Lib.hid hB9
        have HLv2 : Hid (∀ W, Below w5.heap.size w5 W → Calls Try.prog 25 #[] W fun e w' => e = .returned (.bool true) ∧ Below w.heap.size w w') := fun W hW => HLv.out W (HB9.out.trans (hW.mono HB9.out.size))
        rw [HTl.out]
        clear hK9 hB9
        go_wp2_with (first
          | (go_at_call 31; refine HK2.out.mono ?_; rintro x w6 ⟨rfl, hB6⟩)
          | (go_at_call 25; refine (HLv2.out _ hB6).mono ?_; rintro x w7 ⟨rfl, hB7⟩))
        go_ret
        exact ⟨rfl, hB7⟩
end
end Go.Proofs.YteifdbfaclpcdaaR.Ru
