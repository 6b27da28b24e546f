/- Squeeze: the walk of SqueezeBack. -/
import Derived.Test.YtckdellcnoojaaaRRRSqJ
namespace Go.Proofs.YtckdellcnoojaaaRRR
open Go.RowKit

theorem cell_bare {w : World} {ad : Addr} {v : Value} (h : w.cell? ad = some v) : ∃ g o, ad = ⟨g, o, none⟩ := by
  obtain ⟨g, o, s⟩ := ad
  rcases s with _ | s
  · exact ⟨g, o, rfl⟩
  · unfold World.cell? at h
    simp only [Option.isSome] at h
    split at h <;> simp at h
theorem RdY.bare {w : World} {B : Nat} {A : Option Addr} {l : List UInt8} (h : RdY w B A l) (hl : 0 < l.length) : ∃ g o, A = some ⟨g, o, none⟩ := by
  obtain ⟨ad, rfl, -, hc⟩ := h.at_ (k := 0) hl
  obtain ⟨g, o, rfl⟩ := cell_bare (show w.cell? ad = _ from hc)
  exact ⟨g, o, rfl⟩
/-- Pack, of any bytes. -/
theorem pack_rd {w : World} {B : Nat} {A : Option Addr} {c : Nat} {P : List UInt8} (hr : RdY w B A P) (hB : B ≤ w.heap.size) (hP : P.length = 4096) (hc : 4096 ≤ c) :
    Calls Try.prog 52 #[.slice A 4096 c] w fun e w' => ∃ A' c', e = .returned (.tuple #[.slice A' (packB P).length c', .bool true]) ∧ OwnY w' w.heap.size (.slice A' (packB P).length c') (packB P) ∧ Below w.heap.size w w' := by
  obtain ⟨g, o, rfl⟩ := hr.bare (by omega)
  exact pack_yes hr hB hP hc
/-- What the page that was packed unpacks to. -/
theorem unp_packB {P : List UInt8} (hP : P.length = 4096) : ∃ m, unpF (packB P) [] 0 0 = (P, m, 0) := by
  obtain ⟨L, h1, h2, -⟩ := packB_plays hP
  exact ⟨L.length, by rw [h1]; exact unp_all h2 hP⟩

set_option maxRecDepth 100000 in
set_option maxHeartbeats 2000000 in
theorem sqBack_great {w : World} {A A2 : Option Addr} {n c c2 : Nat} {L : List Pc} (hn : n ≤ 9223372036854775807) (h2 : PcsAt w w.heap.size A2 L) (hl : L.length ≤ 9223372036854775807) (hg : greatL L = true ∨ (greatL L = false ∧ 9000 < n)) :
    Calls Try.prog 15 #[.slice A2 L.length c2, .slice A n c] w fun e w' => e = .returned (.bool true) ∧ Below w.heap.size w w' := by
  have HG := Lib.hid (qGreat_any (c := c2) h2 hl)
  clear h2
  rcases hg with hgr | ⟨hgr, h⟩
  · rw [hgr] at HG
    clear hgr
    go_enter Try.func15, Try.ntmps15
    go_wp2_with fail
    refine HG.out.mono ?_
    rintro e w3 ⟨rfl, rfl⟩
    go_wp2_with fail
    refine (sqLives _).mono ?_
    rintro e w3 ⟨rfl, hB3⟩
    go_wp2
    go_ret
    exact ⟨rfl, hB3⟩
  · rw [hgr] at HG
    have hi : (9000 : Int) < (n : Int) := by omega
    clear hgr
    go_enter Try.func15, Try.ntmps15
    go_wp2_with fail
    refine HG.out.mono ?_
    rintro e w3 ⟨rfl, rfl⟩
    go_wp2_with fail
    refine (sqLives _).mono ?_
    rintro e w3 ⟨rfl, hB3⟩
    go_wp2
    go_ret
    exact ⟨rfl, hB3⟩

set_option maxRecDepth 100000 in
set_option maxHeartbeats 8000000 in
theorem sqBack_any {w : World} {A A2 : Option Addr} {c c2 : Nat} {odd : List UInt8} {L : List Pc} (ho : RdY w w.heap.size A odd) (hc : odd.length ≤ c) (hn : odd.length ≤ 9000) (h2 : PcsAt w w.heap.size A2 L) (hgr : greatL L = false) :
    Calls Try.prog 15 #[.slice A2 L.length c2, .slice A odd.length c] w fun e w' => e = .returned (.bool true) ∧ Below w.heap.size w w' := by
  obtain ⟨i0, hi0, hz0, hz1, hz2⟩ := info_parts u8_info
  obtain ⟨hl, hL⟩ := greatL_no hgr
  have HG := Lib.hid (qGreat_any (c := c2) h2 (by omega))
  have HP := Lib.hid (page_any (c := c2) h2 (Nat.le_refl _) (by omega) hL)
  rw [hgr] at HG
  have HOd := Lib.hid ho
  have HCd := Lib.hid hc
  have hi : ¬ (9000 : Int) < (odd.length : Int) := by omega
  clear ho h2 hgr hL hl hc
  go_enter Try.func15, Try.ntmps15
  go_wp2_with fail
  refine HG.out.mono ?_
  rintro e w0 ⟨rfl, rfl⟩
  go_wp2_with fail
  refine HP.out.mono ?_
  rintro e w1 ⟨A1, c1, P, rfl, hp, hO1, hB1⟩
  obtain ⟨m, hU⟩ := unp_packB hp
  obtain ⟨T, -, -, hT⟩ := packB_plays hp
  have hT2 : ¬ (4128 : Int) < ((packB P).length : Int) := by omega
  have HSo := Lib.hid (packB_some hp)
  have HU := Lib.hid hU
  have HT := Lib.hid hT
  have HPl := Lib.hid hp
  have cv1 := run_str (c := c1) hO1.rd hp
  have HPk := Lib.hid (hO1.pack hp (Below.refl _ _))
  have HO1 := Lib.hid hO1
  have HB1 := Lib.hid hB1
  clear hO1 hB1 hp HP HG hU hT
  go_wp2_with fail
  refine HPk.out.mono ?_
  rintro e w2 ⟨A2, c2, rfl, hO2, hB2⟩
  obtain ⟨g2, rfl, -, -, hc2, -, -, -⟩ := hO2.at_ HSo.out
  have HO2 := Lib.hid hO2
  have HC2 := Lib.hid hc2
  have HB2 : Hid (Below w1.heap.size w1 w2) := Lib.hid hB2
  have HO := Lib.hid (World.ownsRow_made (base := w2.heap.size) (e := 5) (size := 1) w2 #[] 0 (Nat.le_refl _) (by decide) rfl)
  have HR2 : Hid (Rd (w2.alloc (.cells #[] 5)) w1.heap.size A1 (P.map bv)) := HO1.out.rd.below ((HB2.out).alloc HB2.out.size (.cells #[] 5))
  clear hO2 hB2 HPk cv1 hc2
  have hzz : w1.heap.size ≤ w2.heap.size := HB2.out.size
  go_wp2_with (at_builtin; refine wpList_append_rd rfl (.tmp 36) (.tmp 37) 22 rfl w2.heap.size 5 i0 (.int .u8 0) 1 Try.underlying22 hi0 hz0 hz1 hz2 rfl (.slice (some ⟨w2.heap.size, 0, none⟩) 0 0) 0 [] rfl HO.out w1.heap.size A1 4096 c1 (P.map bv) rfl (by rw [List.length_map, HPl.out]) HR2.out (oneY P) (by simp [maxLen, HPl.out]) (by simp [HPl.out]) (by simp) ?_; intro v3 w3 hown hg hat)
  have HB3 : Hid (Below w1.heap.size w1 w3) := HB2.out.trans ((((Below.refl _ _).alloc (Nat.le_refl _) _).grown hg (by simp) (fun k hk => by simp [Value.ownBlock] at hk; omega)).mono hzz)
  have hB23 : Below w2.heap.size w2 w3 := ((Below.refl _ _).alloc (Nat.le_refl _) _).grown hg (by simp) (fun k hk => by simp [Value.ownBlock] at hk; omega)
  have HO2' := Lib.hid (HO2.out.below hB23)
  have hO3 : OwnY w3 w2.heap.size v3 P := by simpa [OwnY] using hown
  clear hown hg hat HO HR2 hB23 HO2
  obtain ⟨A3, c3, rfl⟩ := hO3.form
  rw [HPl.out] at hO3 ⊢
  have HPk := Lib.hid (hO3.pack HPl.out (Below.refl _ _))
  clear hO3
  go_wp2_with fail
  refine HPk.out.mono ?_
  rintro e w4 ⟨A4, c4, rfl, hO4, hB4⟩
  have HO2 : Hid (OwnY w4 w1.heap.size (.slice (some ⟨g2, 0, none⟩) (packB P).length c2) (packB P)) := HO2'.out.below hB4
  have HO4 := Lib.hid hO4
  have HB4 : Hid (Below w1.heap.size w1 w4) := HB3.out.trans (hB4.mono HB3.out.size)
  clear hO4 hB4 HPk HO2'
  have HUn0 := unpack_any (c := c2) HO2.out.rd (Nat.le_refl _) (by have := HT.out; omega) HC2.out
  rw [HU.out, HPl.out] at HUn0
  have HUn := Lib.hid HUn0
  clear HUn0
  go_wp2_with fail
  refine HUn.out.mono ?_
  rintro e w5 ⟨A5, c5, rfl, hO5, hB5⟩
  have HO2' := Lib.hid (HO2.out.below hB5)
  have HO4' := Lib.hid (HO4.out.below hB5)
  have HO5 := Lib.hid hO5
  have HB5 : Hid (Below w1.heap.size w1 w5) := HB4.out.trans (hB5.mono HB4.out.size)
  clear hO5 hB5 HUn HO2 HO4
  have HUn0 := rUnpack_any (c := c2) HO2'.out.rd (Nat.le_refl _) (by have := HT.out; omega) HC2.out
  rw [HU.out, HPl.out] at HUn0
  have HUn := Lib.hid HUn0
  clear HUn0
  go_wp2_with fail
  refine HUn.out.mono ?_
  rintro e w6 ⟨A6, c6, rfl, hO6, hB6⟩
  have HO2 := Lib.hid (HO2'.out.below hB6)
  have HB6 : Hid (Below w1.heap.size w1 w6) := HB5.out.trans (hB6.mono HB5.out.size)
  have cvp := run_str (c := c1) (HO1.out.rd.below HB6.out) HPl.out
  have cvb := run_str (c := c2) HO2.out.rd rfl
  have cvc := run_str (c := c4) (HO4'.out.below hB6).rd rfl
  have cvs := run_str (c := c5) (HO5.out.below hB6).rd HPl.out
  have cvx := run_str (c := c6) hO6.rd HPl.out
  have HTk0 := tokens_any (c := c2) HO2.out.rd (Nat.le_refl _) (by have := HT.out; omega) HC2.out
  rw [HU.out] at HTk0
  have HTk := Lib.hid HTk0
  clear HTk0 hO6 hB6 HUn HO2' HO4' HO5 HO2 HC2 HU HSo HT
  generalize (packB P).length = k4 at *
  go_wp2_with fail
  refine HTk.out.mono ?_
  rintro e w7 ⟨rfl, hB7⟩
  have HB7 : Hid (Below w1.heap.size w1 w7) := HB6.out.trans (hB7.mono HB6.out.size)
  have cvp2 := run_str (c := c1) (HO1.out.rd.below HB7.out) HPl.out
  have HB8 : Hid (Below w.heap.size w w7) := HB1.out.trans (HB7.out.mono HB1.out.size)
  have HR8 := Lib.hid (HOd.out.below HB8.out)
  have hz8 : w.heap.size ≤ w7.heap.size := HB8.out.size
  clear hB7 HTk cvp cvb cvc cvs cvx HOd HB7 HO1
  by_cases h4 : odd.length = 4096
  · have HPk0 := pack_rd (c := c) HR8.out hz8 h4 (by have := HCd.out; omega)
    rw [h4] at *
    have HPk := Lib.hid HPk0
    clear HPk0
    go_wp2_with fail
    refine HPk.out.mono ?_
    rintro e w8 ⟨A8, c8, rfl, hO8, hB8⟩
    have HB9 : Hid (Below w.heap.size w w8) := HB8.out.trans (hB8.mono hz8)
    clear hO8 hB8 HPk HB8
    go_wp2_with fail
    refine (sqLives _).mono ?_
    rintro e w9 ⟨rfl, hB9⟩
    go_wp2
    go_ret
    exact ⟨rfl, HB9.out.trans (hB9.mono HB9.out.size)⟩
  · have hb : ((odd.length : Int) == 4096) = false := beq_eq_false_iff_ne.2 (by omega)
    have HPk := Lib.hid (pack_no w7 A odd.length c h4)
    go_wp2_with fail
    refine HPk.out.mono ?_
    rintro e w8 ⟨rfl, rfl⟩
    clear HPk
    go_wp2_with fail
    refine (sqLives _).mono ?_
    rintro e w9 ⟨rfl, hB9⟩
    go_wp2
    go_ret
    exact ⟨rfl, HB8.out.trans (hB9.mono HB8.out.size)⟩
end Go.Proofs.YtckdellcnoojaaaRRR
