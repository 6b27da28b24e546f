/- Slots: Put refused; Page, Look, Drop; of slots that aren't there too. -/
import Derived.Test.YtcbfaahnhdmagaaDoorSlJ
namespace Go.Proofs.YtcbfaahnhdmagaaDoor
open Go.RowKit

theorem own_fr {w w' : World} {base : Nat} {v : Value} {e : TypeId} {size n : Nat} {xs : List Value} {R : Nat → Prop} (h : w.ownsRow base e size v n xs) (hf : Fr R w w') (hR : ∀ k, base ≤ k → k < w.heap.size → ¬ R k) : w'.ownsRow base e size v n xs :=
  owns_same h fun k hk => hf.block k (World.ownsRow.lt h k hk).2 (hR k (World.ownsRow.lt h k hk).1 (World.ownsRow.lt h k hk).2)
theorem nSize (w : World) : Calls Tryd.prog 17 #[.pointer none] w fun e w' => e = .returned (.int .i64 0) ∧ w = w' := by
  go_enter Tryd.func17, Tryd.ntmps17
  go_wp2
  go_ret
  exact ⟨rfl, rfl⟩
theorem nLen (w : World) : Calls Tryd.prog 15 #[.pointer none] w fun e w' => e = .returned (.int .i64 0) ∧ w = w' := by
  go_enter Tryd.func15, Tryd.ntmps15
  go_wp2
  go_ret
  exact ⟨rfl, rfl⟩
theorem nMay (w : World) : Calls Tryd.prog 39 #[.pointer none, .int .i64 0] w fun e w' => e = .returned (.bool false) ∧ w = w' := by
  go_enter Tryd.func39, Tryd.ntmps39
  go_wp2_with (go_at_call 17; refine (nSize _).mono ?_; rintro x w2 ⟨rfl, rfl⟩)
  go_ret
  exact ⟨rfl, rfl⟩
theorem nHas (w : World) : Calls Tryd.prog 13 #[.pointer none, .int .i64 0] w fun e w' => e = .returned (.bool false) ∧ w = w' := by
  go_enter Tryd.func13, Tryd.ntmps13
  go_wp2_with (go_at_call 39; refine (nMay _).mono ?_; rintro x w2 ⟨rfl, rfl⟩)
  go_ret
  exact ⟨rfl, rfl⟩
theorem nDropS (w : World) : Calls Tryd.prog 11 #[.pointer none, .int .i64 0] w fun e w' => e = .returned (.bool false) ∧ w = w' := by
  go_enter Tryd.func11, Tryd.ntmps11
  go_wp2_with (go_at_call 13; refine (nHas _).mono ?_; rintro x w2 ⟨rfl, rfl⟩)
  go_ret
  exact ⟨rfl, rfl⟩
theorem nFirst (w : World) : Calls Tryd.prog 38 #[.pointer none] w fun e w' => e = .returned (.tuple #[.int .i64 0, .bool false]) ∧ w = w' := by
  go_enter Tryd.func38, Tryd.ntmps38
  go_wp2_with (first
    | (go_at_call 15; refine (nLen _).mono ?_; rintro e w2 ⟨rfl, rfl⟩)
    | (go_at_call 17; refine (nSize _).mono ?_; rintro e w2 ⟨rfl, rfl⟩))
  go_ret2
  exact ⟨rfl, rfl⟩
/-- Slots that aren't there. -/
theorem nPut (w : World) (A : Option Addr) (c : Nat) : Calls Tryd.prog 24 #[.pointer none, .slice A 4096 c] w fun e w' => e = .returned (.tuple #[.int .i64 0, .int .i64 11]) ∧ w = w' := by
  go_enter Tryd.func24, Tryd.ntmps24
  go_wp2_with (first
    | (go_at_call 45; refine (nSet _).mono ?_; rintro x w2 ⟨rfl, rfl⟩)
    | (go_at_call 38; refine (nFirst _).mono ?_; rintro x w2 ⟨rfl, rfl⟩))
  go_ret2
  exact ⟨rfl, rfl⟩
theorem nIn (w : World) : Calls Tryd.prog 32 #[.pointer none, .int .i64 0] w fun e w' => e = .returned (.bool false) ∧ w = w' := by
  go_enter Tryd.func32, Tryd.ntmps32
  go_wp2_with (first
    | (go_at_call 45; refine (nSet _).mono ?_; rintro x w2 ⟨rfl, rfl⟩)
    | (go_at_call 13; refine (nHas _).mono ?_; rintro x w2 ⟨rfl, rfl⟩))
  go_ret
  exact ⟨rfl, rfl⟩
theorem nDrop (w : World) : Calls Tryd.prog 30 #[.pointer none, .int .i64 0] w fun e w' => e = .returned (.bool false) ∧ w = w' := by
  go_enter Tryd.func30, Tryd.ntmps30
  go_wp2_with (first
    | (go_at_call 45; refine (nSet _).mono ?_; rintro x w2 ⟨rfl, rfl⟩)
    | (go_at_call 11; refine (nDropS _).mono ?_; rintro x w2 ⟨rfl, rfl⟩))
  go_ret
  exact ⟨rfl, rfl⟩
theorem nSlots (w : World) : Calls Tryd.prog 33 #[.pointer none] w fun e w' => e = .returned (.int .i64 0) ∧ w = w' := by
  go_enter Tryd.func33, Tryd.ntmps33
  go_wp2_with (first
    | (go_at_call 45; refine (nSet _).mono ?_; rintro x w2 ⟨rfl, rfl⟩)
    | (go_at_call 17; refine (nSize _).mono ?_; rintro x w2 ⟨rfl, rfl⟩))
  go_ret
  exact ⟨rfl, rfl⟩
theorem nUsed (w : World) : Calls Tryd.prog 29 #[.pointer none] w fun e w' => e = .returned (.int .i64 0) ∧ w = w' := by
  go_enter Tryd.func29, Tryd.ntmps29
  go_wp2_with (first
    | (go_at_call 45; refine (nSet _).mono ?_; rintro x w2 ⟨rfl, rfl⟩)
    | (go_at_call 15; refine (nLen _).mono ?_; rintro x w2 ⟨rfl, rfl⟩))
  go_ret
  exact ⟨rfl, rfl⟩
theorem nPage (w : World) : Calls Tryd.prog 26 #[.pointer none, .int .i64 0] w fun e w' => e = .returned (.tuple #[.slice none 0 0, .int .i64 6]) ∧ w = w' := by
  go_enter Tryd.func26, Tryd.ntmps26
  go_wp2_with (go_at_call 32; refine (nIn _).mono ?_; rintro x w2 ⟨rfl, rfl⟩)
  go_ret2
  exact ⟨rfl, rfl⟩
theorem nLook (w : World) : Calls Tryd.prog 31 #[.pointer none, .int .i64 0] w fun e w' => e = .returned (.tuple #[.slice none 0 0, .bool false]) ∧ w = w' := by
  go_enter Tryd.func31, Tryd.ntmps31
  go_wp2_with (go_at_call 32; refine (nIn _).mono ?_; rintro x w2 ⟨rfl, rfl⟩)
  go_ret2
  exact ⟨rfl, rfl⟩
theorem slPut_len (w : World) (P A : Option Addr) (m c : Nat) (hm : m ≠ 4096) : Calls Tryd.prog 24 #[.pointer P, .slice A m c] w fun e w' => e = .returned (.tuple #[.int .i64 0, .int .i64 1]) ∧ w = w' := by
  have h1 : ((m : Int) != 4096) = true := bne_iff_ne.2 (by omega)
  go_enter Tryd.func24, Tryd.ntmps24
  go_wp2
  go_ret2
  exact ⟨rfl, rfl⟩

section
variable {w : World} {S : Nat → Prop} {gs gd gl gb g gw a many : Nat} {l : List Bool} {bs : List UInt8} {f : Nat → Bool}
theorem slPut_full (h : SlAt w S gs gd gl gb g gw l a many bs f) (hc : cntB f many = many) (A : Option Addr) (c : Nat) : Calls Tryd.prog 24 #[.pointer (some ⟨gs, 0, none⟩), .slice A 4096 c] w fun e w' => e = .returned (.tuple #[.int .i64 0, .int .i64 11]) ∧ w = w' := by
  have H1 := Lib.hid (slSet h)
  have H2 := Lib.hid (isFirst_none h.set hc)
  clear h hc
  go_enter Tryd.func24, Tryd.ntmps24
  go_wp2_with (first
    | (go_at_call 45; refine H1.out.mono ?_; rintro x w2 ⟨rfl, rfl⟩)
    | (go_at_call 38; refine H2.out.mono ?_; rintro x w2 ⟨rfl, rfl⟩))
  go_ret2
  exact ⟨rfl, rfl⟩
theorem slDrop_no (h : SlAt w S gs gd gl gb g gw l a many bs f) {n : Int} (hn : (mayB many n && f n.toNat) = false) : Calls Tryd.prog 30 #[.pointer (some ⟨gs, 0, none⟩), .int .i64 n] w fun e w' => e = .returned (.bool false) ∧ w = w' := by
  have H1 := Lib.hid (slSet h)
  have H2 := Lib.hid (isDrop_no h.set hn)
  clear h hn
  go_enter Tryd.func30, Tryd.ntmps30
  go_wp2_with (first
    | (go_at_call 45; refine H1.out.mono ?_; rintro x w2 ⟨rfl, rfl⟩)
    | (go_at_call 11; refine H2.out.mono ?_; rintro x w2 ⟨rfl, rfl⟩))
  go_ret
  exact ⟨rfl, rfl⟩
theorem slDrop_yes (h : SlAt w S gs gd gl gb g gw l a many bs f) {n : Nat} (hn : n < many) (hf : f n = true) : Calls Tryd.prog 30 #[.pointer (some ⟨gs, 0, none⟩), .int .i64 n] w fun e w' => e = .returned (.bool true) ∧ SlAt w' S gs gd gl gb g gw l a many bs (updB f n false) ∧ Fr (fun k => k = g ∨ k = gw) w w' := by
  have H1 := Lib.hid (slSet h)
  have H2 := Lib.hid (isDrop_old h.set hn hf)
  have H := Lib.hid h
  clear h hn hf
  go_enter Tryd.func30, Tryd.ntmps30
  go_wp2_with (first
    | (go_at_call 45; refine H1.out.mono ?_; rintro x w2 ⟨rfl, rfl⟩)
    | (go_at_call 11; refine H2.out.mono ?_; rintro x w2 ⟨rfl, hS, hF⟩))
  go_ret
  exact ⟨rfl, H.out.setUpd hS hF, hF⟩
theorem slPage_no (h : SlAt w S gs gd gl gb g gw l a many bs f) {n : Int} (hn : (mayB many n && f n.toNat) = false) : Calls Tryd.prog 26 #[.pointer (some ⟨gs, 0, none⟩), .int .i64 n] w fun e w' => e = .returned (.tuple #[.slice none 0 0, .int .i64 6]) ∧ w = w' := by
  have H1 := Lib.hid (slIn h n)
  rw [hn] at H1
  clear h hn
  go_enter Tryd.func26, Tryd.ntmps26
  go_wp2_with (go_at_call 32; refine H1.out.mono ?_; rintro x w2 ⟨rfl, rfl⟩)
  go_ret2
  exact ⟨rfl, rfl⟩
theorem slLook_no (h : SlAt w S gs gd gl gb g gw l a many bs f) {n : Int} (hn : (mayB many n && f n.toNat) = false) : Calls Tryd.prog 31 #[.pointer (some ⟨gs, 0, none⟩), .int .i64 n] w fun e w' => e = .returned (.tuple #[.slice none 0 0, .bool false]) ∧ w = w' := by
  have H1 := Lib.hid (slIn h n)
  rw [hn] at H1
  clear h hn
  go_enter Tryd.func31, Tryd.ntmps31
  go_wp2_with (go_at_call 32; refine H1.out.mono ?_; rintro x w2 ⟨rfl, rfl⟩)
  go_ret2
  exact ⟨rfl, rfl⟩

/-- What was gathered turns; the slots don't. -/
theorem SlAt.grow {w1 w2 : World} {base : Nat} {v : Value} {k : Nat} {xs : List Value} (h : SlAt w1 S gs gd gl gb g gw l a many bs f) (hlt : ∀ k, SlB S gs gd gb g gw k → k < base) (ho : w1.ownsRow base 5 1 v k xs) (hg : w1.grownBy w2 v.ownBlock) : SlAt w2 S gs gd gl gb g gw l a many bs f :=
  h.fr (R := fun q => v.ownBlock = some q) ((Fr.refl _ w1).grown hg fun _ e _ => e) fun q hq e => by
    have h1 := hlt q hq
    have h2 := World.ownsRow.lt ho q e
    omega
set_option maxRecDepth 100000 in
set_option maxHeartbeats 4000000 in
theorem slPage_go (h : SlAt w S gs gd gl gb g gw l a many bs f) (hl : l.length ≤ 1000000) (ha : a ≤ 900000) {n : Nat} (hn : n < many) (hf : f n = true) :
    Calls Tryd.prog 26 #[.pointer (some ⟨gs, 0, none⟩), .int .i64 n] w fun e w' =>
      (∀ k, ask8 l a 8 = some k → e = .returned (.tuple #[.slice none 0 0, .int .i64 12]) ∧ SlAt w' S gs gd gl gb g gw l (a + k + 1) many bs f) ∧
      (ask8 l a 8 = none → ∃ A' c', e = .returned (.tuple #[.slice A' 4096 c', .int .i64 0]) ∧ OwnY w' w.heap.size (.slice A' 4096 c') (pageOf bs n) ∧ SlAt w' S gs gd gl gb g gw l (a + 8) many bs f) ∧
      Fr (· = gl) w w' := by
  obtain ⟨i0, hi0, hz0, hz1, hz2⟩ := info_parts u8_info
  have H1 := Lib.hid (slIn h (n : Int))
  rw [mayB_nat hn, Int.toNat_natCast, hf, Bool.true_and] at H1
  have H := Lib.hid h
  have hmany : many ≤ 128 := by have := DiskAt.le' h.disk; omega
  have HL := Lib.hid hl
  have HLt := Lib.hid h.lt
  have HBs := Lib.hid (DiskAt.len h.disk)
  clear h hf hl
  go_enter Tryd.func26, Tryd.ntmps26
  go_wp2_with (go_at_call 32; refine H1.out.mono ?_; rintro x w2 ⟨rfl, rfl⟩)
  go_loopw [6, 14] (fun o i wr => ∃ (k : Nat) (A : Option Addr) (c : Nat), k ≤ 8 ∧ i = .int .i64 k ∧ o = .slice A (k * 512) c ∧ OwnY wr w.heap.size (.slice A (k * 512) c) (pgTo bs n k) ∧ ask8 l a k = none ∧ SlAt wr S gs gd gl gb g gw l (a + k) many bs f ∧ Fr (· = gl) w wr) (fun _ i _ => 8 - (intOf i).toNat)
  case atStart => exact ⟨0, none, 0, by omega, rfl, by rw [Nat.zero_mul], by rw [pgTo_zero, Nat.zero_mul]; exact OwnY.nil _ _, rfl, H.out, Fr.refl _ _⟩
  case round =>
    obtain ⟨k, A, c, hk, rfl, rfl, hO, hask, hS, hF⟩ := hrel
    have HS := Lib.hid hS
    have HF := Lib.hid hF
    have HK := Lib.hid hask
    have HO := Lib.hid hO
    rcases Nat.lt_or_ge k 8 with hlt | hge
    · have hd : wr.cell? ⟨gs, 0, none⟩ = some (.pointer (some ⟨gd, 0, none⟩)) := hS.top.cell 0
      have hki : (k : Int) < 8 := by omega
      have hni : (n : Int) < 128 := by omega
      have hak : a + k ≤ 1000000 := by omega
      have hfk := failed_le l (a + k)
      have hcast : (n : Int) * 8 + (k : Int) = ((n * 8 + k : Nat) : Int) := by omega
      have HSL := Lib.hid (sec_len HBs.out (n := n * 8 + k) (by omega))
      have HPL := Lib.hid (pgTo_len HBs.out hn hk)
      clear hS hF hask hO
      cases hx : l[a + k]?.getD false
      · have HR := Lib.hid (dRead_ok HS.out.disk HL.out hak (by omega) (n := n * 8 + k) (by omega) hx)
        have HK1 : Hid (ask8 l a (k + 1) = none) := by show _ = _; rw [ask8_succ _ _ _ HK.out, hx]; rfl
        have HX := Lib.hid hx
        rw [← hcast] at HR
        clear hcast hx
        go_wp2_with fail
        refine HR.out.mono ?_
        rintro x w3 ⟨A3, c3, rfl, hO3, hD3, hF3⟩
        have HS3 := Lib.hid (HS.out.write (DiskIs.miss hD3 HX.out) (hF3.mono fun _ _ h => .inl h))
        have HO4 : Hid (w3.ownsRow w.heap.size 5 1 (.slice A (k * 512) c) (k * 512) ((pgTo bs n k).map bv)) := by
          have h0 : w3.ownsRow _ _ _ _ _ _ := own_fr HO.out hF3 (fun q h1 h2 e => by have h3 := HLt.out q (.inl (e ▸ DiskAt.self HS.out.disk)); omega)
          rw [HPL.out] at h0
          exact h0
        have HR3 := Lib.hid (OwnY.rd hO3)
        have HL3 : Hid (512 = ((sec bs (n * 8 + k)).map bv).length) := by show _ = _; rw [List.length_map]; exact HSL.out.symm
        have HW3 : Hid (w.heap.size ≤ w3.heap.size) := Nat.le_trans HF.out.size hF3.size
        have hL3 : ((sec bs (n * 8 + k)).map bv).length ≤ 512 := Nat.le_of_eq HL3.out.symm
        have h1 := Lib.hid (oneY (sec bs (n * 8 + k)))
        have HF3 : Hid (Fr (· = gl) w w3) := HF.out.trans hF3 fun _ _ h => h
        have H63 : Hid (k * 512 + ((sec bs (n * 8 + k)).map bv).length ≤ maxLen) := by show _ ≤ _; unfold maxLen; omega
        have HBy : Hid ((k * 512 + ((sec bs (n * 8 + k)).map bv).length) * 1 ≤ 140737488355328) := by show _ ≤ _; omega
        clear hO3 hD3 hF3 HR
        go_wp2_with (at_builtin; refine wpList_append_rd rfl (.tmp 32) (.tmp 33) 22 rfl w.heap.size 5 i0 (.int .u8 0) 1 Tryd.underlying22 hi0 hz0 hz1 hz2 rfl (.slice A (k * 512) c) (k * 512) _ rfl HO4.out _ A3 512 c3 _ rfl HL3.out HR3.out h1.out H63.out HBy.out HW3.out ?_; intro v4 w4 hown hg hat)
        have hO5 : OwnY w4 w.heap.size v4 (pgTo bs n (k + 1)) := by
          unfold OwnY
          rw [pgTo_succ, List.map_append, List.length_append, HPL.out, HSL.out]
          rw [← HL3.out] at hown
          exact hown
        obtain ⟨A5, c5, rfl⟩ := hO5.form
        have HPL1 := Lib.hid (pgTo_len HBs.out hn (k := k + 1) (by omega))
        rw [HPL1.out] at hO5 ⊢
        have HS5 := Lib.hid (HS3.out.grow HLt.out HO4.out hg)
        have HF5 : Hid (Fr (· = gl) w w4) := HF3.out.grown hg fun q hq hlt => by have := (World.ownsRow.lt HO4.out q hq).1; omega
        clear hown hg hat HS3 HF3
        go_wp2
        go_roundw
        case rel => exact ⟨k + 1, A5, c5, by omega, by go_num, rfl, hO5, HK1.out, HS5.out, HF5.out⟩
        case measure => simp [intOf]; omega
      · have HR := Lib.hid (dRead_fail HS.out.disk HL.out hak (by omega) (n := n * 8 + k) (by omega) hx)
        have HK1 : Hid (ask8 l a 8 = some k) := ask8_stop (k := k + 1) (by rw [ask8_succ _ _ _ HK.out, hx]; rfl) (by omega)
        have HX := Lib.hid hx
        rw [← hcast] at HR
        clear hcast hx
        go_wp2_with fail
        refine HR.out.mono ?_
        rintro x w3 ⟨rfl, hD3, hF3⟩
        go_wp2
        go_ret2
        refine ⟨fun q hq => ?_, fun hn => ?_, HF.out.trans hF3 fun _ _ h => h⟩
        · rw [HK1.out] at hq
          injection hq with hq
          subst hq
          exact ⟨rfl, HS.out.write (DiskIs.hit hD3 HX.out) (hF3.mono fun _ _ h => .inl h)⟩
        · rw [HK1.out] at hn
          cases hn
    · obtain rfl : k = 8 := by omega
      clear hS hF hask hO
      go_wp2
      go_ret2
      refine ⟨fun q hq => ?_, fun _ => ⟨A, c, rfl, HO.out, HS.out⟩, HF.out⟩
      rw [HK.out] at hq
      cases hq
end
end Go.Proofs.YtcbfaahnhdmagaaDoor
