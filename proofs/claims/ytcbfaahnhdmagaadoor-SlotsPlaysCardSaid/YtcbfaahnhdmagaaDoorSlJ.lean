/- Slots: Put, of a whole page, where there is room. -/
import Derived.Test.YtcbfaahnhdmagaaDoorSlP
import Derived.StillTailTactics
namespace Go.Proofs.YtcbfaahnhdmagaaDoor
open Go.RowKit

theorem RdY.spot' {w : World} {B g o : Nat} {s : Option Nat} {l : List UInt8} (h : RdY w B (some ⟨g, o, s⟩) l) (hl : 0 < l.length) : s = none := by
  have := h.cell (k := 0) hl
  simpa [Addr.add] using World.cell?_spot this
theorem DiskAt.le' {w : World} {S : Nat → Prop} {gd gl gb : Nat} {l : List Bool} {a m : Nat} {bs : List UInt8} (h : DiskIs w S gd gl gb l a m bs) : m ≤ 1024 := DiskAt.le h
/-- A part of a slice of bytes. -/
theorem run_cutY {w : World} {b o n c : Nat} {lo hi : Int} {i k : Nat} (hlo : lo = i) (hhi : hi = (i : Int) + k) (h : i + k ≤ c) (hk : 0 < k) : (Instr.slice 22 (.slice (some ⟨b, o, none⟩) n c) (some (.int .i64 lo)) (some (.int .i64 hi)) none).run Tryd.prog w = .ok (.slice (some ⟨b, o + i, none⟩) k (c - i)) w := by
  have hi8 : Tryd.prog.elem 22 = 5 := by kernel_rfl
  rw [run_slice_lh w 22 (some ⟨b, o, none⟩) n c (by rw [hi8]; exact Tryd.underlying22) .i64 .i64 lo hi (by omega) (by omega) (by omega), hi8]
  have hs : (sizeOf 5).run Tryd.prog w = .ok 1 w := by kernel_rfl
  rw [hs]
  subst hlo hhi
  have e : ((i : Int) + (k : Int)).toNat = i + k := by omega
  simp only [Result.andThen_ok, sliced, Int.toNat_natCast, e, Nat.mul_one, Option.map_some, off_p]
  rw [if_neg (by omega), Nat.add_sub_cancel_left]
section
theorem SlAt.setUpd {w w' : World} {S : Nat → Prop} {gs gd gl gb g gw a many : Nat} {l : List Bool} {bs : List UInt8} {f f' : Nat → Bool} (h : SlAt w S gs gd gl gb g gw l a many bs f) (hS : SetIs w' g gw f' many) (hF : Fr (fun k => k = g ∨ k = gw) w w') : SlAt w' S gs gd gl gb g gw l a many bs f' := by
  obtain ⟨n1, n2, n3, n4, n5⟩ := h.ns
  obtain ⟨m1, m2, m3, m4, m5, m6⟩ := h.ng
  refine ⟨h.top.fr hF (fun e => e.elim n4 n5), DiskAt.fr h.disk hF (fun k hk e => ?_), hS, h.ns, h.ng⟩
  rcases e with rfl | rfl
  · rcases hk with hk | hk | hk
    · exact m1 hk
    · exact m3 hk
    · exact m4 hk
  · rcases hk with hk | hk | hk
    · exact m2 hk
    · exact m5 hk
    · exact m6 hk
variable {w : World} {S : Nat → Prop} {gs gd gl gb g gw a many : Nat} {l : List Bool} {bs : List UInt8} {f : Nat → Bool}
set_option maxRecDepth 100000 in
set_option maxHeartbeats 4000000 in
theorem slPut_go (h : SlAt w S gs gd gl gb g gw l a many bs f) (hT : Tab w) (hl : l.length ≤ 1000000) (ha : a ≤ 900000) {pb po B c : Nat} {p : List UInt8} (hA : RdY w B (some ⟨pb, po, none⟩) p) (hB : B ≤ w.heap.size) (hp : p.length = 4096) (hc : 4096 ≤ c)
    (hne : ¬ SlB S gs gd gb g gw pb) {n : Nat} (hn : n < many) (hf : f n = false) (hlow : ∀ j, j < n → f j = true) :
    Calls Tryd.prog 24 #[.pointer (some ⟨gs, 0, none⟩), .slice (some ⟨pb, po, none⟩) 4096 c] w fun e w' =>
      (∀ k, ask8 l a 8 = some k → e = .returned (.tuple #[.int .i64 0, .int .i64 12]) ∧ SlAt w' S gs gd gl gb g gw l (a + k + 1) many (wrP bs n p k) f) ∧
      (ask8 l a 8 = none → e = .returned (.tuple #[.int .i64 n, .int .i64 0]) ∧ SlAt w' S gs gd gl gb g gw l (a + 8) many (wrP bs n p 8) (updB f n true)) ∧
      Fr (SlW gl gb g gw) w w' := by
  have H1 := Lib.hid (slSet h)
  have H2 := Lib.hid (isFirst_some h.set hT hn hf hlow)
  have HA := Lib.hid hA
  have HNe := Lib.hid hne
  have H := Lib.hid h
  have hmany : many ≤ 128 := by have := DiskAt.le' h.disk; omega
  have HP := Lib.hid hp
  have HB := Lib.hid hB
  have HL := Lib.hid hl
  clear h hT hA hne hp hB hl
  go_enter Tryd.func24, Tryd.ntmps24
  go_wp2_with (first
    | (go_at_call 45; refine H1.out.mono ?_; rintro x w2 ⟨rfl, rfl⟩)
    | (go_at_call 38; refine H2.out.mono ?_; rintro x w2 ⟨rfl, rfl⟩))
  go_loopw [21] (fun i wr => ∃ k : Nat, k ≤ 8 ∧ i = .int .i64 k ∧ ask8 l a k = none ∧ SlAt wr S gs gd gl gb g gw l (a + k) many (wrP bs n p k) f ∧ Fr (SlW gl gb g gw) w wr) (fun i _ => 8 - (intOf i).toNat)
  case atStart => exact ⟨0, by omega, rfl, rfl, H.out, Fr.refl _ _⟩
  case round =>
    obtain ⟨k, hk, rfl, hask, hS, hF⟩ := hrel
    have hd : wr.cell? ⟨gs, 0, none⟩ = some (.pointer (some ⟨gd, 0, none⟩)) := hS.top.cell 0
    rcases Nat.lt_or_ge k 8 with hlt | hge
    · have hki : (k : Int) < 8 := by omega
      have hni : (n : Int) < 128 := by omega
      have HS := Lib.hid hS
      have HF := Lib.hid hF
      have HK := Lib.hid hask
      have e1 : IntKind.i64.wrap ((n : Int) * 8) = (n : Int) * 8 := IntWalk.i64_in _ (by omega)
      have e2 : IntKind.i64.wrap ((n : Int) * 8 + (k : Int)) = (n : Int) * 8 + (k : Int) := IntWalk.i64_in _ (by omega)
      have e3 : IntKind.i64.wrap ((k : Int) * 512) = (k : Int) * 512 := IntWalk.i64_in _ (by omega)
      have e4 : IntKind.i64.wrap ((k : Int) + 1) = (k : Int) + 1 := IntWalk.i64_in _ (by omega)
      have e5 : IntKind.i64.wrap (((k : Int) + 1) * 512) = ((k : Int) + 1) * 512 := IntWalk.i64_in _ (by omega)
      have hsl := fun (W : World) => run_cutY (w := W) (b := pb) (o := po) (n := 4096) (c := c) (lo := (k : Int) * 512) (hi := ((k : Int) + 1) * 512) (i := k * 512) (k := 512) (by omega) (by omega) (by omega) (by omega)
      clear hS hF hask
      go_upto_region 9 with fail
      go_still_tail 15, (by kernel_rfl)
      change wpList _ _ _ _ _ wr.drew
      have HS2 : Hid (SlAt wr.drew S gs gd gl gb g gw l (a + k) many (wrP bs n p k) f) := HS.out.drewN 1
      have HF2 : Hid (Fr (SlW gl gb g gw) w wr.drew) := HF.out.drewN 1
      have HR2 : Hid (RdY wr.drew B (some ⟨pb, po + k * 512, none⟩) (secP p k)) := by
        have h1 : RdY wr.drew B (some ⟨pb, po, none⟩) p := Rd.fr HA.out HF2.out HB.out (fun ad e _ hx => by
          injection e with e
          subst e
          refine HNe.out ?_
          have hx : SlW gl gb g gw pb := hx
          rcases hx with hx | hx | hx | hx
          · exact .inl (hx ▸ DiskAt.self HS.out.disk)
          · exact .inr (.inr (.inl hx))
          · exact .inr (.inr (.inr (.inr (.inl hx))))
          · exact .inr (.inr (.inr (.inr (.inr hx)))))
        have h2 := secP_rd h1 rfl k
        rwa [off_p] at h2
      have hBw : B ≤ wr.drew.heap.size := Nat.le_trans HB.out HF2.out.size
      have hpl : pb ≠ gl := fun e => HNe.out (.inl (e ▸ DiskAt.self HS.out.disk))
      generalize wr.drew = w2 at *
      have hak : a + k ≤ 1000000 := by omega
      have hfk := failed_le l (a + k)
      have HSL := secP_len HP.out hlt
      have hcast : (n : Int) * 8 + (k : Int) = ((n * 8 + k : Nat) : Int) := by omega
      cases hx : l[a + k]?.getD false
      · have HW := Lib.hid (dWrite_ok (c := c - k * 512) HS2.out.disk HL.out hak (by omega) HR2.out hBw HSL (fun ad e => by injection e with e; subst e; exact hpl) (n := n * 8 + k) (by omega) hx)
        have HK1 : Hid (ask8 l a (k + 1) = none) := by show _ = _; rw [ask8_succ _ _ _ HK.out, hx]; rfl
        have HX := Lib.hid hx
        rw [← hcast] at HW
        clear hcast hx hsl e1 e2 e3 e4 e5 hd
        go_wp2_with (go_at_call 46; refine HW.out.mono ?_; rintro x w3 ⟨rfl, hD3, hF3⟩)
        go_roundw
        case rel =>
          refine ⟨k + 1, by omega, by go_num, HK1.out, ?_, ?_⟩
          · exact HS2.out.write (DiskIs.miss hD3 HX.out) hF3
          · exact HF2.out.trans hF3 fun q _ hq => hq.elim .inl (fun h => .inr (.inl h))
        case measure => simp [intOf]; omega
      · have HW := Lib.hid (dWrite_fail (A := some ⟨pb, po + k * 512, none⟩) (c := c - k * 512) HS2.out.disk HL.out hak (by omega) (n := n * 8 + k) (by omega) hx)
        have HK1 : Hid (ask8 l a 8 = some k) := ask8_stop (k := k + 1) (by rw [ask8_succ _ _ _ HK.out, hx]; rfl) (by omega)
        have HX := Lib.hid hx
        rw [← hcast] at HW
        clear hcast hx hsl e1 e2 e3 e4 e5 hd
        go_wp2_with (go_at_call 46; refine HW.out.mono ?_; rintro x w3 ⟨rfl, hD3, hF3⟩)
        go_ret2
        refine ⟨fun q hq => ?_, fun hn => ?_, HF2.out.trans hF3 fun q _ hq => .inl hq⟩
        · rw [HK1.out] at hq
          injection hq with hq
          subst hq
          exact ⟨rfl, HS2.out.write (DiskIs.hit hD3 HX.out) (hF3.mono fun _ _ h => .inl h)⟩
        · rw [HK1.out] at hn
          cases hn
    · obtain rfl : k = 8 := by omega
      have HPt := Lib.hid (isPut_new hS.set hn hf)
      have h1 : wr.cell? ⟨gs, 1, none⟩ = some (.pointer (some ⟨g, 0, none⟩)) := hS.top.cell 1
      have HS := Lib.hid hS
      have HF := Lib.hid hF
      have HK := Lib.hid hask
      clear hS hF hask
      go_wp2_with (go_at_call 14; refine HPt.out.mono ?_; rintro x w3 ⟨rfl, hS3, hF3⟩)
      go_ret2
      refine ⟨fun q hq => ?_, fun _ => ⟨rfl, HS.out.setUpd hS3 hF3⟩, HF.out.trans hF3 fun q _ hq => .inr (.inr hq)⟩
      rw [HK.out] at hq
      cases hq
end
end Go.Proofs.YtcbfaahnhdmagaaDoor
