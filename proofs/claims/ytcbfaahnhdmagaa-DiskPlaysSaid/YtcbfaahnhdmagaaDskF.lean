/- The walk of gunnylaw08.DiskAsks. -/
import Derived.Test.YtcbfaahnhdmagaaDskE
namespace Go.Proofs.Ytcbfaahnhdmagaa
open Go.RowKit

/-- A disk of the call's own. -/
structure DkRun (w0 w : World) (S : Nat → Prop) (gd gl gb : Nat) (l : List Bool) (a m : Nat) (bs : List UInt8) : Prop where
  is_ : DiskIs w S gd gl gb l a m bs
  new : ∀ k, S k ∨ k = gd ∨ k = gb → w0.heap.size ≤ k
  below : Below w0.heap.size w0 w
section
variable {w0 w w' : World} {S : Nat → Prop} {gd gl gb : Nat} {l : List Bool} {a m : Nat} {bs : List UInt8}
theorem DkRun.nl (h : DkRun w0 w S gd gl gb l a m bs) : w0.heap.size ≤ gl := h.new gl (.inl h.is_.self)
theorem DkRun.nb (h : DkRun w0 w S gd gl gb l a m bs) : w0.heap.size ≤ gb := h.new gb (.inr (.inr rfl))
theorem DkRun.step {a' : Nat} {bs' : List UInt8} (h : DkRun w0 w S gd gl gb l a m bs) (hD : DiskIs w' S gd gl gb l a' m bs') (hF : Fr (fun k => k = gl ∨ k = gb) w w') : DkRun w0 w' S gd gl gb l a' m bs' :=
  ⟨hD, h.new, h.below.trans (hF.below h.below.size (fun k hk e => by have := h.nl; have := h.nb; omega))⟩
theorem DkRun.stepR {a' : Nat} {bs' : List UInt8} (h : DkRun w0 w S gd gl gb l a m bs) (hD : DiskIs w' S gd gl gb l a' m bs') (hF : Fr (· = gl) w w') : DkRun w0 w' S gd gl gb l a' m bs' := h.step hD (hF.mono fun _ _ h => .inl h)
theorem DkRun.drewN (h : DkRun w0 w S gd gl gb l a m bs) (n : Nat) : DkRun w0 (w.drewN n) S gd gl gb l a m bs :=
  ⟨DiskAt.drewN h.is_ n, h.new, ⟨h.below.os, h.below.tape, h.below.output, h.below.size, h.below.block⟩⟩
theorem DkRun.below0 (h : DkRun w0 w S gd gl gb l a m bs) (hb : Below w.heap.size w w') : DkRun w0 w' S gd gl gb l a m bs :=
  ⟨DiskAt.below0 h.is_ hb, h.new, h.below.trans (hb.mono h.below.size)⟩
theorem DkRun.cell (h : DkRun w0 w S gd gl gb l a m bs) : w.cell? ⟨gd, 0, none⟩ = some (.pointer (some ⟨gl, 0, none⟩)) := Bk.cell h.is_.top 0
theorem rd_low {B : Nat} {A : Option Addr} {b : List UInt8} (h : RdY w B A b) : ∀ ad, A = some ad → 0 < b.length → ad.block < B := fun ad e hb => by
  obtain ⟨ad', e', h1, _⟩ := h.at_ hb
  rw [e] at e'
  injection e' with e'
  subst e'
  exact h1
end

set_option maxHeartbeats 1000000 in
theorem asks_great {w : World} {A : Option Addr} {c : Nat} {L : List Dd} (h : DdsAt w w.heap.size A L) (hl : L.length ≤ 9223372036854775807) (hg : greatD L = true) :
    Calls Try.prog 7 #[.slice A L.length c] w fun e w' => e = .returned (.bool true) ∧ Below w.heap.size w w' := by
  have HG := Lib.hid (dGreat_any (c := c) h hl)
  rw [hg] at HG
  clear h hg
  go_enter Try.func7, Try.ntmps7
  go_wp2_with (first
    | (go_at_call 17; refine HG.out.mono ?_; rintro e w3 ⟨rfl, rfl⟩)
    | (go_at_call 18; refine (diskLives _).mono ?_; rintro e w3 ⟨rfl, hB3⟩))
  go_ret
  exact ⟨rfl, hB3⟩

set_option maxRecDepth 100000 in
set_option maxHeartbeats 4000000 in
theorem asks_any {w : World} {A : Option Addr} {c : Nat} {L : List Dd} (h : DdsAt w w.heap.size A L) (hg : greatD L = false) :
    Calls Try.prog 7 #[.slice A L.length c] w fun e w' => e = .returned (.bool true) ∧ Below w.heap.size w w' := by
  obtain ⟨hl, hL⟩ := greatD_no hg
  have HG := Lib.hid (dGreat_any (c := c) h (by omega))
  rw [hg] at HG
  have HA := Lib.hid h
  have HN := Lib.hid (dNew_any (w := w) (B := 0) (A := none) (c := 0) (l := []) (Rd.nil _ _ _) (Nat.zero_le _) (by simp) 5 (by omega))
  clear h hg hL
  go_enter Try.func7, Try.ntmps7
  go_wp2_with fail
  refine HG.out.mono ?_
  rintro e w1 ⟨rfl, rfl⟩
  go_wp2_with fail
  refine HN.out.mono ?_
  rintro e w1 ⟨S, gd, gl, gb, rfl, hD, hnew, hB1⟩
  have hR : DkRun w w1 S gd gl gb [] 0 5 (List.replicate (512 * 5) 0) := ⟨hD, hnew, hB1⟩
  clear HG HN hD hnew hB1
  generalize List.replicate (512 * 5) (0 : UInt8) = bs0 at hR
  go_wp2
  go_loopw [5, 6] (fun nv iv wr => ∃ (k a : Nat) (bs : List UInt8), k ≤ L.length ∧ a ≤ k ∧ iv = .int .i64 k ∧ nv = .int .i64 a ∧ DkRun w wr S gd gl gb [] a 5 bs) (fun _ iv _ => L.length - (intOf iv).toNat)
  case atStart => exact ⟨0, 0, bs0, Nat.zero_le _, Nat.le_refl _, rfl, rfl, hR⟩
  case round =>
    clear hR
    obtain ⟨k, a, bs, hk, hak, rfl, rfl, hR⟩ := hrel
    rcases Nat.lt_or_ge k L.length with hlt | hge
    · obtain ⟨d, b, o, hd, rfl, hbB, hc0, hc1, -, hc3, hY⟩ := (HA.out.below hR.below).get hlt
      obtain ⟨kind, n, fill, dA, dc, db⟩ := d
      have HD := Lib.hid hd
      clear hd
      simp only at hc0 hc1 hc3 hY
      have HR := Lib.hid hR
      have HY := Lib.hid hY
      have hlo := rd_low hY
      have hglw := hR.nl
      have HS0 : Hid (∀ W, Below w.heap.size w W → W.cell? ⟨b, o + k * 4 + 1, none⟩ = some (.int .i64 n) ∧ W.cell? ⟨b, o + k * 4 + 3, none⟩ = some (.slice dA db.length dc)) := fun W hW =>
        ⟨(hW.cell (p := ⟨b, _, none⟩) hbB).trans ((hR.below.cell (p := ⟨b, _, none⟩) hbB).symm.trans hc1), (hW.cell (p := ⟨b, _, none⟩) hbB).trans ((hR.below.cell (p := ⟨b, _, none⟩) hbB).symm.trans hc3)⟩
      have HRD : Hid (∀ q, Calls Try.prog 23 #[.pointer (some ⟨gd, 0, none⟩), .int .i64 n] (wr.drewN q) fun e w' => ∃ A' c', e = .returned (.tuple #[.slice A' (rdL [] a 5 bs n).length c', .int .i64 (rErr [] a 5 n)]) ∧ DkRun w w' S gd gl gb [] (askR 5 n a) 5 bs) := fun q =>
        (dRead_all (HR.out.drewN q).is_ (by simp) (by omega) n).mono fun e w' ⟨A', c', h1, h2, h3, h4⟩ => ⟨A', c', h1, (HR.out.drewN q).stepR h3 h4⟩
      have HWR : Hid (∀ q, Calls Try.prog 20 #[.pointer (some ⟨gd, 0, none⟩), .int .i64 n, .slice dA db.length dc] (wr.drewN q) fun e w' => e = .returned (.int .i64 (wErr [] a 5 n db.length)) ∧ DkRun w w' S gd gl gb [] (askW 5 n db.length a) 5 (bsW [] a 5 bs n db)) := fun q =>
        (dWrite_all (HR.out.drewN q).is_ (by simp) (by omega) (HY.out.drewN q) (HR.out.below.size) (fun ad e h0 => by have := hlo ad e h0; omega) n).mono fun e w' ⟨h1, h2, h3⟩ => ⟨h1, (HR.out.drewN q).step h2 h3⟩
      clear hR hY hlo
      have hcase : (∃ q : Nat, n = q ∧ q < 5 ∧ inD 5 n = true) ∨ (n < 0 ∧ inD 5 n = false) ∨ (0 ≤ n ∧ 5 ≤ n ∧ inD 5 n = false) := by
        cases hi : inD 5 n
        · rcases inD_no hi with h | ⟨h, h2⟩
          · exact .inr (.inl ⟨h, rfl⟩)
          · exact .inr (.inr ⟨h, h2, rfl⟩)
        · obtain ⟨q, h, h2⟩ := inD_yes hi
          exact .inl ⟨q, h, h2, rfl⟩
      by_cases hkd : kind = 0
      · subst hkd
        rcases hcase with ⟨q, rfl, hq, hi⟩ | ⟨h, hi⟩ | ⟨h, h2, hi⟩
        all_goals
          have HRR := Lib.hid (HRD.out 0)
          unfold askR at HRR
          rw [hi] at HRR
          clear HRD HWR hi
          go_wp2_with (go_at_call 23; refine HRR.out.mono ?_; rintro e w2 ⟨A', c', rfl, hR2⟩)
          go_roundw
          case rel => exact ⟨k + 1, _, bs, by omega, by split <;> omega, by go_num, by first | rfl | go_num, hR2⟩
          case measure => simp [intOf]; omega
      · have hkb : (kind == 0) = false := beq_eq_false_iff_ne.2 hkd
        have HWW : Hid (∃ X Y, ∀ q, Calls Try.prog 20 #[.pointer (some ⟨gd, 0, none⟩), .int .i64 n, .slice dA db.length dc] (wr.drewN q) fun e w' => e = .returned (.int .i64 X) ∧ DkRun w w' S gd gl gb [] (if inD 5 n then (if db.length = 512 then a + 1 else a) else a) 5 Y) := ⟨_, _, HWR.out⟩
        obtain ⟨X, Y, hW⟩ := HWW.out
        clear HWW HWR HRD hkd
        rcases hcase with ⟨q, rfl, hq, hi⟩ | ⟨h, hi⟩ | ⟨h, h2, hi⟩
        · have hqi : (q : Int) < 5 := by omega
          by_cases hb : db.length = 512
          · have hbb : ((db.length : Int) == 512) = true := beq_iff_eq.2 (by omega)
            rw [hi, if_pos rfl, if_pos hb] at hW
            clear hi hb
            have HW := Lib.hid hW
            have HS := HS0
            clear hW HS0
            go_upto_region 13 with fail
            go_region_held3 (fun W => W.cell? ⟨b, o + k * 4 + 1, none⟩ = some (.int .i64 q) ∧ W.cell? ⟨b, o + k * 4 + 3, none⟩ = some (.slice dA db.length dc)) (first | exact ⟨hc1, hc3⟩ | exact HS.out _ hR2.below) ((go_at_call 20; refine (HW.out 1).mono ?_; rintro e w2 ⟨rfl, hR2⟩))
            all_goals
              obtain ⟨-, hc4⟩ := HS.out _ hR2.below
              go_wp2
              go_roundw
              case rel => exact ⟨k + 1, _, Y, by omega, by omega, by go_num, by go_num, hR2⟩
              case measure => simp [intOf]; omega
          · have hbb : ((db.length : Int) == 512) = false := beq_eq_false_iff_ne.2 (by omega)
            rw [hi, if_pos rfl, if_neg hb] at hW
            clear hi hb
            have HW := Lib.hid hW
            have HS := HS0
            clear hW HS0
            go_upto_region 13 with fail
            go_region_held3 (fun W => W.cell? ⟨b, o + k * 4 + 1, none⟩ = some (.int .i64 q) ∧ W.cell? ⟨b, o + k * 4 + 3, none⟩ = some (.slice dA db.length dc)) (first | exact ⟨hc1, hc3⟩ | exact HS.out _ hR2.below) ((go_at_call 20; refine (HW.out 1).mono ?_; rintro e w2 ⟨rfl, hR2⟩))
            all_goals
              obtain ⟨-, hc4⟩ := HS.out _ hR2.below
              go_wp2
              go_roundw
              case rel => exact ⟨k + 1, _, Y, by omega, by omega, by go_num, by go_num, hR2⟩
              case measure => simp [intOf]; omega
        · rw [hi, if_neg (by decide)] at hW
          clear hi
          by_cases hb : True
          · have HW := Lib.hid hW
            have HS := HS0
            clear hW HS0
            go_upto_region 13 with fail
            go_region_held3 (fun W => W.cell? ⟨b, o + k * 4 + 1, none⟩ = some (.int .i64 n) ∧ W.cell? ⟨b, o + k * 4 + 3, none⟩ = some (.slice dA db.length dc)) (first | exact ⟨hc1, hc3⟩ | exact HS.out _ hR2.below) ((go_at_call 20; refine (HW.out 1).mono ?_; rintro e w2 ⟨rfl, hR2⟩))
            all_goals
              obtain ⟨-, hc4⟩ := HS.out _ hR2.below
              go_wp2
              go_roundw
              case rel => exact ⟨k + 1, _, Y, by omega, by omega, by go_num, by go_num, hR2⟩
              case measure => simp [intOf]; omega
          · exact absurd trivial hb
        · rw [hi, if_neg (by decide)] at hW
          clear hi
          by_cases hb : True
          · have HW := Lib.hid hW
            have HS := HS0
            clear hW HS0
            go_upto_region 13 with fail
            go_region_held3 (fun W => W.cell? ⟨b, o + k * 4 + 1, none⟩ = some (.int .i64 n) ∧ W.cell? ⟨b, o + k * 4 + 3, none⟩ = some (.slice dA db.length dc)) (first | exact ⟨hc1, hc3⟩ | exact HS.out _ hR2.below) ((go_at_call 20; refine (HW.out 1).mono ?_; rintro e w2 ⟨rfl, hR2⟩))
            all_goals
              obtain ⟨-, hc4⟩ := HS.out _ hR2.below
              go_wp2
              go_roundw
              case rel => exact ⟨k + 1, _, Y, by omega, by omega, by go_num, by go_num, hR2⟩
              case measure => simp [intOf]; omega
          · exact absurd trivial hb
    · obtain rfl : k = L.length := by omega
      have hc := hR.cell
      have HAs := Lib.hid (asked_any hR.is_.luck)
      have HFa := Lib.hid (failed_any hR.is_.luck)
      have HLe := Lib.hid (left_any hR.is_.luck (by simp) (by omega))
      rw [show failed [] a = 0 by simp [failed]] at HFa
      rw [show (([] : List Bool).length - a : Nat) = 0 by simp] at HLe
      have HB := Lib.hid hR.below
      have hz := hR.below.size
      clear hR
      go_wp2_with fail
      refine HAs.out.mono ?_
      rintro e w2 ⟨rfl, rfl⟩
      go_wp2_with fail
      refine HFa.out.mono ?_
      rintro e w2 ⟨rfl, rfl⟩
      go_wp2_with fail
      refine HLe.out.mono ?_
      rintro e w2 ⟨rfl, q, rfl⟩
      go_wp2_with fail
      refine (diskLives _).mono ?_
      rintro e w3 ⟨rfl, hB3⟩
      go_wp2
      go_ret
      exact ⟨rfl, (show Below w.heap.size w (wr.drewN q) from ⟨HB.out.os, HB.out.tape, HB.out.output, HB.out.size, HB.out.block⟩).trans (hB3.mono hz)⟩
end Go.Proofs.Ytcbfaahnhdmagaa
