/- The walk of gunnylaw08.DiskFails. -/
import Derived.Test.YtcbfaahnhdmagaaDskG
namespace Go.Proofs.Ytcbfaahnhdmagaa
open Go.RowKit

set_option maxRecDepth 100000 in
set_option maxHeartbeats 1000000 in
theorem fails_great {w : World} {A A2 : Option Addr} {n c c2 : Nat} {L : List Dd} (h : DdsAt w w.heap.size A2 L) (hl : L.length ≤ 9223372036854775807) (hn : n ≤ 9223372036854775807) (cs : Array Value) (hg : 500 < n ∨ (n ≤ 500 ∧ greatD L = true)) :
    Calls Try.prog 6 #[.slice A n c, .slice A2 L.length c2, .agg cs] w fun e w' => e = .returned (.bool true) ∧ Below w.heap.size w w' := by
  have h2 : DdsAt (w.alloc (.cells cs 34)) w.heap.size A2 L := h.below ((Below.refl _ _).alloc (Nat.le_refl _) _)
  have HG := Lib.hid (dGreat_any (c := c2) h2 hl)
  clear h h2
  rcases hg with h | ⟨h, hgr⟩
  · go_enter Try.func6, Try.ntmps6
    go_wp2_with (first
      | (go_at_call 17; refine HG.out.mono ?_; rintro e w3 ⟨rfl, rfl⟩)
      | (go_at_call 18; refine (diskLives _).mono ?_; rintro e w3 ⟨rfl, hB3⟩))
    go_ret
    exact ⟨rfl, ((Below.refl w.heap.size w).alloc (Nat.le_refl _) _).trans (hB3.mono (by simp))⟩
  · rw [hgr] at HG
    clear hgr
    go_enter Try.func6, Try.ntmps6
    go_wp2_with (first
      | (go_at_call 17; refine HG.out.mono ?_; rintro e w3 ⟨rfl, rfl⟩)
      | (go_at_call 18; refine (diskLives _).mono ?_; rintro e w3 ⟨rfl, hB3⟩))
    go_ret
    exact ⟨rfl, ((Below.refl w.heap.size w).alloc (Nat.le_refl _) _).trans (hB3.mono (by simp))⟩

theorem wErr_out {l : List Bool} {a m : Nat} {n : Int} {k : Nat} (h : inD m n = false) : wErr l a m n k = 2 := by unfold wErr; rw [h]; rfl
theorem wErr_in {l : List Bool} {a m : Nat} {n : Int} (h : inD m n = true) : wErr l a m n 512 = if l[a]?.getD false then 12 else 0 := by unfold wErr; rw [h, if_pos rfl, if_pos rfl]
theorem askW_le (m : Nat) (n : Int) (k a : Nat) : askW m n k a ≤ a + 1 := by
  unfold askW
  split
  · split <;> omega
  · omega
theorem askR_le (m : Nat) (n : Int) (a : Nat) : askR m n a ≤ a + 1 := by unfold askR; split <;> omega
/-- The disk's blocks. -/
def DkX (S : Nat → Prop) (gd gb : Nat) : Nat → Prop := fun k => S k ∨ k = gd ∨ k = gb

theorem byte_next (x : UInt8) : ∃ y : UInt8, ((y.toNat : Int) = (x.toNat : Int) + 1 ∧ (x.toNat : Int) + 1 ≤ 255) ∨ (x.toNat = 255 ∧ y.toNat = 0) := by
  have hx := x.toNat_lt
  rcases Nat.lt_or_ge x.toNat 255 with h | h
  · have e : (UInt8.ofNat (x.toNat + 1)).toNat = x.toNat + 1 := by
      rw [UInt8.toNat_ofNat']; omega
    exact ⟨UInt8.ofNat (x.toNat + 1), .inl ⟨by omega, by omega⟩⟩
  · exact ⟨0, .inr ⟨by omega, rfl⟩⟩
theorem sec_upd {bs b : List UInt8} {m q : Nat} (h : bs.length = 512 * m) (hq : q < m) (hb : b.length = 512) : updF (sec bs) q b = sec (putS bs q b) := by
  funext i
  rw [sec_put h hq hb]
  rfl

set_option maxRecDepth 100000 in
set_option maxHeartbeats 8000000 in
theorem fails_any2 {w : World} {A A2 : Option Addr} {c c2 : Nat} {l : List Bool} {L : List Dd} {dA : Option Addr} {dc : Nat} (kind n : Int) (fill : UInt8) (dn : Nat) (hA : RdB w w.heap.size A l) (hl : l.length ≤ 500) (h : DdsAt w w.heap.size A2 L) (hg : greatD L = false) :
    Calls Try.prog 6 #[.slice A l.length c, .slice A2 L.length c2, .agg #[.int .i64 kind, .int .i64 n, .int .u8 (fill.toNat : Int), .slice dA dn dc]] w fun e w' => e = .returned (.bool true) ∧ Below w.heap.size w w' := by
  obtain ⟨hL, -⟩ := greatD_no hg
  obtain ⟨w1, hw1⟩ : ∃ w1, w1 = w.alloc (.cells #[.int .i64 kind, .int .i64 n, .int .u8 (fill.toNat : Int), .slice dA dn dc] 34) := ⟨_, rfl⟩
  have hB1 : Below w.heap.size w w1 := by rw [hw1]; exact (Below.refl _ _).alloc (Nat.le_refl _) _
  have hbx : Bk w1 w.heap.size 34 #[.int .i64 kind, .int .i64 n, .int .u8 (fill.toNat : Int), .slice dA dn dc] := by rw [hw1]; exact Bk.new _ _ _
  have hz1 : w1.heap.size = w.heap.size + 1 := by rw [hw1]; simp
  have HG := Lib.hid (dGreat_any (c := c2) (h.below hB1) (by omega))
  rw [hg] at HG
  have HA := Lib.hid (h.below hB1)
  have HN := Lib.hid (dNew_any (c := c) (hA.below hB1) (by omega) (by omega) 6 (by omega))
  have HBx := Lib.hid hbx
  have HB1 := Lib.hid hB1
  have HW1 := Lib.hid hw1
  have hbx1 : w.heap.size < w1.heap.size := by omega
  clear h hA hg hB1 hbx hw1 hz1
  go_enter Try.func6, Try.ntmps6
  go_upto_region 1 with fail
  rw [← HW1.out]
  go_wp2_with fail
  refine HG.out.mono ?_
  rintro e w2 ⟨rfl, rfl⟩
  go_wp2_with fail
  refine HN.out.mono ?_
  rintro e w2 ⟨S, gd, gl, gb, rfl, hD, hnew, hB2⟩
  have hR : DkRun w1 w2 S gd gl gb l 0 6 (List.replicate (512 * 6) 0) := ⟨hD, hnew, hB2⟩
  clear HG HN hD hnew hB2
  generalize List.replicate (512 * 6) (0 : UInt8) = bs0 at hR
  go_wp2
  go_loopw [9] (fun iv wr => ∃ (k a : Nat) (bs : List UInt8), k ≤ L.length ∧ a ≤ k ∧ iv = .int .i64 k ∧ DkRun w1 wr S gd gl gb l a 6 bs) (fun iv _ => L.length - (intOf iv).toNat)
  case atStart => exact ⟨0, 0, bs0, Nat.zero_le _, Nat.le_refl _, rfl, hR⟩
  case round =>
    clear hR
    obtain ⟨k, a, bs, hk, hak, rfl, hR⟩ := hrel
    rcases Nat.lt_or_ge k L.length with hlt | hge
    · obtain ⟨d, b, o, hd, rfl, hbB, -, hc1, hc2, -, -⟩ := (HA.out.below (hR.below.mono (by omega))).get hlt
      obtain ⟨kd, nd, fd, dA2, dc2, db⟩ := d
      simp only at hc1 hc2
      have HS : Hid (∀ W, Below w1.heap.size w1 W → W.cell? ⟨b, o + k * 4 + 1, none⟩ = some (.int .i64 nd) ∧ W.cell? ⟨b, o + k * 4 + 2, none⟩ = some (.int .u8 (fd.toNat : Int))) := fun W hW =>
        ⟨(hW.cell (p := ⟨b, _, none⟩) (by show b < _; omega)).trans ((hR.below.cell (p := ⟨b, _, none⟩) (by show b < _; omega)).symm.trans hc1), (hW.cell (p := ⟨b, _, none⟩) (by show b < _; omega)).trans ((hR.below.cell (p := ⟨b, _, none⟩) (by show b < _; omega)).symm.trans hc2)⟩
      have HR : Hid (DkRun w1 wr.drew S gd gl gb l a 6 bs) := hR.drewN 1
      clear hR hd
      go_upto_region 9 with fail
      go_region_held3 (fun W => W.cell? ⟨b, o + k * 4 + 1, none⟩ = some (.int .i64 nd) ∧ W.cell? ⟨b, o + k * 4 + 2, none⟩ = some (.int .u8 (fd.toNat : Int))) (first | exact ⟨hc1, hc2⟩ | exact HS.out _ hR4.below | exact HS.out _ (HR.out.below0 hB3).below) (first
        | (go_at_call 21; refine (filled_any _ fd).mono ?_; rintro e w3 ⟨rfl, hO3, hB3⟩)
        | (go_at_call 20; refine (dWrite_fill HR.out (by omega) (by omega) hB3 hO3 nd).mono ?_; rintro e w4 ⟨rfl, hR4, hF4⟩))
      all_goals
        go_wp2
        go_roundw
        case rel => exact ⟨k + 1, _, _, by omega, by have := askW_le 6 nd 512 a; omega, by go_num, hR4⟩
        case measure => simp [intOf]; omega
    · obtain rfl : k = L.length := by omega
      go_upto_region 11 with fail
      have hRl := hR.is_.lt
      have HR := Lib.hid hR
      obtain ⟨gw, hgw⟩ : ∃ gw, gw = wr.heap.size := ⟨_, rfl⟩
      have hzw : w1.heap.size ≤ gw := by rw [hgw]; exact hR.below.size
      obtain ⟨w5, hw5⟩ : ∃ w5, w5 = wr.alloc (.cells #[.slice none 0 0, .slice none 0 0, .slice none 0 0, .slice none 0 0, .slice none 0 0, .slice none 0 0] 42) := ⟨_, rfl⟩
      have hz5 : w5.heap.size = gw + 1 := by rw [hw5, hgw]; simp
      have hR5 : DkRun w1 w5 S gd gl gb l a 6 bs := by rw [hw5]; exact hR.below0 ((Below.refl _ _).alloc (Nat.le_refl _) _)
      have hW5 : WasAt w5 w5.heap.size (DkX S gd gb) gw (sec bs) (fun _ => (none, 0)) 0 := by
        refine ⟨?_, by omega, fun hx => ?_, fun i hi => by omega, fun i hi => by omega⟩
        · rw [hw5, hgw]
          exact Bk.new wr 42 (slCells (fun _ => (none, 0)) 0)
        · have := hRl _ hx; omega
      rw [← hw5, ← hgw]
      clear hw5 hgw HR hR hRl
      go_wp2
      go_loopw [11] (fun iv wr => ∃ (k B : Nat) (F : Nat → Option Addr × Nat), k ≤ 6 ∧ iv = .int .i64 k ∧ DkRun w1 wr S gd gl gb l a 6 bs ∧ B ≤ wr.heap.size ∧ WasAt wr B (DkX S gd gb) gw (sec bs) F k) (fun iv _ => 6 - (intOf iv).toNat)
      case atStart => exact ⟨0, _, _, by omega, rfl, hR5, Nat.le_refl _, hW5⟩
      case round =>
        obtain ⟨wo, hwo⟩ : ∃ wo : World, wo = wr := ⟨_, rfl⟩
        clear hR5 hW5 hwo
        obtain ⟨k, B, F, hk6, rfl, hR, hB, hW⟩ := hrel
        have HR := Lib.hid hR
        have HW := Lib.hid hW
        have hXl : ∀ q, DkX S gd gb q → q < wr.heap.size := hR.is_.lt
        rcases Nat.lt_or_ge k 6 with hlt6 | hge6
        · have hki : (k : Int) < 6 := by omega
          have HP := Lib.hid (dPeek_all hR.is_ (k : Int))
          rw [show pkL 6 bs (k : Int) = sec bs k by unfold pkL; rw [show inD 6 (k : Int) = true by simp [inD]; omega]; rfl, sec_len hR.is_.len hlt6] at HP
          have hgwl : gw < wr.heap.size := hW.arr.lt
          clear hR hW
          go_wp2_with fail
          refine HP.out.mono ?_
          rintro e w6 ⟨A6, c6, rfl, hO6, hB6⟩
          have hW6 := (HW.out.fr (Fr.of_below (S := fun q => wr.heap.size ≤ q) hB6 fun _ _ h => h) (fun q hq => .inr (by omega))).more (B' := w6.heap.size) (by have := hB6.size; omega) (Nat.le_refl _)
          have hc6 : w6.cell? ⟨gw, k, none⟩ = some (.slice none 0 0) := (Bk.cell hW6.arr k).trans (slCells_nil F hlt6 (Nat.le_refl _))
          have hf6 : w6.frozen? ⟨gw, k, none⟩ = false := Bk.free hW6.arr k
          have hne6 : ∀ ad, A6 = some ad → ad.block ≠ gw := fun ad e => by
            obtain ⟨g, h1, h2, _⟩ := hO6.at_ (by rw [sec_len HR.out.is_.len hlt6]; omega)
            rw [e] at h1
            injection h1 with h1
            subst h1
            show ¬ g = gw
            omega
          have HW7 := Lib.hid (hW6.next hlt6 (YAt.own hO6 hXl) (sec_len HR.out.is_.len hlt6) (c := c6) hne6 rfl)
          have HR7 := Lib.hid ((HR.out.below0 hB6).far (R := (· = gw)) ((Fr.refl _ w6).set ⟨gw, k, none⟩ (.slice A6 512 c6) fun _ => rfl) (fun q hq => by subst hq; exact ⟨by omega, hW6.apart⟩))
          clear hW6 hne6 hO6 hB6 HP
          go_wp2
          go_roundw
          case rel => exact ⟨k + 1, w6.heap.size, _, by omega, by go_num, HR7.out, by simp [World.setCell], HW7.out⟩
          case measure => simp [intOf]; omega
        · obtain rfl : k = 6 := by omega
          have HSx : Hid (∀ W, Below w1.heap.size w1 W → W.cell? ⟨w.heap.size, 1, none⟩ = some (.int .i64 n) ∧ W.cell? ⟨w.heap.size, 2, none⟩ = some (.int .u8 (fill.toNat : Int))) := fun W hW =>
            ⟨(hW.cell (p := ⟨w.heap.size, 1, none⟩) hbx1).trans (HBx.out.cell 1), (hW.cell (p := ⟨w.heap.size, 2, none⟩) hbx1).trans (HBx.out.cell 2)⟩
          obtain ⟨hx1, hx2⟩ := HSx.out wr hR.below
          have HR1 : Hid (DkRun w1 wr.drew S gd gl gb l a 6 bs) := hR.drewN 1
          clear hR hW hXl
          go_upto_region 15 with fail
          go_region_held3 (fun W => W.cell? ⟨w.heap.size, 1, none⟩ = some (.int .i64 n) ∧ W.cell? ⟨w.heap.size, 2, none⟩ = some (.int .u8 (fill.toNat : Int))) (first | exact ⟨hx1, hx2⟩ | exact HSx.out _ hR4.below | exact HSx.out _ (HR1.out.below0 hB3).below) (first
            | (go_at_call 21; refine (filled_any _ fill).mono ?_; rintro e w3 ⟨rfl, hO3, hB3⟩)
            | (go_at_call 20; refine (dWrite_fill HR1.out (by omega) (by omega) hB3 hO3 n).mono ?_; rintro e w4 ⟨rfl, hR4, hF4⟩))
          all_goals
            have hW4 := HW.out.fr (w' := w4) (Fr.trans (S := fun q => (q = gl ∨ q = gb) ∨ wr.heap.size ≤ q) ((Fr.refl (fun _ => False) wr).drewN 1 |>.mono fun _ _ h => h.elim) hF4 fun _ _ h => h) (fun q hq => by
              rcases hq with (rfl | rfl) | hq
              · exact .inl (.inl HR.out.is_.self)
              · exact .inl (.inr (.inr rfl))
              · exact .inr (by omega))
            have HW4 := Lib.hid hW4
            have HR4 := Lib.hid hR4
            have hak2 : askW 6 n 512 a ≤ L.length + 1 := by have := askW_le 6 n 512 a; omega
            have HF4 := Lib.hid hF4.size
            obtain ⟨hy1, hy2⟩ := HSx.out w4 hR4.below
            have hB4 : B ≤ w4.heap.size := Nat.le_trans hB (show wr.heap.size ≤ w4.heap.size from hF4.size)
            obtain ⟨E, hE⟩ : ∃ E : Int, (wErr l a 6 n 512 : Int) = E := ⟨_, rfl⟩
            rw [hE]
            have HE := Lib.hid hE
            have HLE := Lib.hid HR.out.is_.len
            clear hW4 hF4 hO3 hB3 hE hx1 hx2 hR4
            go_upto_region 16 with fail
            go_cut [80] (fun s wx => s = .bool (inD 6 n) ∧ wx = w4)
            case first => as_aux_lemma =>
              cases hi : inD 6 n
              · have HI := Lib.hid hi
                rcases inD_no hi with h | ⟨h, h2⟩
                · clear hi
                  go_wp2
                  go_meet
                  exact ⟨by rw [HI.out], rfl⟩
                · have h3 : decide (n < 6) = false := decide_eq_false (by omega)
                  clear hi
                  go_wp2
                  go_meet
                  exact ⟨by rw [HI.out], rfl⟩
              · have HI := Lib.hid hi
                obtain ⟨q, rfl, hq⟩ := inD_yes hi
                have hqi : (q : Int) < 6 := by omega
                clear hi
                go_wp2
                go_meet
                exact ⟨by rw [HI.out], rfl⟩
            case rest =>
            obtain ⟨rfl, hw4⟩ := hcut
            have hw4 := hw4.symm
            subst hw4
            go_upto_if 80 with (fail)
            go_cut [12] (fun v wx => ∃ (a' B' : Nat) (bs' : List UInt8) (F' : Nat → Option Addr × Nat), a' ≤ L.length + 1 ∧ DkRun w1 wx S gd gl gb l a' 6 bs' ∧ B' ≤ wx.heap.size ∧ WasAt wx B' (DkX S gd gb) gw (sec bs') F' 6)
            case first => as_aux_lemma =>
              cases hi : inD 6 n
              · have e1 : wErr l a 6 n (List.replicate 512 fill).length = 2 := wErr_out hi
                have hE2 : E = 2 := by rw [← HE.out, wErr_out hi]; rfl
                have HR5 := HR4.out
                rw [show bsW l a 6 bs n (List.replicate 512 fill) = bs by unfold bsW; rw [e1]; rfl] at HR5
                subst hE2
                clear e1
                clear hi
                go_wp2
                go_meet
                exact ⟨_, B, bs, F, hak2, HR5, hB4, HW4.out⟩
              · obtain ⟨q, rfl, hq⟩ := inD_yes hi
                have hqi : (q : Int) < 6 := by omega
                cases hx : l[a]?.getD false
                · have e0 : wErr l a 6 (q : Int) 512 = 0 := by rw [wErr_in hi, hx]; rfl
                  have e1 : wErr l a 6 (q : Int) (List.replicate 512 fill).length = 0 := by rw [List.length_replicate]; exact e0
                  have hE2 : E = 0 := by rw [← HE.out, e0]; rfl
                  have HR5 := HR4.out
                  rw [show bsW l a 6 bs (q : Int) (List.replicate 512 fill) = putS bs q (List.replicate 512 fill) by unfold bsW; rw [e1]; rfl] at HR5
                  have HSp := Lib.hid (sec_upd HLE.out hq (List.length_replicate (n := 512) (a := fill)))
                  have HR6 := Lib.hid HR5
                  have hgw4 : gw < w4.heap.size := by have := HW4.out.lt; omega
                  have hXl : ∀ q, DkX S gd gb q → q < w4.heap.size := HR5.is_.lt
                  subst hE2
                  clear e1 e0 hi hx HR5
                  go_wp2
                  go_region_held3 (fun W => W.cell? ⟨w.heap.size, 1, none⟩ = some (.int .i64 q) ∧ W.cell? ⟨w.heap.size, 2, none⟩ = some (.int .u8 (fill.toNat : Int))) (first | exact ⟨hy1, hy2⟩ | exact HSx.out _ (HR6.out.below0 hB9').below | exact HSx.out _ ((HR6.out.below0 hB9').below.setCell (p := ⟨gw, q, none⟩) hzw _)) ((go_at_call 21; refine (filled_any _ fill).mono ?_; rintro e w9 ⟨rfl, hO9, hB9⟩; have hB9' : Below w4.heap.size w4 w9 := ⟨hB9.os, hB9.tape, hB9.output, hB9.size, hB9.block⟩; have hW9 := Lib.hid ((HW4.out.fr (Fr.of_below (S := fun q => w4.heap.size ≤ q) hB9' fun _ _ h => h) (fun q hq => .inr (Nat.le_trans hB4 hq))).more (B' := w9.heap.size) (Nat.le_trans hB4 hB9'.size) (Nat.le_refl _)); have hc9 := (Bk.cell hW9.out.arr q).trans (slCells_get F (Nat.le_refl 6) hq); have hf9 := Bk.free hW9.out.arr q))
                  all_goals
                    have hW10 := hW9.out.put hq (YAt.own (w := w9) (base := w4.heap.size) hO9 hXl) (List.length_replicate ..) (c := 512) (fun ad e => by injection e with e; subst e; show ¬ w4.heap.size = gw; omega)
                    rw [HSp.out] at hW10
                    have HW10 := Lib.hid hW10
                    have HR10 := Lib.hid ((HR6.out.below0 hB9').far (R := (· = gw)) ((Fr.refl _ w9).set ⟨gw, q, none⟩ (.slice (some ⟨w4.heap.size, 0, none⟩) 512 512) fun _ => rfl) (fun q hq => by subst hq; exact ⟨hzw, HW4.out.apart⟩))
                    clear hW10 hW9 hO9 hB9 hB9'
                    go_wp2
                    go_meet
                    exact ⟨_, w9.heap.size, _, _, hak2, HR10.out, by simp [World.setCell], HW10.out⟩
                · have e0 : wErr l a 6 (q : Int) 512 = 12 := by rw [wErr_in hi, hx]; rfl
                  have e1 : wErr l a 6 (q : Int) (List.replicate 512 fill).length = 12 := by rw [List.length_replicate]; exact e0
                  have hE2 : E = 12 := by rw [← HE.out, e0]; rfl
                  have HR5 := HR4.out
                  rw [show bsW l a 6 bs (q : Int) (List.replicate 512 fill) = bs by unfold bsW; rw [e1]; rfl] at HR5
                  subst hE2
                  clear e1 e0 hi hx
                  go_wp2
                  go_meet
                  exact ⟨_, B, bs, F, hak2, HR5, hB4, HW4.out⟩
            case rest =>
              clear HW4 HR4 hB4 hy1 hy2 HLE HE HF4 HR1 HW HR hB
              obtain ⟨a', B', bs', F', ha', hR0, hB0, hW0⟩ := hcut
              go_wp2
              go_loopw [13] (fun iv wr => ∃ (k a B : Nat), k ≤ 6 ∧ iv = .int .i64 k ∧ a ≤ L.length + 1 + k ∧ DkRun w1 wr S gd gl gb l a 6 bs' ∧ B ≤ wr.heap.size ∧ WasAt wr B (DkX S gd gb) gw (sec bs') F' 6) (fun iv _ => 6 - (intOf iv).toNat)
              case atStart => exact ⟨0, a', B', by omega, rfl, by omega, hR0, hB0, hW0⟩
              case round =>
                clear hR0 hB0 hW0 hge6 hk6 hak2 hak hge hz5
                obtain ⟨k, a, B, hk6, rfl, hak, hR, hB, hW⟩ := hrel
                obtain ⟨wq, hwq⟩ : ∃ wq : World, wq = wr := ⟨_, rfl⟩
                rw [← hwq] at hR hB hW ⊢
                clear hwq
                rcases Nat.lt_or_ge k 6 with hlt6 | hge6
                · have hki : (k : Int) < 6 := by omega
                  have HR := Lib.hid hR
                  have HW := Lib.hid hW
                  have HSl := Lib.hid (sec_len hR.is_.len hlt6)
                  have HP := Lib.hid (fun W a' (hW : DkRun w1 W S gd gl gb l a' 6 bs') => dPeek_in hW.is_ hlt6)
                  have hXl : ∀ q, DkX S gd gb q → q < wq.heap.size := hR.is_.lt
                  have hzq := hR.below.size
                  have HX := Lib.hid hXl
                  clear hR hW hXl
                  go_wp2_with fail
                  refine (HP.out _ _ HR.out).mono ?_
                  rintro e w6 ⟨A6, c6, rfl, hO6, hB6⟩
                  have HR6 := Lib.hid (HR.out.below0 hB6)
                  have HO6 := Lib.hid hO6
                  have HF6 : Hid (Fr (fun q => q = gl ∨ wq.heap.size ≤ q) wq w6) := Fr.of_below hB6 fun _ _ h => .inr h
                  obtain ⟨gn, rfl, hgn1, hgn2, -, -, -, -⟩ := hO6.at_ (by rw [HSl.out]; omega)
                  have hgll : gl < wq.heap.size := HX.out gl (.inl HR.out.is_.self)
                  have HBB : Hid (∀ W A c base, OwnY W base (.slice A 512 c) (sec bs' k) → WasAt W B (DkX S gd gb) gw (sec bs') F' 6 → Calls Try.prog 24 #[.slice A 512 c, .slice (F' k).1 512 (F' k).2] W fun e w' => e = .returned (.bool true) ∧ W = w') := fun W A c base h1 h2 => by
                    have := refBytes_any (c := c) (c2 := (F' k).2) h1.rd (h2.ys k hlt6).1.rd
                    rw [beq_self_eq_true, HSl.out] at this
                    exact this
                  clear hO6 hB6
                  cases hx : l[a]?.getD false
                  · as_aux_lemma =>
                    have HRd := Lib.hid (dRead_ok HR6.out.is_ (by omega) (by omega) (by have := failed_le l a; omega) hlt6 hx)
                    have HXx := Lib.hid hx
                    clear hx
                    go_wp2_with fail
                    refine HRd.out.mono ?_
                    rintro e w7 ⟨A7, c7, rfl, hO7, hD7, hF7⟩
                    have HR7 := Lib.hid (HR6.out.stepR (DiskIs.miss hD7 HXx.out) hF7)
                    have HF7 : Hid (Fr (fun q => q = gl ∨ wq.heap.size ≤ q) wq w7) := HF6.out.trans hF7 fun _ _ h => .inl h
                    have HO7 : Hid (OwnY w7 wq.heap.size (.slice (some ⟨gn, 0, none⟩) 512 c6) (sec bs' k)) := HO6.out.same fun q hq => by
                      simp only [Value.ownBlock, Option.some.injEq] at hq
                      subst hq
                      exact hF7.block _ hgn2 (by show ¬ gn = gl; omega)
                    have HW7 := Lib.hid (HW.out.fr HF7.out (fun q hq => by
                      rcases hq with rfl | hq
                      · exact .inl (.inl HR.out.is_.self)
                      · exact .inr (by omega)))
                    have HBy := Lib.hid (HBB.out _ _ c6 _ HO7.out HW7.out)
                    have HOb := Lib.hid hO7
                    obtain ⟨gq, rfl, hgq1, hgq2, -, -, -, -⟩ := hO7.at_ (by rw [HSl.out]; omega)
                    have HBq := Lib.hid (refBytes_any (c := c7) (c2 := c6) HOb.out.rd HO7.out.rd)
                    rw [beq_self_eq_true, HSl.out] at HBq
                    clear hO7
                    have hc7 := (Bk.cell HW7.out.arr k).trans (slCells_get F' (Nat.le_refl 6) hlt6)
                    clear hD7 hF7 HRd HXx
                    go_wp2_with fail
                    refine HBy.out.mono ?_
                    rintro e w8 ⟨rfl, rfl⟩
                    go_wp2_with fail
                    refine HBq.out.mono ?_
                    rintro e w8 ⟨rfl, rfl⟩
                    go_wp2
                    go_loopw [17] (fun iv wi => ∃ (j : Nat) (p : List UInt8), j ≤ 512 ∧ iv = .int .i64 j ∧ p.length = 512 ∧ OwnY wi wq.heap.size (.slice (some ⟨gn, 0, none⟩) 512 c6) p ∧ Fr (· = gn) w7 wi) (fun iv _ => 512 - (intOf iv).toNat)
                    case atStart => exact ⟨0, _, by omega, rfl, HSl.out, HO7.out, Fr.refl _ _⟩
                    case round =>
                      obtain ⟨j, p, hj, rfl, hp, hO, hF⟩ := hrel
                      obtain ⟨wi, hwi⟩ : ∃ wi : World, wi = wr := ⟨_, rfl⟩
                      rw [← hwi] at hO hF ⊢
                      clear hwi
                      rcases Nat.lt_or_ge j 512 with hj5 | hj5
                      · have hji : (j : Int) < 512 := by omega
                        obtain ⟨g', hg', -, -, -, -, hcc, hff⟩ := hO.at_ (by omega)
                        obtain rfl : gn = g' := by simpa using hg'
                        have k1 := hcc j (by omega)
                        have k2 := hff j
                        obtain ⟨y, hy⟩ := byte_next (p[j]?.getD 0)
                        have HO2 := Lib.hid (hO.set (k := j) (by omega) y)
                        have HF2 := Lib.hid (hF.set ⟨gn, j, none⟩ (.int .u8 (y.toNat : Int)) fun _ => rfl)
                        generalize (p[j]?.getD 0).toNat = x at *
                        obtain ⟨z, hz1, hz2⟩ : ∃ z : Int, z = (y.toNat : Int) ∧ (z = (x : Int) + 1 ∧ (x : Int) + 1 ≤ 255 ∨ x = 255 ∧ z = 0) := ⟨_, rfl, by rcases hy with ⟨a, b⟩ | ⟨a, b⟩ <;> omega⟩
                        rw [← hz1] at HO2 HF2
                        clear hO hF hcc hff hg' hy hz1
                        rcases hz2 with ⟨rfl, hy2⟩ | ⟨rfl, rfl⟩
                        all_goals
                          go_wp2
                          go_roundw
                          case rel => exact ⟨j + 1, _, by omega, by go_num, by rw [List.length_set]; exact hp, HO2.out, HF2.out⟩
                          case measure => simp [intOf]; omega
                      · obtain rfl : j = 512 := by omega
                        have HR8 := Lib.hid (HR7.out.far hF (fun q hq => by subst hq; exact ⟨by omega, fun hx => by have := HX.out _ hx; omega⟩))
                        have HW8 := Lib.hid (HW7.out.fr hF (fun q hq => .inr (by omega)))
                        have HFz : Hid (wq.heap.size ≤ wi.heap.size) := Nat.le_trans HF7.out.size hF.size
                        have HFa := Lib.hid hF
                        clear hO hF
                        go_wp2
                        have HOq : Hid (OwnY wi w6.heap.size (.slice (some ⟨gq, 0, none⟩) 512 c7) (sec bs' k)) := HOb.out.same fun q hq => by
                          simp only [Value.ownBlock, Option.some.injEq] at hq
                          subst hq
                          exact HFa.out.block _ hgq2 (by show ¬ gq = gn; omega)
                        go_loopw [18] (fun iv wj => ∃ (j : Nat) (p : List UInt8), j ≤ 512 ∧ iv = .int .i64 j ∧ p.length = 512 ∧ OwnY wj w6.heap.size (.slice (some ⟨gq, 0, none⟩) 512 c7) p ∧ Fr (· = gq) wi wj) (fun iv _ => 512 - (intOf iv).toNat)
                        case atStart => exact ⟨0, _, by omega, rfl, HSl.out, HOq.out, Fr.refl _ _⟩
                        case round =>
                          obtain ⟨j, p2, hj, rfl, hp2, hO, hF⟩ := hrel
                          obtain ⟨wj, hwj⟩ : ∃ wj : World, wj = wr := ⟨_, rfl⟩
                          rw [← hwj] at hO hF ⊢
                          clear hwj
                          rcases Nat.lt_or_ge j 512 with hj6 | hj6
                          · have hji : (j : Int) < 512 := by omega
                            obtain ⟨g', hg', -, -, -, -, hcc, hff⟩ := hO.at_ (by omega)
                            obtain rfl : gq = g' := by simpa using hg'
                            have k1 := hcc j (by omega)
                            have k2 := hff j
                            obtain ⟨y, hy⟩ := byte_next (p2[j]?.getD 0)
                            have HO2 := Lib.hid (hO.set (k := j) (by omega) y)
                            have HF2 := Lib.hid (hF.set ⟨gq, j, none⟩ (.int .u8 (y.toNat : Int)) fun _ => rfl)
                            generalize (p2[j]?.getD 0).toNat = x at *
                            obtain ⟨z, hz1, hz2⟩ : ∃ z : Int, z = (y.toNat : Int) ∧ (z = (x : Int) + 1 ∧ (x : Int) + 1 ≤ 255 ∨ x = 255 ∧ z = 0) := ⟨_, rfl, by rcases hy with ⟨a, b⟩ | ⟨a, b⟩ <;> omega⟩
                            rw [← hz1] at HO2 HF2
                            clear hO hF hcc hff hg' hy hz1
                            rcases hz2 with ⟨rfl, hy2⟩ | ⟨rfl, rfl⟩
                            all_goals
                              go_wp2
                              go_roundw
                              case rel => exact ⟨j + 1, _, by omega, by go_num, by rw [List.length_set]; exact hp2, HO2.out, HF2.out⟩
                              case measure => simp [intOf]; omega
                          · obtain rfl : j = 512 := by omega
                            have HR8' := HR8
                            have HW8' := HW8
                            clear HR8 HW8
                            have HR8 := Lib.hid (HR8'.out.far hF (fun q hq => by subst hq; exact ⟨by omega, fun hx => by have := HX.out _ hx; omega⟩))
                            have HW8 := Lib.hid (HW8'.out.fr hF (fun q hq => .inr (by omega)))
                            have HFy : Hid (wq.heap.size ≤ wj.heap.size) := Nat.le_trans HFz.out hF.size
                            clear hO hF HR8' HW8' HFz HOq
                            have HZ : Hid (B ≤ wj.heap.size) := Nat.le_trans hB (HFy.out)
                            have hc8 := (Bk.cell HW8.out.arr k).trans (slCells_get F' (Nat.le_refl 6) hlt6)
                            have HR9 : Hid (DkRun w1 wj.drew S gd gl gb l (a + 1) 6 bs') := HR8.out.drewN 1
                            have HK : Hid (∀ W, Below wj.drew.heap.size wj.drew W → WasAt W B (DkX S gd gb) gw (sec bs') F' 6 ∧ W.cell? ⟨gw, k, none⟩ = some (.slice (F' k).1 512 (F' k).2)) := fun W hW => by
                              have h1 := HW8.out.fr (w' := W) (Fr.of_below (S := fun q => wj.heap.size ≤ q) (⟨hW.os, hW.tape, hW.output, hW.size, hW.block⟩ : Below wj.heap.size wj W) fun _ _ h => h) (fun q hq => .inr (Nat.le_trans HZ.out hq))
                              exact ⟨h1, (Bk.cell h1.arr k).trans (slCells_get F' (Nat.le_refl 6) hlt6)⟩
                            go_wp2
                            go_region_held3 (fun W => W.cell? ⟨gw, k, none⟩ = some (.slice (F' k).1 512 (F' k).2)) (first | exact hc8 | exact (HK.out _ hB10).2) (first
                              | (go_at_call 22; refine (HP.out _ _ HR9.out).mono ?_; rintro e w10 ⟨A10, c10, rfl, hO10, hB10⟩)
                              | (go_at_call 24; refine (HBB.out _ _ c10 _ hO10 (HK.out _ hB10).1).mono ?_; rintro e w11 ⟨rfl, rfl⟩))
                            all_goals
                              have HR10 := Lib.hid (HR9.out.below0 hB10)
                              have HW10 := Lib.hid (HK.out _ hB10).1
                              have hz10 : B ≤ w10.heap.size := Nat.le_trans HZ.out hB10.size
                              clear hO10 hB10
                              go_wp2
                              go_roundw
                              case rel => exact ⟨k + 1, a + 1, B, by omega, by go_num, by omega, HR10.out, hz10, HW10.out⟩
                              case measure => simp [intOf]; omega
                  · as_aux_lemma =>
                    have HRd := Lib.hid (dRead_fail HR6.out.is_ (by omega) (by omega) (by have := failed_le l a; omega) hlt6 hx)
                    have HXx := Lib.hid hx
                    clear hx
                    go_wp2_with fail
                    refine HRd.out.mono ?_
                    rintro e w7 ⟨rfl, hD7, hF7⟩
                    have HR7 := Lib.hid (HR6.out.stepR (DiskIs.hit hD7 HXx.out) hF7)
                    have HF7 : Hid (Fr (fun q => q = gl ∨ wq.heap.size ≤ q) wq w7) := HF6.out.trans hF7 fun _ _ h => .inl h
                    have HO7 : Hid (OwnY w7 wq.heap.size (.slice (some ⟨gn, 0, none⟩) 512 c6) (sec bs' k)) := HO6.out.same fun q hq => by
                      simp only [Value.ownBlock, Option.some.injEq] at hq
                      subst hq
                      exact hF7.block _ hgn2 (by show ¬ gn = gl; omega)
                    have HW7 := Lib.hid (HW.out.fr HF7.out (fun q hq => by
                      rcases hq with rfl | hq
                      · exact .inl (.inl HR.out.is_.self)
                      · exact .inr (by omega)))
                    have HBy := Lib.hid (HBB.out _ _ c6 _ HO7.out HW7.out)
                    have hc7 := (Bk.cell HW7.out.arr k).trans (slCells_get F' (Nat.le_refl 6) hlt6)
                    clear hD7 hF7 HRd HXx
                    go_wp2_with fail
                    refine HBy.out.mono ?_
                    rintro e w8 ⟨rfl, rfl⟩
                    go_wp2
                    go_loopw [17] (fun iv wi => ∃ (j : Nat) (p : List UInt8), j ≤ 512 ∧ iv = .int .i64 j ∧ p.length = 512 ∧ OwnY wi wq.heap.size (.slice (some ⟨gn, 0, none⟩) 512 c6) p ∧ Fr (· = gn) w7 wi) (fun iv _ => 512 - (intOf iv).toNat)
                    case atStart => exact ⟨0, _, by omega, rfl, HSl.out, HO7.out, Fr.refl _ _⟩
                    case round =>
                      obtain ⟨j, p, hj, rfl, hp, hO, hF⟩ := hrel
                      obtain ⟨wi, hwi⟩ : ∃ wi : World, wi = wr := ⟨_, rfl⟩
                      rw [← hwi] at hO hF ⊢
                      clear hwi
                      rcases Nat.lt_or_ge j 512 with hj5 | hj5
                      · have hji : (j : Int) < 512 := by omega
                        obtain ⟨g', hg', -, -, -, -, hcc, hff⟩ := hO.at_ (by omega)
                        obtain rfl : gn = g' := by simpa using hg'
                        have k1 := hcc j (by omega)
                        have k2 := hff j
                        obtain ⟨y, hy⟩ := byte_next (p[j]?.getD 0)
                        have HO2 := Lib.hid (hO.set (k := j) (by omega) y)
                        have HF2 := Lib.hid (hF.set ⟨gn, j, none⟩ (.int .u8 (y.toNat : Int)) fun _ => rfl)
                        generalize (p[j]?.getD 0).toNat = x at *
                        obtain ⟨z, hz1, hz2⟩ : ∃ z : Int, z = (y.toNat : Int) ∧ (z = (x : Int) + 1 ∧ (x : Int) + 1 ≤ 255 ∨ x = 255 ∧ z = 0) := ⟨_, rfl, by rcases hy with ⟨a, b⟩ | ⟨a, b⟩ <;> omega⟩
                        rw [← hz1] at HO2 HF2
                        clear hO hF hcc hff hg' hy hz1
                        rcases hz2 with ⟨rfl, hy2⟩ | ⟨rfl, rfl⟩
                        all_goals
                          go_wp2
                          go_roundw
                          case rel => exact ⟨j + 1, _, by omega, by go_num, by rw [List.length_set]; exact hp, HO2.out, HF2.out⟩
                          case measure => simp [intOf]; omega
                      · obtain rfl : j = 512 := by omega
                        have HR8 := Lib.hid (HR7.out.far hF (fun q hq => by subst hq; exact ⟨by omega, fun hx => by have := HX.out _ hx; omega⟩))
                        have HW8 := Lib.hid (HW7.out.fr hF (fun q hq => .inr (by omega)))
                        have HFz : Hid (wq.heap.size ≤ wi.heap.size) := Nat.le_trans HF7.out.size hF.size
                        clear hO hF
                        go_wp2
                        go_loopw [18] (fun iv wj => iv = .int .i64 0 ∧ wj = wi) (fun _ _ => 0)
                        case atStart => exact ⟨rfl, rfl⟩
                        case round =>
                          obtain ⟨rfl, hwj⟩ := hrel
                          have hwj := hwj.symm
                          subst hwj
                          have HZ : Hid (B ≤ wi.heap.size) := Nat.le_trans hB (HFz.out)
                          have hc8 := (Bk.cell HW8.out.arr k).trans (slCells_get F' (Nat.le_refl 6) hlt6)
                          have HR9 : Hid (DkRun w1 wi.drew S gd gl gb l (a + 1) 6 bs') := HR8.out.drewN 1
                          have HK : Hid (∀ W, Below wi.drew.heap.size wi.drew W → WasAt W B (DkX S gd gb) gw (sec bs') F' 6 ∧ W.cell? ⟨gw, k, none⟩ = some (.slice (F' k).1 512 (F' k).2)) := fun W hW => by
                            have h1 := HW8.out.fr (w' := W) (Fr.of_below (S := fun q => wi.heap.size ≤ q) (⟨hW.os, hW.tape, hW.output, hW.size, hW.block⟩ : Below wi.heap.size wi W) fun _ _ h => h) (fun q hq => .inr (Nat.le_trans HZ.out hq))
                            exact ⟨h1, (Bk.cell h1.arr k).trans (slCells_get F' (Nat.le_refl 6) hlt6)⟩
                          go_wp2
                          go_region_held3 (fun W => W.cell? ⟨gw, k, none⟩ = some (.slice (F' k).1 512 (F' k).2)) (first | exact hc8 | exact (HK.out _ hB10).2) (first
                            | (go_at_call 22; refine (HP.out _ _ HR9.out).mono ?_; rintro e w10 ⟨A10, c10, rfl, hO10, hB10⟩)
                            | (go_at_call 24; refine (HBB.out _ _ c10 _ hO10 (HK.out _ hB10).1).mono ?_; rintro e w11 ⟨rfl, rfl⟩))
                          all_goals
                            have HR10 := Lib.hid (HR9.out.below0 hB10)
                            have HW10 := Lib.hid (HK.out _ hB10).1
                            have hz10 : B ≤ w10.heap.size := Nat.le_trans HZ.out hB10.size
                            clear hO10 hB10
                            go_wp2
                            go_roundw
                            case rel => exact ⟨k + 1, a + 1, B, by omega, by go_num, by omega, HR10.out, hz10, HW10.out⟩
                            case measure => simp [intOf]; omega
                · obtain rfl : k = 6 := by omega
                  go_wp2_with fail
                  refine (diskLives _).mono ?_
                  rintro e w6 ⟨rfl, hB6⟩
                  go_wp2
                  go_ret
                  exact ⟨rfl, (HB1.out.trans (hR.below.mono HB1.out.size)).trans (hB6.mono (HB1.out.trans (hR.below.mono HB1.out.size)).size)⟩
end Go.Proofs.Ytcbfaahnhdmagaa
