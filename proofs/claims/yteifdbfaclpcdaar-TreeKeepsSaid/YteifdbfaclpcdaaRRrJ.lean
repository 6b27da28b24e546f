/- Radix: Drop. -/
import Derived.Test.YteifdbfaclpcdaaRRrI
namespace Go.Proofs.YteifdbfaclpcdaaR.Rr
open Go.RowKit

section
variable {w w' : World} {base g many : Nat} {ex : Nat → Nat → Bool} {nd : Nat → Nat → Nat} {f : Nat → Option Value} {v : Value}
theorem DropMid.below0 {w0 : World} {key l : Nat} (h : DropMid w0 w base g ex nd f many key l) (hb : Below w.heap.size w w') : DropMid w0 w' base g ex nd f many key l :=
  ⟨h.tr.below0 hb, h.ho, h.fr.trans (Fr.of_below0 (S := fun _ => False) hb) fun _ _ e => e.elim⟩
theorem DropMid.size {w0 : World} {key l : Nat} (h : DropMid w0 w base g ex nd f many key l) : w0.heap.size ≤ w.heap.size := h.fr.size
def psA (ps : Nat → Option Addr) : Array Value := #[.pointer (ps 0), .pointer (ps 1), .pointer (ps 2), .pointer (ps 3)]
theorem psA_get (ps : Nat → Option Addr) {i : Nat} (h : i ≤ 3) : (psA ps)[i]? = some (.pointer (ps i)) := by
  rcases (by omega : i = 0 ∨ i = 1 ∨ i = 2 ∨ i = 3) with rfl | rfl | rfl | rfl <;> rfl
/-- What Drop leaves. -/
def DropPost (w : World) (base g : Nat) (ex : Nat → Nat → Bool) (nd : Nat → Nat → Nat) (f : Nat → Option Value) (many : Nat) (key : Int) (w' : World) : Prop :=
  ∃ ex' nd', RxAt w' base g ex' nd' (if (getF f key).isSome then updF f key.toNat none else f) (if (getF f key).isSome then many - 1 else many) ∧ Fr (TrS g ex nd) w w' ∧
    ∀ k u, ex' 4 k = true → (if (getF f key).isSome then updF f key.toNat none else f) k = some u → nd' 4 k = nd 4 k ∧ ex 4 k = true ∧ f k = some u

theorem RxAt.frR {z : Nat} {cs : Array Value} (h : RxAt w base g ex nd f many) (hf : Fr (fun b => b = z) w w') (hz : Bk w z 83 cs) (hv : ∀ k u, ex 4 k = true → f k = some u → nd 4 k < z) : RxAt w' base g ex nd f many :=
  ⟨⟨h.tr.top.fr hf (fun e => hz.ne h.tr.top (by decide) e.symm), fun l p hl hp => (h.tr.node l p hl hp).fr hf (fun e => by
    obtain ⟨cs', hb⟩ := (h.tr.node l p hl hp).ty
    exact hz.ne hb (by decide) e.symm), fun k u hk hu => (h.tr.val k u hk hu).fr hf (fun e => by have := hv k u hk hu; omega), h.tr.apart, h.tr.lo, h.tr.loN⟩, h.full, h.lt, h.ok⟩
set_option maxRecDepth 100000 in
set_option maxHeartbeats 4000000 in
theorem rDrop (h : RxAt w base g ex nd f many) (key : Int) (hm1 : many ≤ 1000000) (hm2 : ∀ k, f k ≠ none → many ≠ 0) :
    Calls Try.prog 74 #[.pointer (some ⟨g, 0, none⟩), .int .i64 key] w fun e w' => e = .returned (.tuple #[(getF f key).getD vZero, .bool (getF f key).isSome]) ∧ DropPost w base g ex nd f many key w' := by
  have HP0 : Hid (Calls Try.prog 82 #[.pointer (some ⟨g, 0, none⟩), .int .i64 key] (w.alloc (.cells vZero.cells 83)) (PathPost (w.alloc (.cells vZero.cells 83)) ex nd key)) := rPath (h.tr.alloc _) key
  have HZ0 : Hid (Bk (w.alloc (.cells vZero.cells 83)) w.heap.size 83 #[.int .i64 0, .int .i64 0, .int .i64 0, .int .u64 0]) := Bk.new _ _ _
  have HB0 : Hid (Below w.heap.size w (w.alloc (.cells vZero.cells 83))) := (Below.refl _ _).alloc (Nat.le_refl _) _
  have HR := Lib.hid h
  have HV : Hid (∀ k u, ex 4 k = true → f k = some u → nd 4 k < w.heap.size) := fun k u hk hu => (h.tr.val k u hk hu).lt
  clear h
  go_enter Try.func74, Try.ntmps74
  go_wp2_with fail
  refine HP0.out.mono ?_
  rintro e w1 ⟨ps, b, rfl, hI, hB1⟩
  have hZ1 := HZ0.out.below' hB1
  have HB1 := Lib.hid (HB0.out.trans (hB1.mono HB0.out.size))
  have HZ1 := Lib.hid hZ1
  have hlz := hZ1.lt
  obtain ⟨z, hz⟩ : ∃ z, z = w.heap.size := ⟨_, rfl⟩
  have hzw : w.heap.size ≤ z := Nat.le_of_eq hz.symm
  rw [← hz] at HZ1 HV hZ1 hlz ⊢
  have z0 : w1.cell? ⟨z, 0, none⟩ = some (.int .i64 0) := hZ1.cell 0
  have y0 := hZ1.free 0
  have z1 : w1.cell? ⟨z, 1, none⟩ = some (.int .i64 0) := hZ1.cell 1
  have y1 := hZ1.free 1
  have z2 : w1.cell? ⟨z, 2, none⟩ = some (.int .i64 0) := hZ1.cell 2
  have y2 := hZ1.free 2
  have z3 : w1.cell? ⟨z, 3, none⟩ = some (.int .u64 0) := hZ1.cell 3
  have y3 := hZ1.free 3
  have hI' := hI.hit HR.out
  clear hz hB1 hZ1 HZ0 HB0 HP0 hI
  rcases hI' with ⟨rfl, hn⟩ | ⟨rfl, k, v, rfl, hk, hv, hok, hx, hps⟩
  · have HN := Lib.hid hn
    clear hn
    go_wp2_with fail
    have HZ3 : Bk (((((w1.setCell ⟨z, 0, none⟩ (.int .i64 0)).setCell ⟨z, 1, none⟩ (.int .i64 0)).setCell ⟨z, 2, none⟩ (.int .i64 0)).setCell ⟨z, 3, none⟩ (.int .u64 0)).alloc (.cells #[.pointer (ps 0), .pointer (ps 1), .pointer (ps 2), .pointer (ps 3)] 140)) z 83 #[.int .i64 0, .int .i64 0, .int .i64 0, .int .u64 0] := (rec_set4 HZ1.out (.int .i64 0) (.int .i64 0) (.int .i64 0) (.int .u64 0) : Bk _ _ _ _).alloc _
    refine bodyPost_ret (results_rec (fn := Try.f74) rfl HZ3 rfl rfl) rfl ⟨?_, ex, nd, ?_, ?_, ?_⟩
    · rw [HN.out]
      rfl
    · rw [HN.out]
      exact HR.out.below0 (HB1.out.trans (((rec_fr4 w1 z _ _ _ _).alloc _).below HB1.out.size fun k hk e => by omega))
    · exact Fr.of_below0 (HB1.out.trans (((rec_fr4 w1 z _ _ _ _).alloc _).below HB1.out.size fun k hk e => by omega))
    · intro k' u hk' hu
      rw [HN.out] at hu
      exact ⟨rfl, hk', hu⟩
  · obtain ⟨m, rfl⟩ : ∃ m, many = m + 1 := ⟨many - 1, by have := hm2 k (by rw [hv]; simp); omega⟩
    have HT := Lib.hid (HR.out.below0 HB1.out)
    have hp3 := hx 3 (by omega)
    have hp4 := hx 4 (by omega)
    have e4 : k / rxD 4 = k := by rw [rxD_4, Nat.div_one]
    have e3 : k / rxD 3 = k / 16 := by rw [rxD_3]
    rw [e4] at hp4
    rw [e3] at hp3
    have hd := HT.out.tr.hsC hp3 (by omega : k % 16 < 16)
    rw [show 16 * (k / 16) + k % 16 = k by omega, hp4] at hd
    unfold ptrIf at hd
    rw [if_pos rfl] at hd
    have hvb := HT.out.tr.val k v hp4 hv
    have hps3 := hps 3 (by omega)
    rw [e3] at hps3
    have HA := Lib.hid (fun W => rxAt' W (key := k) (by omega : 3 ≤ 3))
    rw [e4] at HA
    have h16 : k % 16 < 16 := by omega
    have HN : Hid (getF f (k : Int) = some v) := by
      show _ = _
      rw [getF_nat, hv]
    have hn3 := HT.out.tr.node 3 _ (by omega) hp3
    have hl3 := hn3.lt
    have hdf := hn3.free (16 + k % 16)
    have hlv := hvb.lt
    have hlg := HT.out.tr.top.lt
    have hgm := HT.out.tr.manyC
    have hgf := HT.out.tr.topFree 1
    have hne : nd 3 (k / 16) ≠ g := HT.out.tr.nd_ne (by omega) hp3
    obtain ⟨csn, hbn⟩ := hn3.ty
    have hnz : z ≠ nd 3 (k / 16) := HZ1.out.ne hbn (by decide)
    have hgz : z ≠ g := HZ1.out.ne HT.out.tr.top (by decide)
    have hvz : nd 4 k ≠ z := by have := HV.out k v hp4 hv; omega
    have HX := Lib.hid hx
    have HPS := Lib.hid hps
    obtain ⟨x0, x1, x2, x3, rfl⟩ := hok
    have HBz : Hid (Below w.heap.size w ((((w1.setCell ⟨z, 0, none⟩ (.int .i64 x0)).setCell ⟨z, 1, none⟩ (.int .i64 x1)).setCell ⟨z, 2, none⟩ (.int .i64 x2)).setCell ⟨z, 3, none⟩ (.int .u64 x3))) := HB1.out.trans ((rec_fr4 w1 z (.int .i64 x0) (.int .i64 x1) (.int .i64 x2) (.int .u64 x3)).below HB1.out.size fun k hk e => by omega)
    have HD : Hid (∀ o, DropMid w (((((((w1.setCell ⟨z, 0, none⟩ (.int .i64 x0)).setCell ⟨z, 1, none⟩ (.int .i64 x1)).setCell ⟨z, 2, none⟩ (.int .i64 x2)).setCell ⟨z, 3, none⟩ (.int .u64 x3)).setCell ⟨nd 3 (k / 16), 16 + k % 16, none⟩ (.pointer none)).setCell ⟨g, 1, none⟩ (.int .i64 m)).alloc o) base g ex nd f m k 3) := fun o =>
      (DropMid.start (HR.out.below0 HBz.out) hv (Fr.of_below0 HBz.out)).below0 ((Below.refl _ _).alloc (Nat.le_refl _) _)
    have HZ3 : Hid (∀ o, Bk (((((((w1.setCell ⟨z, 0, none⟩ (.int .i64 x0)).setCell ⟨z, 1, none⟩ (.int .i64 x1)).setCell ⟨z, 2, none⟩ (.int .i64 x2)).setCell ⟨z, 3, none⟩ (.int .u64 x3)).setCell ⟨nd 3 (k / 16), 16 + k % 16, none⟩ (.pointer none)).setCell ⟨g, 1, none⟩ (.int .i64 m)).alloc o) z 83 #[.int .i64 x0, .int .i64 x1, .int .i64 x2, .int .u64 x3]) := fun o =>
      ((((rec_set4 HZ1.out (.int .i64 x0) (.int .i64 x1) (.int .i64 x2) (.int .u64 x3) : Bk _ _ _ _).far (p := ⟨nd 3 (k / 16), 16 + k % 16, none⟩) hnz (.pointer none)).far (p := ⟨g, 1, none⟩) hgz (.int .i64 m)).alloc _)
    generalize nd 3 (k / 16) = b3 at *
    generalize hbv : nd 4 k = bv at *
    generalize k % 16 = dg at *
    have b5 : (dg : Int) < 16 := by omega
    have b6 : (0 : Int) ≤ dg := by omega
    have hc0 : w1.cell? ⟨bv, 0, none⟩ = some (.int .i64 x0) := hvb.cell 0
    have hc1 : w1.cell? ⟨bv, 1, none⟩ = some (.int .i64 x1) := hvb.cell 1
    have hc2 : w1.cell? ⟨bv, 2, none⟩ = some (.int .i64 x2) := hvb.cell 2
    have hc3 : w1.cell? ⟨bv, 3, none⟩ = some (.int .u64 x3) := hvb.cell 3
    have hzb : b3 ≠ z := fun e => hnz e.symm
    have hzg : g ≠ z := fun e => hgz e.symm
    clear hx hps hvb hv hp3 hp4 hn3 e3 e4 hbn hbv
    go_wp2_with (go_at_call 60; refine (HA.out _).mono ?_; rintro x w2 ⟨rfl, rfl⟩)
    have HS := Lib.hid (HD.out (.cells #[.pointer (ps 0), .pointer (ps 1), .pointer (ps 2), .pointer (some ⟨b3, 0, none⟩)] 140))
    have HZ4 := Lib.hid (HZ3.out (.cells #[.pointer (ps 0), .pointer (ps 1), .pointer (ps 2), .pointer (some ⟨b3, 0, none⟩)] 140))
    have hBk : Bk (((((((w1.setCell ⟨z, 0, none⟩ (.int .i64 x0)).setCell ⟨z, 1, none⟩ (.int .i64 x1)).setCell ⟨z, 2, none⟩ (.int .i64 x2)).setCell ⟨z, 3, none⟩ (.int .u64 x3)).setCell ⟨b3, 16 + dg, none⟩ (.pointer none)).setCell ⟨g, 1, none⟩ (.int .i64 m)).alloc (.cells #[.pointer (ps 0), .pointer (ps 1), .pointer (ps 2), .pointer (some ⟨b3, 0, none⟩)] 140)) w1.heap.size 140 (psA ps) := by
      unfold psA
      rw [hps3]
      exact Bk.new_at _ _ _ (by simp [World.setCell])
    replace hBk := Lib.hid hBk
    generalize w1.heap.size = ar at *
    clear HD HZ3 HT hlg hgm hgf hl3 hne hlv HA h16 hdf hd b5 b6 hc0 hc1 hc2 hc3 HB1 z0 z1 z2 z3 y0 y1 y2 y3 HZ1 hvz hnz hzb HBz
    go_loopw [8] (fun i wr => Bk wr z 83 #[.int .i64 x0, .int .i64 x1, .int .i64 x2, .int .u64 x3] ∧ Bk wr ar 140 (psA ps) ∧ ((∃ l : Nat, l ≤ 3 ∧ i = .int .i64 (l : Int) ∧ DropMid w wr base g ex nd f m k l) ∨ (i = .int .i64 (-1) ∧ ∃ r, wr.cell? ⟨g, 0, none⟩ = some r ∧ wr.frozen? ⟨g, 0, none⟩ = false ∧ RxAt (wr.setCell ⟨g, 0, none⟩ (.pointer none)) base g (fun _ _ => false) nd (updF f k none) m ∧ Fr (TrS g ex nd) w (wr.setCell ⟨g, 0, none⟩ (.pointer none))))) (fun i _ => ((intOf i) + 1).toNat)
    case atStart => exact ⟨HZ4.out, hBk.out, .inl ⟨3, by omega, rfl, HS.out⟩⟩
    case round =>
      clear HS hBk HZ4
      obtain ⟨hZ, hA, ⟨l, hl, rfl, hS⟩ | ⟨rfl, r, hr, hrf, hF⟩⟩ := hrel
      · have hp0 := HX.out l (by omega)
        have hps0 := HPS.out l hl
        have hca : wr.cell? ⟨ar, l, none⟩ = some (.pointer (some ⟨nd l (k / rxD l), 0, none⟩)) := by
          rw [hA.cell, psA_get ps hl, hps0]
        have hpr : rmP ex k l l (k / rxD l) = true := by rw [rmP_old (Nat.le_refl _)]; exact hp0
        have hmc := hS.tr.mnC hl hpr
        simp only [and_self, if_true] at hmc
        have hmf := hS.tr.nodeFree hl hpr 32
        have hnc := hS.tr.nodesC
        have hnf := hS.tr.topFree 2
        have hne : nd l (k / rxD l) ≠ g := hS.tr.nd_ne hl hpr
        obtain ⟨csl, hbl⟩ := (hS.tr.node l _ hl hpr).ty
        have hnz : nd l (k / rxD l) ≠ z := fun e => hZ.ne hbl (by decide) e.symm
        have hkl := kids_le (rmP ex k l) l (k / rxD l)
        have hcl := cntN_le (rmP ex k l)
        have hli : (l : Int) < 4 := by omega
        have hl0 : (0 : Int) ≤ l := by omega
        have HS := Lib.hid hS
        have HA' := Lib.hid hA
        have HZ' := Lib.hid hZ
        have z0 : wr.cell? ⟨z, 0, none⟩ = some (.int .i64 x0) := hZ.cell 0
        have y0 := hZ.free 0
        have z1 : wr.cell? ⟨z, 1, none⟩ = some (.int .i64 x1) := hZ.cell 1
        have y1 := hZ.free 1
        have z2 : wr.cell? ⟨z, 2, none⟩ = some (.int .i64 x2) := hZ.cell 2
        have y2 := hZ.free 2
        have z3 : wr.cell? ⟨z, 3, none⟩ = some (.int .u64 x3) := hZ.cell 3
        have y3 := hZ.free 3
        cases hkk : kids (rmP ex k l) l (k / rxD l) with
        | succ kk =>
          have HF : Hid (∀ W, W = wr.setCell ⟨nd l (k / rxD l), 32, none⟩ (.int .i64 ((kk : Int) + 1)) → Bk W z 83 #[.int .i64 x0, .int .i64 x1, .int .i64 x2, .int .u64 x3] ∧ DropPost w base g ex nd f (m + 1) (k : Int) ((((W.setCell ⟨z, 0, none⟩ (.int .i64 x0)).setCell ⟨z, 1, none⟩ (.int .i64 x1)).setCell ⟨z, 2, none⟩ (.int .i64 x2)).setCell ⟨z, 3, none⟩ (.int .u64 x3))) := by
            rintro W rfl
            have hZw := HZ'.out.far (p := ⟨nd l (k / rxD l), 32, none⟩) (fun e => hnz e.symm) (.int .i64 ((kk : Int) + 1))
            refine ⟨hZw, rmP ex k l, nd, ?_, ?_, fun k' u hk' hu => ?_⟩
            · rw [HN.out, Int.toNat_natCast]
              have := HS.out.stop HR.out.full HR.out.lt HR.out.ok hl hp0 (by omega)
              rw [hkk] at this
              refine this.frR (rec_fr4 _ z _ _ _ _) hZw fun k' u hk' hu => ?_
              unfold updF at hu
              split at hu
              · cases hu
              · exact HV.out k' u (rmP_sub hk') hu
            · have := (HS.out.count hl hp0).2
              rw [hkk] at this
              exact this.trans (rec_fr4 _ z _ _ _ _) fun q hq e => by omega
            · rw [HN.out, Int.toNat_natCast] at hu
              simp only [Option.isSome_some, if_true] at hu
              unfold updF at hu
              split at hu
              · cases hu
              · exact ⟨rfl, rmP_sub hk', hu⟩
          rw [hkk] at hmc hkl
          have hki : (0 : Int) < (kk : Int) + 1 := by omega
          generalize nd l (k / rxD l) = b at *
          clear hS hA hpr hkk hp0 hps0 hZ hbl
          go_wp2_with fail
          obtain ⟨hz9, hp9⟩ := HF.out _ rfl
          refine bodyPost_ret (results_rec (fn := Try.f74) rfl (rec_set4 hz9 (.int .i64 x0) (.int .i64 x1) (.int .i64 x2) (.int .u64 x3)) rfl rfl) rfl ⟨?_, hp9⟩
          rw [HN.out]
          rfl
        | zero =>
          obtain ⟨nn, hnn⟩ : ∃ nn, cntN (rmP ex k l) = nn + 1 := by
            have := cntN_down (ex := rmP ex k l) (l := l) hl (rxD_lt (by omega) hk) hpr
            exact ⟨_, this⟩
          rw [hnn] at hnc hcl
          rw [hkk] at hmc
          rcases l with _ | l
          · have HF : Hid (∀ W, W = ((wr.setCell ⟨nd 0 (k / rxD 0), 32, none⟩ (.int .i64 0)).setCell ⟨g, 2, none⟩ (.int .i64 nn)) → Bk W z 83 #[.int .i64 x0, .int .i64 x1, .int .i64 x2, .int .u64 x3] ∧ Bk W ar 140 (psA ps) ∧ ∃ r, W.cell? ⟨g, 0, none⟩ = some r ∧ W.frozen? ⟨g, 0, none⟩ = false ∧ RxAt (W.setCell ⟨g, 0, none⟩ (.pointer none)) base g (fun _ _ => false) nd (updF f k none) m ∧ Fr (TrS g ex nd) w (W.setCell ⟨g, 0, none⟩ (.pointer none))) := by
              rintro _ rfl
              have hT := ((HS.out.tr.top.far (p := ⟨nd 0 (k / rxD 0), 32, none⟩) (fun e => hne e.symm) (.int .i64 0)).set 2 (.int .i64 nn))
              obtain ⟨cs, hb0⟩ := (HS.out.tr.node 0 _ hl hpr).ty
              have hAF := (HA'.out.far (p := ⟨nd 0 (k / rxD 0), 32, none⟩) (HA'.out.ne hb0 (by decide)) (.int .i64 0)).far (p := ⟨g, 2, none⟩) (HA'.out.ne HS.out.tr.top (by decide)) (.int .i64 nn)
              have hZF := (HZ'.out.far (p := ⟨nd 0 (k / rxD 0), 32, none⟩) (HZ'.out.ne hb0 (by decide)) (.int .i64 0)).far (p := ⟨g, 2, none⟩) (HZ'.out.ne HS.out.tr.top (by decide)) (.int .i64 nn)
              exact ⟨hZF, hAF, _, hT.cell 0, hT.free 0, HS.out.last HR.out.full HR.out.lt hk hp0 hkk hnn rfl⟩
            generalize nd 0 (k / rxD 0) = b at *
            clear hS hA hpr hkk hp0 hps0 hnn hZ hbl z0 z1 z2 z3 y0 y1 y2 y3
            go_wp2_with fail
            go_roundw
            case rel =>
              obtain ⟨h0, h1, h2⟩ := HF.out _ rfl
              exact ⟨h0, h1, .inr ⟨rfl, h2⟩⟩
            case measure => simp [intOf]
          · have hp1 := HX.out l (by omega)
            have hpr1 : rmP ex k (l + 1) l (k / rxD l) = true := by rw [rmP_old (by omega)]; exact hp1
            have hca1 : wr.cell? ⟨ar, l, none⟩ = some (.pointer (some ⟨nd l (k / rxD l), 0, none⟩)) := by
              rw [hA.cell, psA_get ps (by omega), HPS.out l (by omega)]
            have h16 : k / rxD (l + 1) % 16 < 16 := by omega
            have hdc := hS.tr.dnC (by omega : l ≤ 2) hpr1 h16
            have hdf := hS.tr.nodeFree (by omega) hpr1 (k / rxD (l + 1) % 16)
            have HA2 := Lib.hid (fun W => rxAt W (key := k) (by omega : l ≤ 3))
            have hbc : nd l (k / rxD l) ≠ nd (l + 1) (k / rxD (l + 1)) := fun e => by
              have := (hS.tr.apart _ _ _ _ (by omega) hl hpr1 hpr e).1
              omega
            have HF : Hid (∀ W1, W1 = ((wr.setCell ⟨nd (l + 1) (k / rxD (l + 1)), 32, none⟩ (.int .i64 0)).setCell ⟨g, 2, none⟩ (.int .i64 nn)) → W1.cell? ⟨ar, l, none⟩ = some (.pointer (some ⟨nd l (k / rxD l), 0, none⟩)) ∧ W1.cell? ⟨nd l (k / rxD l), k / rxD (l + 1) % 16, none⟩ = some (ptrIf (rmP ex k (l + 1) (l + 1) (16 * (k / rxD l) + k / rxD (l + 1) % 16)) (nd (l + 1) (16 * (k / rxD l) + k / rxD (l + 1) % 16))) ∧
                W1.frozen? ⟨nd l (k / rxD l), k / rxD (l + 1) % 16, none⟩ = false ∧ Bk ((W1.drew).setCell ⟨nd l (k / rxD l), k / rxD (l + 1) % 16, none⟩ (.pointer none)) z 83 #[.int .i64 x0, .int .i64 x1, .int .i64 x2, .int .u64 x3] ∧ Bk ((W1.drew).setCell ⟨nd l (k / rxD l), k / rxD (l + 1) % 16, none⟩ (.pointer none)) ar 140 (psA ps) ∧ DropMid w ((W1.drew).setCell ⟨nd l (k / rxD l), k / rxD (l + 1) % 16, none⟩ (.pointer none)) base g ex nd f m k l) := by
              rintro _ rfl
              obtain ⟨cs, hb0⟩ := (HS.out.tr.node _ _ hl hpr).ty
              obtain ⟨cs1, hb1⟩ := (HS.out.tr.node _ _ (by omega) hpr1).ty
              have hA1 := ((HA'.out.far (p := ⟨nd (l + 1) (k / rxD (l + 1)), 32, none⟩) (HA'.out.ne hb0 (by decide)) (.int .i64 0)).far (p := ⟨g, 2, none⟩) (HA'.out.ne HS.out.tr.top (by decide)) (.int .i64 nn))
              have hAF := (hA1.drew).far (p := ⟨nd l (k / rxD l), k / rxD (l + 1) % 16, none⟩) (HA'.out.ne hb1 (by decide)) (.pointer none)
              have hZF := ((((HZ'.out.far (p := ⟨nd (l + 1) (k / rxD (l + 1)), 32, none⟩) (HZ'.out.ne hb0 (by decide)) (.int .i64 0)).far (p := ⟨g, 2, none⟩) (HZ'.out.ne HS.out.tr.top (by decide)) (.int .i64 nn))).drew).far (p := ⟨nd l (k / rxD l), k / rxD (l + 1) % 16, none⟩) (HZ'.out.ne hb1 (by decide)) (.pointer none)
              have hF1 : Fr (fun x => x = nd (l + 1) (k / rxD (l + 1)) ∨ x = g) wr ((wr.setCell ⟨nd (l + 1) (k / rxD (l + 1)), 32, none⟩ (.int .i64 0)).setCell ⟨g, 2, none⟩ (.int .i64 nn)) := ((Fr.refl _ wr).set _ _ fun _ => .inl rfl).set _ _ fun _ => .inr rfl
              have hn1 := (HS.out.tr.node _ _ (by omega) hpr1).fr hF1 (fun hh => hh.elim hbc (HS.out.tr.nd_ne (by omega) hpr1))
              refine ⟨?_, ?_, hn1.free _, hZF, hAF, HS.out.down HR.out.full (by omega) hp0 hkk hnn hk rfl⟩
              · rw [hA1.cell, psA_get ps (by omega), HPS.out l (by omega)]
              · rw [hn1.dn h16]
                unfold dnOf
                rw [if_neg (by omega)]
            generalize ptrIf (rmP ex k (l + 1) (l + 1) (16 * (k / rxD l) + k / rxD (l + 1) % 16)) (nd (l + 1) (16 * (k / rxD l) + k / rxD (l + 1) % 16)) = old at *
            generalize nd (l + 1) (k / rxD (l + 1)) = b at *
            generalize nd l (k / rxD l) = c at *
            generalize k / rxD (l + 1) % 16 = dg2 at *
            have b5 : (dg2 : Int) < 16 := by omega
            have b6 : (0 : Int) ≤ dg2 := by omega
            have l1 : (l : Int) < 4 := by omega
            have l2 : (0 : Int) ≤ l := by omega
            have hw1 : IntKind.i64.wrap (l : Int) = (l : Int) := IntWalk.i64_in _ (by omega)
            have hcb : b ≠ c := fun e => hbc e.symm
            clear hS hA hpr hkk hp0 hps0 hnn hpr1 hp1 hZ hbl z0 z1 z2 z3 y0 y1 y2 y3
            go_upto_region 16 with fail
            generalize hW1 : (wr.setCell ⟨b, 32, none⟩ (.int .i64 0)).setCell ⟨g, 2, none⟩ (.int .i64 nn) = W1
            obtain ⟨y1, y2, y3, y4, y5, y6⟩ := HF.out _ hW1.symm
            have H4 := Lib.hid y4
            have H5 := Lib.hid y5
            have H6 := Lib.hid y6
            clear y4 y5 y6 hW1 HF hdc hca1 hdf hca hmc hmf hnc hnf HS HA' HZ'
            go_still_tail 11, (by kernel_rfl)
            still_call (HA2.out _)
            repeat still_step
            refine wpStill_nil ?_
            change wpList _ _ _ _ _ W1.drew
            go_wp2_with fail
            go_roundw
            case rel => exact ⟨H4.out, H5.out, .inl ⟨l, by omega, by go_num, H6.out⟩⟩
            case measure => simp [intOf]; omega
      · have HF := Lib.hid hF
        have HZ9 := Lib.hid (hZ.far (p := ⟨g, 0, none⟩) hgz (.pointer none))
        have z0 : wr.cell? ⟨z, 0, none⟩ = some (.int .i64 x0) := hZ.cell 0
        have y0 := hZ.free 0
        have z1 : wr.cell? ⟨z, 1, none⟩ = some (.int .i64 x1) := hZ.cell 1
        have y1 := hZ.free 1
        have z2 : wr.cell? ⟨z, 2, none⟩ = some (.int .i64 x2) := hZ.cell 2
        have y2 := hZ.free 2
        have z3 : wr.cell? ⟨z, 3, none⟩ = some (.int .u64 x3) := hZ.cell 3
        have y3 := hZ.free 3
        clear hF hA hZ
        go_wp2
        refine bodyPost_ret (results_rec (fn := Try.f74) rfl (rec_set4 HZ9.out (.int .i64 x0) (.int .i64 x1) (.int .i64 x2) (.int .u64 x3)) rfl rfl) rfl ⟨?_, fun _ _ => false, nd, ?_, ?_, fun k' u hk' hu => by cases hk'⟩
        · rw [HN.out]
          rfl
        · rw [HN.out, Int.toNat_natCast]
          exact HF.out.1.frR (rec_fr4 _ z _ _ _ _) HZ9.out (fun k' u hk' hu => by cases hk')
        · exact HF.out.2.trans (rec_fr4 _ z _ _ _ _) fun q hq e => by omega
end
end Go.Proofs.YteifdbfaclpcdaaR.Rr
