/- Radix: Get; a tree with what it has. -/
import Derived.Test.YteifdbfaclpcdaaRRrD
namespace Go.Proofs.YteifdbfaclpcdaaR.Rr
open Go.RowKit

/-- A thing. -/
def VOk (v : Value) : Prop := ∃ a b c d : Int, v = .agg #[.int .i64 a, .int .i64 b, .int .i64 c, .int .u64 d]
def vZero : Value := .agg #[.int .i64 0, .int .i64 0, .int .i64 0, .int .u64 0]
theorem vZero_ok : VOk vZero := ⟨0, 0, 0, 0, rfl⟩
theorem recInfo : (Try.prog.info? 83).map (·.size) = some 4 := by kernel_rfl

/-- A tree, and what it has. -/
structure RxAt (w : World) (base g : Nat) (ex : Nat → Nat → Bool) (nd : Nat → Nat → Nat) (f : Nat → Option Value) (many : Nat) : Prop where
  tr : TrM w base g ex nd (kids ex) f many (cntN ex)
  full : Full ex f
  lt : ∀ k, f k ≠ none → k < 65536
  ok : ∀ k v, f k = some v → VOk v
/-- What a key has. -/
def getF (f : Nat → Option Value) (key : Int) : Option Value := if 0 ≤ key then f key.toNat else none
theorem getF_nat (f : Nat → Option Value) (k : Nat) : getF f (k : Int) = f k := by
  unfold getF
  rw [if_pos (by omega), Int.toNat_natCast]

section
variable {w w' : World} {base g many : Nat} {ex : Nat → Nat → Bool} {nd : Nat → Nat → Nat} {f : Nat → Option Value} {S : Nat → Prop}
theorem RxAt.fr (h : RxAt w base g ex nd f many) (hf : Fr S w w') (hS : ∀ b, b < w.heap.size → S b → ∀ t cs, Bk w b t cs → t ≠ 133 ∧ t ≠ 139 ∧ t ≠ 83) : RxAt w' base g ex nd f many :=
  ⟨h.tr.fr hf hS, h.full, h.lt, h.ok⟩
theorem RxAt.below0 (h : RxAt w base g ex nd f many) (hb : Below w.heap.size w w') : RxAt w' base g ex nd f many := ⟨h.tr.below0 hb, h.full, h.lt, h.ok⟩
theorem PathIs.hit {key : Int} {ps : Nat → Option Addr} {b : Bool} (h : PathIs ex nd key ps b) (hR : RxAt w base g ex nd f many) :
    (b = false ∧ getF f key = none) ∨ (b = true ∧ ∃ (k : Nat) (v : Value), key = k ∧ k < 65536 ∧ f k = some v ∧ VOk v ∧ (∀ l, l ≤ 4 → ex l (k / rxD l) = true) ∧ ∀ i, i ≤ 3 → ps i = some ⟨nd i (k / rxD i), 0, none⟩) := by
  have hall : ∀ k, f k ≠ none → ∀ l, l ≤ 4 → ex l (k / rxD l) = true := fun k hk l hl => (hR.full l _ hl).2 ⟨k, hk, rfl⟩
  cases hb : b
  · refine .inl ⟨rfl, ?_⟩
    unfold getF
    split
    · cases hf : f key.toNat with
      | none => rfl
      | some v =>
        have hk : f key.toNat ≠ none := by rw [hf]; simp
        have := h.ok.2 ⟨key.toNat, by omega, hR.lt _ hk, hall _ hk⟩
        rw [hb] at this
        cases this
    · rfl
  · subst hb
    obtain ⟨k, rfl, hk, hx⟩ := h.ok.1 rfl
    have h4 := hx 4 (by omega)
    rw [rxD_4, Nat.div_one, hR.full.key] at h4
    obtain ⟨v, hv⟩ := Option.isSome_iff_exists.1 h4
    exact .inr ⟨rfl, k, v, rfl, hk, hv, hR.ok k v hv, hx, fun i hi => by have := h.way rfl i hi; rwa [Int.toNat_natCast] at this⟩

theorem results_rec {W : World} {b : Nat} {a0 a1 a2 a3 : Value} {ok : Bool} {tmps : Array Value} {fn : Func} (hfn : fn.results = #[.cell 4 83, .tmp 5]) (hb : Bk W b 83 #[a0, a1, a2, a3]) (h4 : tmps.getD 4 undef = .pointer (some ⟨b, 0, none⟩)) (h5 : tmps.getD 5 undef = .bool ok) :
    (results fn tmps).run Try.prog W = .ok (.tuple #[.agg #[a0, a1, a2, a3], .bool ok]) W :=
  results_ct hfn _ W b 83 _ _ (.bool ok) h4 h5 hb Try.underlying83 rfl recInfo
theorem rec_set4 {W : World} {b : Nat} {a0 a1 a2 a3 : Value} (h : Bk W b 83 #[a0, a1, a2, a3]) (x0 x1 x2 x3 : Value) : Bk ((((W.setCell ⟨b, 0, none⟩ x0).setCell ⟨b, 1, none⟩ x1).setCell ⟨b, 2, none⟩ x2).setCell ⟨b, 3, none⟩ x3) b 83 #[x0, x1, x2, x3] := by
  have := (((h.set 0 x0).set 1 x1).set 2 x2).set 3 x3
  simpa using this
theorem rec_fr4 (W : World) (b : Nat) (x0 x1 x2 x3 : Value) : Fr (fun k => k = b) W ((((W.setCell ⟨b, 0, none⟩ x0).setCell ⟨b, 1, none⟩ x1).setCell ⟨b, 2, none⟩ x2).setCell ⟨b, 3, none⟩ x3) :=
  ((((Fr.refl (fun k => k = b) W).set ⟨b, 0, none⟩ x0 fun _ => rfl).set ⟨b, 1, none⟩ x1 fun _ => rfl).set ⟨b, 2, none⟩ x2 fun _ => rfl).set ⟨b, 3, none⟩ x3 fun _ => rfl
theorem recZero : ∀ w, (zeroValue 83).run Try.prog w = .ok (.agg #[.int .i64 0, .int .i64 0, .int .i64 0, .int .u64 0]) w := fun w => by kernel_rfl
set_option maxRecDepth 100000 in
set_option maxHeartbeats 1000000 in
theorem rGet (h : RxAt w base g ex nd f many) (key : Int) :
    Calls Try.prog 76 #[.pointer (some ⟨g, 0, none⟩), .int .i64 key] w fun e w' => e = .returned (.tuple #[(getF f key).getD vZero, .bool (getF f key).isSome]) ∧ Below w.heap.size w w' := by
  have HP0 : Hid (Calls Try.prog 82 #[.pointer (some ⟨g, 0, none⟩), .int .i64 key] (w.alloc (.cells vZero.cells 83)) (PathPost (w.alloc (.cells vZero.cells 83)) ex nd key)) := rPath (h.tr.alloc _) key
  have HR : Hid (RxAt (w.alloc (.cells vZero.cells 83)) base g ex nd f many) := h.below0 ((Fr.refl (fun _ => False) w).alloc _).below0
  have HZ0 : Hid (Bk (w.alloc (.cells vZero.cells 83)) w.heap.size 83 #[.int .i64 0, .int .i64 0, .int .i64 0, .int .u64 0]) := Bk.new _ _ _
  have HB0 : Hid (Below w.heap.size w (w.alloc (.cells vZero.cells 83))) := (Below.refl _ _).alloc (Nat.le_refl _) _
  clear h
  go_enter Try.func76, Try.ntmps76
  go_wp2_with fail
  refine HP0.out.mono ?_
  rintro e w1 ⟨ps, b, rfl, hI, hB1⟩
  have hZ1 := HZ0.out.below' hB1
  have HB1 := Lib.hid (HB0.out.trans (hB1.mono HB0.out.size))
  have z0 : w1.cell? ⟨w.heap.size, 0, none⟩ = some (.int .i64 0) := hZ1.cell 0
  have z1 : w1.cell? ⟨w.heap.size, 1, none⟩ = some (.int .i64 0) := hZ1.cell 1
  have z2 : w1.cell? ⟨w.heap.size, 2, none⟩ = some (.int .i64 0) := hZ1.cell 2
  have z3 : w1.cell? ⟨w.heap.size, 3, none⟩ = some (.int .u64 0) := hZ1.cell 3
  have y0 := hZ1.free 0
  have y1 := hZ1.free 1
  have y2 := hZ1.free 2
  have y3 := hZ1.free 3
  have HZ1 := Lib.hid hZ1
  have hlz := hZ1.lt
  rcases hI.hit HR.out with ⟨rfl, hn⟩ | ⟨rfl, k, v, rfl, hk, hv, hok, hx, hps⟩
  · have HN := Lib.hid hn
    clear hI hB1 hn hZ1
    go_wp2_with fail
    have HZ3 : Bk (((((w1.setCell ⟨w.heap.size, 0, none⟩ (.int .i64 0)).setCell ⟨w.heap.size, 1, none⟩ (.int .i64 0)).setCell ⟨w.heap.size, 2, none⟩ (.int .i64 0)).setCell ⟨w.heap.size, 3, none⟩ (.int .u64 0)).alloc (.cells #[.pointer (ps 0), .pointer (ps 1), .pointer (ps 2), .pointer (ps 3)] 140)) w.heap.size 83 #[.int .i64 0, .int .i64 0, .int .i64 0, .int .u64 0] := (rec_set4 HZ1.out (.int .i64 0) (.int .i64 0) (.int .i64 0) (.int .u64 0) : Bk _ _ _ _).alloc _
    refine bodyPost_ret (results_rec (fn := Try.f76) rfl HZ3 rfl rfl) rfl ⟨?_, ?_⟩
    · rw [HN.out]
      rfl
    · exact HB1.out.trans (((rec_fr4 w1 w.heap.size _ _ _ _).alloc _).below HB1.out.size fun k hk e => by omega)
  · have HT := Lib.hid (HR.out.below0 hB1).tr
    have hp3 := hx 3 (by omega)
    have hp4 := hx 4 (by omega)
    have hd := HT.out.hsC hp3 (by omega : k / rxD 4 % 16 < 16)
    rw [rxD_digit (by omega), hp4] at hd
    unfold ptrIf at hd
    rw [if_pos rfl] at hd
    have hvb := HT.out.val k v (by rw [rxD_4, Nat.div_one] at hp4; exact hp4) hv
    have e4 : k / rxD 4 = k := by rw [rxD_4, Nat.div_one]
    rw [e4] at hd
    have hps3 := hps 3 (by omega)
    have HA := Lib.hid (fun W => rxAt W (key := k) (by omega : 3 ≤ 3))
    rw [e4] at HA
    have h16 : k % 16 < 16 := by omega
    have HN : Hid (getF f (k : Int) = some v) := by
      show _ = _
      rw [getF_nat, hv]
    have hl3 := (HT.out.node 3 _ (by omega) hp3).lt
    have hlv := hvb.lt
    generalize nd 3 (k / rxD 3) = b3 at *
    generalize nd 4 k = bv at *
    generalize k % 16 = dg at *
    have b5 : (dg : Int) < 16 := by omega
    have b6 : (0 : Int) ≤ dg := by omega
    obtain ⟨x0, x1, x2, x3, rfl⟩ := hok
    have hc0 : w1.cell? ⟨bv, 0, none⟩ = some (.int .i64 x0) := hvb.cell 0
    have hc1 : w1.cell? ⟨bv, 1, none⟩ = some (.int .i64 x1) := hvb.cell 1
    have hc2 : w1.cell? ⟨bv, 2, none⟩ = some (.int .i64 x2) := hvb.cell 2
    have hc3 : w1.cell? ⟨bv, 3, none⟩ = some (.int .u64 x3) := hvb.cell 3
    clear hI hB1 hx hps hvb hv hp3 hp4 hZ1
    have HW2 : Hid (∀ W2, W2 = w1.alloc (.cells #[.pointer (ps 0), .pointer (ps 1), .pointer (ps 2), .pointer (some ⟨b3, 0, none⟩)] 140) → Below w1.heap.size w1 W2 ∧ W2.cell? ⟨w1.heap.size, 3, none⟩ = some (.pointer (some ⟨b3, 0, none⟩))) := by
      rintro _ rfl
      exact ⟨(Below.refl _ _).alloc (Nat.le_refl _) _, (Bk.new w1 _ _).cell 3⟩
    go_wp2_with fail
    generalize hW2 : w1.alloc (.cells #[.pointer (ps 0), .pointer (ps 1), .pointer (ps 2), .pointer (some ⟨b3, 0, none⟩)] 140) = W2
    obtain ⟨hB2, ha3⟩ := HW2.out _ hW2.symm
    replace hd := (hB2.cell (p := ⟨b3, _, none⟩) hl3).trans hd
    replace hc0 := (hB2.cell (p := ⟨bv, _, none⟩) hlv).trans hc0
    replace hc1 := (hB2.cell (p := ⟨bv, _, none⟩) hlv).trans hc1
    replace hc2 := (hB2.cell (p := ⟨bv, _, none⟩) hlv).trans hc2
    replace hc3 := (hB2.cell (p := ⟨bv, _, none⟩) hlv).trans hc3
    have HZ2 := Lib.hid (HZ1.out.below' hB2)
    have HB2 := Lib.hid (HB1.out.trans (hB2.mono HB1.out.size))
    generalize w1.heap.size = ar at *
    clear hW2 hB2 HW2 z0 z1 z2 z3 y0 y1 y2 y3
    have z0 : W2.cell? ⟨w.heap.size, 0, none⟩ = some (.int .i64 0) := HZ2.out.cell 0
    have z1 : W2.cell? ⟨w.heap.size, 1, none⟩ = some (.int .i64 0) := HZ2.out.cell 1
    have z2 : W2.cell? ⟨w.heap.size, 2, none⟩ = some (.int .i64 0) := HZ2.out.cell 2
    have z3 : W2.cell? ⟨w.heap.size, 3, none⟩ = some (.int .u64 0) := HZ2.out.cell 3
    have y0 := HZ2.out.free 0
    have y1 := HZ2.out.free 1
    have y2 := HZ2.out.free 2
    have y3 := HZ2.out.free 3
    go_still_tail 10, (by kernel_rfl)
    still_call (HA.out _)
    repeat still_step
    refine wpStill_nil ?_
    change wpList _ _ _ _ _ W2.drew
    go_wp2_with fail
    have HZ3 : Bk (((((W2.setCell ⟨w.heap.size, 0, none⟩ (.int .i64 x0)).setCell ⟨w.heap.size, 1, none⟩ (.int .i64 x1)).setCell ⟨w.heap.size, 2, none⟩ (.int .i64 x2)).setCell ⟨w.heap.size, 3, none⟩ (.int .u64 x3)).drew) w.heap.size 83 #[.int .i64 x0, .int .i64 x1, .int .i64 x2, .int .u64 x3] := rec_set4 HZ2.out _ _ _ _
    refine bodyPost_ret (results_rec (fn := Try.f76) rfl HZ3 rfl rfl) rfl ⟨?_, ?_⟩
    · rw [HN.out]
      rfl
    · exact HB2.out.trans ((rec_fr4 W2 w.heap.size _ _ _ _).drewN 1 |>.below HB2.out.size fun k hk e => by omega)
end
end Go.Proofs.YteifdbfaclpcdaaR.Rr
