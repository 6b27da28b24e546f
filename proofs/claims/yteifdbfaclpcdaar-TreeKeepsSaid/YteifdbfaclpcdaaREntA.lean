/- Contracts of package entry: numbers that go round. -/
import Derived.Test.YteifdbfaclpcdaaRBitB
import Derived.Test.YteifdbfaclpcdaaRCntL
namespace Go.Proofs.YteifdbfaclpcdaaR
open Go.RowKit

/-- Numbers at block e: which are in use (f, each one less), and the one told last. -/
structure EntAt (w : World) (e g gw : Nat) (f : Nat → Bool) (last : Nat) : Prop where
  top : Bk w e 117 #[.pointer (some ⟨g, 0, none⟩), .int .i64 last]
  set : SetIs w g gw f 512
  ne1 : e ≠ g
  ne2 : e ≠ gw
  last_le : last ≤ 512
theorem EntAt.fr {S : Nat → Prop} {w w' : World} {e g gw last : Nat} {f : Nat → Bool} (h : EntAt w e g gw f last) (hf : Fr S w w') (h0 : ¬ S e) (h1 : ¬ S g) (h2 : ¬ S gw) : EntAt w' e g gw f last :=
  ⟨h.top.fr hf h0, h.set.fr hf h1 h2, h.ne1, h.ne2, h.last_le⟩
theorem eLen_any {w : World} {e g gw last : Nat} {f : Nat → Bool} (h : EntAt w e g gw f last) :
    Calls Try.prog 36 #[.pointer (some ⟨e, 0, none⟩)] w fun x w' => x = .returned (.int .i64 (cntB f 512)) ∧ w = w' := by
  have h0 : w.cell? ⟨e, 0, none⟩ = some (.pointer (some ⟨g, 0, none⟩)) := Bk.cell h.top 0
  have HL := Lib.hid (isLen h.set)
  clear h
  go_enter Try.func36, Try.ntmps36
  go_wp2_with (go_at_call 66; refine HL.out.mono ?_; rintro x w2 ⟨rfl, rfl⟩)
  go_ret
  exact ⟨rfl, rfl⟩
/-- Is a number in use? -/
def inB (f : Nat → Bool) (k : Int) : Bool := decide (1 ≤ k) && (mayB 512 (k - 1) && f (k - 1).toNat)
theorem inB_yes {f : Nat → Bool} {k : Int} (h : 1 ≤ k) : inB f k = (mayB 512 (k - 1) && f (k - 1).toNat) := by
  unfold inB
  rw [decide_eq_true h, Bool.true_and]
theorem inB_no {f : Nat → Bool} {k : Int} (h : k < 1) : inB f k = false := by
  unfold inB
  rw [decide_eq_false (by omega), Bool.false_and]
theorem eIn_any {w : World} {e g gw last : Nat} {f : Nat → Bool} (h : EntAt w e g gw f last) (k : Int) (hk : k ≤ 9223372036854775807) :
    Calls Try.prog 34 #[.pointer (some ⟨e, 0, none⟩), .int .i64 k] w fun x w' => x = .returned (.bool (inB f k)) ∧ w = w' := by
  have h0 : w.cell? ⟨e, 0, none⟩ = some (.pointer (some ⟨g, 0, none⟩)) := Bk.cell h.top 0
  by_cases h1 : 1 ≤ k
  · have HI := Lib.hid (inB_yes (f := f) h1)
    have HH := Lib.hid (isHas h.set (k - 1))
    generalize (mayB 512 (k - 1) && f (k - 1).toNat) = bb at HI HH
    clear h
    go_enter Try.func34, Try.ntmps34
    go_wp2_with (go_at_call 63; refine HH.out.mono ?_; rintro x w2 ⟨rfl, rfl⟩)
    go_ret
    exact ⟨ret_bool HI.out.symm, rfl⟩
  · have h2 : k < 1 := by omega
    have HI := Lib.hid (inB_no (f := f) h2)
    clear h h1
    go_enter Try.func34, Try.ntmps34
    go_wp2
    go_ret
    exact ⟨ret_bool HI.out.symm, rfl⟩

/-- The next number; 0: there is none. -/
def nextOf (f : Nat → Bool) (last : Nat) : Nat := match (List.range 512).find? (fun i => !f ((last + i) % 512)) with | some i => (last + i) % 512 + 1 | none => 0
theorem nextOf_hit {f : Nat → Bool} {last i : Nat} (hi : i < 512) (h : f ((last + i) % 512) = false) (hn : ∀ j, j < i → f ((last + j) % 512) = true) : nextOf f last = (last + i) % 512 + 1 := by
  have e : (List.range 512).find? (fun i => !f ((last + i) % 512)) = some i := by
    rw [List.find?_range_eq_some]
    exact ⟨by simp [h], by simpa using hi, fun j hj => by simp [hn j hj]⟩
  unfold nextOf
  rw [e]
theorem nextOf_none {f : Nat → Bool} {last : Nat} (hn : ∀ j, j < 512 → f ((last + j) % 512) = true) : nextOf f last = 0 := by
  have e : (List.range 512).find? (fun i => !f ((last + i) % 512)) = none := by
    rw [List.find?_eq_none]
    intro j hj
    simp [hn j (List.mem_range.1 hj)]
  unfold nextOf
  rw [e]

set_option maxRecDepth 100000 in
set_option maxHeartbeats 1000000 in
theorem eNext_any {w : World} {e g gw last : Nat} {f : Nat → Bool} (h : EntAt w e g gw f last) :
    Calls Try.prog 32 #[.pointer (some ⟨e, 0, none⟩)] w fun x w' => x = .returned (.tuple #[.int .i64 (nextOf f last), .bool (decide (0 < nextOf f last))]) ∧ w = w' := by
  have h0 : w.cell? ⟨e, 0, none⟩ = some (.pointer (some ⟨g, 0, none⟩)) := Bk.cell h.top 0
  have h1 : w.cell? ⟨e, 1, none⟩ = some (.int .i64 last) := Bk.cell h.top 1
  have HS := Lib.hid h.set
  have hl := h.last_le
  clear h
  go_enter Try.func32, Try.ntmps32
  go_wp2
  go_loop [4, 5, 8] (fun i k j => ∃ n : Nat, n ≤ 512 ∧ j = .int .i64 n ∧ Hid (∀ m, m < n → f ((last + m) % 512) = true)) (fun _ _ j => 512 - (intOf j).toNat)
  case atStart => exact ⟨0, by omega, rfl, fun m hm => by omega⟩
  case round =>
    obtain ⟨n, hn, rfl, HN⟩ := hrel
    rcases Nat.lt_or_ge n 512 with hlt | hge
    · have hm : mayB 512 (((last + n) % 512 : Nat) : Int) = true := by simp [mayB]; omega
      have HH := Lib.hid (isHas HS.out (((last + n) % 512 : Nat) : Int))
      rw [hm, Int.toNat_natCast] at HH
      clear hm
      have hmod : ((last : Int) + n) % 512 = ((last + n) % 512 : Nat) := by omega
      cases hf : f ((last + n) % 512)
      · have HX := Lib.hid (nextOf_hit hlt hf HN.out)
        rw [hf] at HH
        clear hf
        generalize (last + n) % 512 = q at *
        go_wp2_with (go_at_call 63; refine HH.out.mono ?_; rintro x w2 ⟨rfl, rfl⟩)
        go_ret2
        exact ⟨by rw [HX.out]; simp, rfl⟩
      · have HF := Lib.hid hf
        rw [hf] at HH
        clear hf
        generalize hq : (last + n) % 512 = q at *
        have HQ := Lib.hid hq
        clear hq
        go_wp2_with (go_at_call 63; refine HH.out.mono ?_; rintro x w2 ⟨rfl, rfl⟩)
        go_round
        case rel =>
          refine ⟨n + 1, by omega, by go_num, fun m hm => ?_⟩
          rcases Nat.lt_or_ge m n with h | h
          · exact HN.out m h
          · obtain rfl : m = n := by omega
            rw [HQ.out]
            exact HF.out
        case measure => simp [intOf]; omega
    · obtain rfl : n = 512 := by omega
      have HX := Lib.hid (nextOf_none HN.out)
      go_wp2
      go_ret2
      exact ⟨by rw [HX.out]; rfl, rfl⟩

theorem nextOf_le (f : Nat → Bool) (last : Nat) : nextOf f last ≤ 512 := by
  unfold nextOf
  split <;> omega
theorem nextOf_free {f : Nat → Bool} {last k : Nat} (h : nextOf f last = k + 1) : k < 512 ∧ f k = false := by
  unfold nextOf at h
  split at h
  · rename_i i hi
    have h1 := List.find?_some hi
    obtain rfl : k = (last + i) % 512 := by omega
    exact ⟨Nat.mod_lt _ (by omega), by simpa using h1⟩
  · omega

set_option maxRecDepth 100000 in
set_option maxHeartbeats 1000000 in
theorem eTake_none {w : World} {e g gw last : Nat} {f : Nat → Bool} (h : EntAt w e g gw f last) (hn : nextOf f last = 0) :
    Calls Try.prog 33 #[.pointer (some ⟨e, 0, none⟩)] w fun x w' => x = .returned (.tuple #[.int .i64 0, .int .i64 11]) ∧ w = w' := by
  have HN := Lib.hid (eNext_any h)
  rw [hn] at HN
  clear h hn
  go_enter Try.func33, Try.ntmps33
  go_wp2_with (go_at_call 32; refine HN.out.mono ?_; rintro x w2 ⟨rfl, rfl⟩)
  go_ret2
  exact ⟨rfl, rfl⟩
set_option maxRecDepth 100000 in
set_option maxHeartbeats 1000000 in
theorem eTake_some {w : World} {e g gw last k : Nat} {f : Nat → Bool} (h : EntAt w e g gw f last) (hn : nextOf f last = k + 1) :
    Calls Try.prog 33 #[.pointer (some ⟨e, 0, none⟩)] w fun x w' => x = .returned (.tuple #[.int .i64 ((k : Int) + 1), .int .i64 0]) ∧ EntAt w' e g gw (updB f k true) (k + 1) ∧ Fr (fun b => b = e ∨ b = g ∨ b = gw) w w' := by
  obtain ⟨hk, hf⟩ := nextOf_free hn
  have HN := Lib.hid (eNext_any h)
  rw [hn] at HN
  have h0 : w.cell? ⟨e, 0, none⟩ = some (.pointer (some ⟨g, 0, none⟩)) := Bk.cell h.top 0
  have HP := Lib.hid (isPut_new h.set hk hf)
  have HT := Lib.hid h
  clear h hn hf
  go_enter Try.func33, Try.ntmps33
  go_wp2_with (first
    | (go_at_call 32; refine HN.out.mono ?_; rintro x w2 ⟨rfl, rfl⟩)
    | (go_at_call 64; refine HP.out.mono ?_; rintro x w2 ⟨rfl, hs2, hF2⟩; have ht2 : Bk w2 e 117 _ := HT.out.top.fr hF2 (fun hh => hh.elim HT.out.ne1 HT.out.ne2); have hc2 : w2.cell? ⟨e, 1, none⟩ = some (.int .i64 last) := Bk.cell ht2 1; have hfz : w2.frozen? ⟨e, 1, none⟩ = false := Bk.free ht2 1))
  go_ret2
  have f1 : Fr (fun b => b = e) w2 (w2.setCell ⟨e, 1, none⟩ (.int .i64 ((k : Int) + 1))) := (Fr.refl _ _).set _ _ (fun _ => rfl)
  have t1 := ht2.set 1 (.int .i64 ((k + 1 : Nat) : Int))
  exact ⟨rfl, ⟨by simpa using t1, hs2.fr f1 (fun h => HT.out.ne1 h.symm) (fun h => HT.out.ne2 h.symm), HT.out.ne1, HT.out.ne2, by omega⟩,
    (hF2.mono fun b _ hb => .inr hb).trans f1 fun b _ hb => .inl hb⟩

def drop1 (f : Nat → Bool) (k : Int) : Nat → Bool := if inB f k then updB f (k - 1).toNat false else f
def dropE (f : Nat → Bool) (ks : List Int) : Nat → Bool := ks.foldl drop1 f
def dropN : (Nat → Bool) → List Int → Nat
  | _, [] => 0
  | f, k :: r => (inB f k).toNat + dropN (drop1 f k) r
theorem dropN_snoc (f : Nat → Bool) (ks : List Int) (k : Int) : dropN f (ks ++ [k]) = dropN f ks + (inB (dropE f ks) k).toNat := by
  induction ks generalizing f with
  | nil => simp [dropN, dropE]
  | cons a r ih =>
    have e : dropE f (a :: r) = dropE (drop1 f a) r := rfl
    simp only [List.cons_append, dropN, ih, e]
    omega
theorem dropE_succ (f : Nat → Bool) (ks : List Int) {k : Nat} (hk : k < ks.length) : dropE f (ks.take (k + 1)) = drop1 (dropE f (ks.take k)) (ks[k]?.getD 0) := by
  rw [List.take_succ_eq_append_getElem hk, dropE, List.foldl_append]
  simp [hk, dropE]
theorem dropN_succ (f : Nat → Bool) (ks : List Int) {k : Nat} (hk : k < ks.length) : dropN f (ks.take (k + 1)) = dropN f (ks.take k) + (inB (dropE f (ks.take k)) (ks[k]?.getD 0)).toNat := by
  rw [List.take_succ_eq_append_getElem hk, dropN_snoc]
  simp [hk]
theorem dropN_le (f : Nat → Bool) (ks : List Int) : dropN f ks ≤ ks.length := by
  induction ks generalizing f with
  | nil => simp [dropN]
  | cons a r ih =>
    have := ih (drop1 f a)
    have h2 : (inB f a).toNat ≤ 1 := by cases inB f a <;> simp
    simp only [dropN, List.length_cons]
    omega
theorem inB_true {f : Nat → Bool} {k : Int} (h : inB f k = true) : ∃ n : Nat, k = n + 1 ∧ n < 512 ∧ f n = true := by
  simp only [inB, mayB, Bool.and_eq_true, decide_eq_true_eq] at h
  obtain ⟨h1, ⟨h2, h3⟩, h4⟩ := h
  exact ⟨(k - 1).toNat, by omega, by omega, h4⟩

set_option maxRecDepth 100000 in
set_option maxHeartbeats 2000000 in
theorem eDrop_any {w : World} {e g gw last B : Nat} {f : Nat → Bool} {A : Option Addr} {c : Nat} {ks : List Int} (h : EntAt w e g gw f last) (hA : RdI w B A ks) (hB : B ≤ w.heap.size) (hne : ∀ ad, A = some ad → 0 < ks.length → ¬ (ad.block = e ∨ ad.block = g ∨ ad.block = gw)) (hks : ∀ z ∈ ks, z ≤ 9223372036854775807) (hl : ks.length ≤ 100000) :
    Calls Try.prog 35 #[.pointer (some ⟨e, 0, none⟩), .slice A ks.length c] w fun x w' => x = .returned (.int .i64 (dropN f ks)) ∧ EntAt w' e g gw (dropE f ks) last ∧ Fr (fun b => b = e ∨ b = g ∨ b = gw) w w' := by
  have HA := Lib.hid hA
  have HK := Lib.hid hks
  have hsz := h.top.lt
  have HN := Lib.hid hne
  have HT : EntAt w e g gw (dropE f (ks.take 0)) last := h
  clear hA hks hne
  go_enter Try.func35, Try.ntmps35
  go_wp2
  go_loopw [5, 7, 10] (fun m z j wr => ∃ k : Nat, k ≤ ks.length ∧ j = .int .i64 k ∧ m = .int .i64 (dropN f (ks.take k)) ∧ EntAt wr e g gw (dropE f (ks.take k)) last ∧ Fr (fun b => b = e ∨ b = g ∨ b = gw) w wr) (fun _ _ j _ => ks.length - (intOf j).toNat)
  case atStart => exact ⟨0, Nat.zero_le _, rfl, rfl, HT, Fr.refl _ _⟩
  case round =>
    clear HT h
    obtain ⟨k, hk', rfl, rfl, hE, hF⟩ := hrel
    have hdl : dropN f (ks.take k) ≤ 100000 := Nat.le_trans (dropN_le _ _) (Nat.le_trans (List.length_take_le _ _) (by omega))
    rcases Nat.lt_or_ge k ks.length with hlt | hge
    · obtain ⟨ad, rfl, hab, hc⟩ := RdI.at_ (w := wr) (Rd.fr HA.out hF hB (fun ad e hl => HN.out ad e (by simpa using hl))) hlt
      have HS := Lib.hid (dropN_succ f ks hlt)
      have HD := Lib.hid (dropE_succ f ks hlt)
      have hz : ks[k]?.getD 0 ≤ 9223372036854775807 := HK.out _ (by simp [hlt])
      generalize ks[k]?.getD 0 = z at *
      generalize hfk : dropE f (ks.take k) = fk at *
      have HFK := Lib.hid hfk
      clear hfk
      have h0 : wr.cell? ⟨e, 0, none⟩ = some (.pointer (some ⟨g, 0, none⟩)) := Bk.cell hE.top 0
      have HI := Lib.hid (eIn_any hE z hz)
      cases hb : inB fk z
      · have HB := Lib.hid hb
        rw [hb] at HI
        clear hb
        go_wp2_with (go_at_call 34; refine HI.out.mono ?_; rintro x w2 ⟨rfl, rfl⟩)
        exact ⟨⟨k + 1, by omega, by go_num, by rw [HS.out, HB.out]; simp, by rw [HD.out, drop1, HB.out]; exact hE, hF⟩, by simp [intOf]; omega⟩
      · have HB := Lib.hid hb
        obtain ⟨n, rfl, hn, hf⟩ := inB_true hb
        rw [hb] at HI
        clear hb
        have HDr := Lib.hid (isDrop_old hE.set hn hf)
        clear hf
        go_wp2_with (first
          | (go_at_call 34; refine HI.out.mono ?_; rintro x w2 ⟨rfl, rfl⟩)
          | (go_at_call 65; refine HDr.out.mono ?_; rintro x w2 ⟨rfl, hs2, hF2⟩))
        refine ⟨⟨k + 1, by omega, by go_num, by rw [HS.out, HB.out]; simp, ?_, hF.trans hF2 fun b _ hb => .inr hb⟩, by simp [intOf]; omega⟩
        rw [HD.out, drop1, HB.out]
        simp only [if_true, Int.add_sub_cancel, Int.toNat_natCast]
        exact ⟨hE.top.fr hF2 (fun hh => hh.elim hE.ne1 hE.ne2), hs2, hE.ne1, hE.ne2, hE.last_le⟩
    · obtain rfl : k = ks.length := by omega
      rw [List.take_of_length_le (Nat.le_refl _)] at *
      go_wp2
      go_ret
      exact ⟨rfl, hE, hF⟩

set_option maxRecDepth 100000 in
set_option maxHeartbeats 1000000 in
theorem eNew_any (w : World) : Calls Try.prog 38 #[] w fun x w' => ∃ e g gw, x = .returned (.pointer (some ⟨e, 0, none⟩)) ∧ EntAt w' e g gw (fun _ => false) 0 ∧ Below w.heap.size w w' ∧ w.heap.size ≤ e ∧ w.heap.size ≤ g ∧ w.heap.size ≤ gw := by
  have HN := Lib.hid (isNew w 512)
  go_enter Try.func38, Try.ntmps38
  go_wp2_with (go_at_call 67; refine HN.out.mono ?_; rintro x w2 ⟨g, gw, rfl, hs2, hB2, h1, h2⟩)
  go_ret
  have hs := hs2.lt
  exact ⟨_, g, gw, rfl, ⟨Bk.new _ _ _, hs2.fr ((Fr.refl (fun _ => False) w2).alloc _) id id, by omega, by omega, by omega⟩, hB2.alloc hB2.size _, hB2.size, h1, h2⟩
end Go.Proofs.YteifdbfaclpcdaaR
