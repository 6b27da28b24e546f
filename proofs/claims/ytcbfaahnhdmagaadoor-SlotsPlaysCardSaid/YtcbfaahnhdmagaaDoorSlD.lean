/- Contracts of package disk: Read, Write, Peek. -/
import Derived.Test.YtcbfaahnhdmagaaDoorSlC
namespace Go.Proofs.YtcbfaahnhdmagaaDoor
open Go.RowKit

/-- The bytes of a sector; a sector written. -/
def sec (bs : List UInt8) (n : Nat) : List UInt8 := (bs.drop (n * 512)).take 512
def putS (bs : List UInt8) (n : Nat) (b : List UInt8) : List UInt8 := splice bs (n * 512) b
theorem sec_len {bs : List UInt8} {m n : Nat} (h : bs.length = 512 * m) (hn : n < m) : (sec bs n).length = 512 := by
  unfold sec
  rw [List.length_take, List.length_drop]
  omega
theorem putS_len {bs b : List UInt8} {m n : Nat} (h : bs.length = 512 * m) (hn : n < m) (hb : b.length = 512) : (putS bs n b).length = 512 * m := by
  unfold putS
  rw [length_splice _ _ _ (by omega), h]
theorem splice_at {α : Type} (L : List α) (off : Nat) (cs : List α) (h : off + cs.length ≤ L.length) (i : Nat) : (splice L off cs)[i]? = if off ≤ i ∧ i < off + cs.length then cs[i - off]? else L[i]? := by
  unfold splice
  rw [List.getElem?_append]
  have e : (L.take off).length = off := by rw [List.length_take]; omega
  rw [e]
  by_cases h1 : i < off
  · rw [if_pos h1, if_neg (by omega), List.getElem?_take, if_pos h1]
  · rw [if_neg h1, List.getElem?_append]
    by_cases h2 : i < off + cs.length
    · rw [if_pos (by omega), if_pos (by omega)]
    · rw [if_neg (by omega), if_neg (by omega), List.getElem?_drop]
      congr 1
      omega
theorem sec_put {bs b : List UInt8} {m n k : Nat} (h : bs.length = 512 * m) (hn : n < m) (hb : b.length = 512) : sec (putS bs n b) k = if k = n then b else sec bs k := by
  apply List.ext_getElem?
  intro i
  unfold sec putS
  rw [List.getElem?_take, List.getElem?_drop, splice_at _ _ _ (by omega)]
  by_cases h1 : i < 512
  · rw [if_pos h1]
    by_cases h2 : k = n
    · subst h2
      rw [if_pos (by omega), if_pos rfl, show k * 512 + i - k * 512 = i by omega]
    · rw [if_neg (by omega), if_neg h2, List.getElem?_take, if_pos h1, List.getElem?_drop]
  · rw [if_neg h1]
    by_cases h2 : k = n
    · rw [if_pos h2, List.getElem?_eq_none (by omega)]
    · rw [if_neg h2, List.getElem?_take, if_neg h1]

section
variable {w w' : World} {S : Nat → Prop} {gd gl gb : Nat} {l : List Bool} {a f m : Nat} {bs : List UInt8}
theorem DiskAt.self (h : DiskAt w S gd gl gb l a f m bs) : S gl := h.luck.self
theorem DiskAt.asked {a' f' : Nat} (h : DiskAt w S gd gl gb l a f m bs) (hL : LuckAt w' S gl l a' f') (hF : Fr (· = gl) w w') : DiskAt w' S gd gl gb l a' f' m bs :=
  ⟨hL, h.top.fr hF (fun e => h.sd (e ▸ h.self)), Bk.fr h.row hF (fun e => h.sb (e ▸ h.self)), h.len, h.le, h.sd, h.sb⟩
theorem DiskAt.sec (h : DiskAt w S gd gl gb l a f m bs) (n : Nat) : RdY w w.heap.size (some ⟨gb, n * 512, none⟩) (sec bs n) := (h.row.rd (n * 512)).take 512

theorem dPeek_in (h : DiskAt w S gd gl gb l a f m bs) {n : Nat} (hn : n < m) : Calls Tryd.prog 48 #[.pointer (some ⟨gd, 0, none⟩), .int .i64 n] w fun e w' => ∃ A' c', e = .returned (.slice A' 512 c') ∧ OwnY w' w.heap.size (.slice A' 512 c') (Proofs.YtcbfaahnhdmagaaDoor.sec bs n) ∧ Below w.heap.size w w' := by
  have HS := Lib.hid (dSector_in h hn)
  have hl := sec_len h.len hn
  have HC := Lib.hid (cloneY_any (c := bs.length - n * 512) (h.sec n) (Nat.le_refl _) (by omega))
  rw [hl] at HC
  clear h hl
  go_enter Tryd.func48, Tryd.ntmps48
  go_wp2_with (first
    | (go_at_call 56; refine HS.out.mono ?_; rintro e w2 ⟨rfl, rfl⟩)
    | (go_at_call 58; refine HC.out.mono ?_; rintro e w2 ⟨A', c', rfl, hO, hB⟩))
  go_ret
  exact ⟨A', c', rfl, hO, hB⟩
theorem dPeek_out (h : DiskAt w S gd gl gb l a f m bs) {n : Int} (hn : n < 0 ∨ (0 ≤ n ∧ (m : Int) ≤ n)) : Calls Tryd.prog 48 #[.pointer (some ⟨gd, 0, none⟩), .int .i64 n] w fun e w' => e = .returned (.slice none 0 0) ∧ w = w' := by
  have HS := Lib.hid (dSector_out h hn)
  clear h hn
  go_enter Tryd.func48, Tryd.ntmps48
  go_wp2_with (first
    | (go_at_call 56; refine HS.out.mono ?_; rintro e w2 ⟨rfl, rfl⟩)
    | (go_at_call 58; refine (cloneY_none _ _ _).mono ?_; rintro e w2 ⟨rfl, rfl⟩))
  go_ret
  exact ⟨rfl, rfl⟩
theorem dPeek_nil (w : World) : Calls Tryd.prog 48 #[.pointer none, .int .i64 0] w fun e w' => e = .returned (.slice none 0 0) ∧ w = w' := by
  go_enter Tryd.func48, Tryd.ntmps48
  go_wp2_with (first
    | (go_at_call 56; refine (dSector_nil _).mono ?_; rintro e w2 ⟨rfl, rfl⟩)
    | (go_at_call 58; refine (cloneY_none _ _ _).mono ?_; rintro e w2 ⟨rfl, rfl⟩))
  go_ret
  exact ⟨rfl, rfl⟩

set_option maxHeartbeats 1000000 in
theorem dRead_out (h : DiskAt w S gd gl gb l a f m bs) {n : Int} (hn : n < 0 ∨ (0 ≤ n ∧ (m : Int) ≤ n)) : Calls Tryd.prog 47 #[.pointer (some ⟨gd, 0, none⟩), .int .i64 n] w fun e w' => e = .returned (.tuple #[.slice none 0 0, .int .i64 2]) ∧ w = w' := by
  have hnil := fun (w : World) (a : Option Addr) (n c n' c' : Nat) => Lib.run_eql_slice_nil (P := Tryd.prog) w _ _ a n c n' c' Tryd.underlying22
  have HS := Lib.hid (dSector_out h hn)
  clear h hn
  go_enter Tryd.func47, Tryd.ntmps47
  go_wp2_with (go_at_call 56; refine HS.out.mono ?_; rintro e w2 ⟨rfl, rfl⟩)
  go_ret2
  exact ⟨rfl, rfl⟩
theorem dRead_nil (w : World) : Calls Tryd.prog 47 #[.pointer none, .int .i64 0] w fun e w' => e = .returned (.tuple #[.slice none 0 0, .int .i64 2]) ∧ w = w' := by
  have hnil := fun (w : World) (a : Option Addr) (n c n' c' : Nat) => Lib.run_eql_slice_nil (P := Tryd.prog) w _ _ a n c n' c' Tryd.underlying22
  go_enter Tryd.func47, Tryd.ntmps47
  go_wp2_with (go_at_call 56; refine (dSector_nil _).mono ?_; rintro e w2 ⟨rfl, rfl⟩)
  go_ret2
  exact ⟨rfl, rfl⟩
set_option maxHeartbeats 1000000 in
theorem dRead_fail (h : DiskAt w S gd gl gb l a f m bs) (hl : l.length ≤ 1000000) (ha : a ≤ 1000000) (hf : f ≤ 1000000) {n : Nat} (hn : n < m) (hx : l[a]?.getD false = true) : Calls Tryd.prog 47 #[.pointer (some ⟨gd, 0, none⟩), .int .i64 n] w fun e w' => e = .returned (.tuple #[.slice none 0 0, .int .i64 12]) ∧ DiskAt w' S gd gl gb l (a + 1) (f + 1) m bs ∧ Fr (· = gl) w w' := by
  have hnil := fun (w : World) (a : Option Addr) (n c n' c' : Nat) => Lib.run_eql_slice_nil (P := Tryd.prog) w _ _ a n c n' c' Tryd.underlying22
  have HS := Lib.hid (dSector_in h hn)
  have HF := Lib.hid (fails_any h.luck hl ha hf)
  rw [hx] at HF
  have HD := Lib.hid h
  have h0 : w.cell? ⟨gd, 0, none⟩ = some (.pointer (some ⟨gl, 0, none⟩)) := Bk.cell h.top 0
  clear h hx
  go_enter Tryd.func47, Tryd.ntmps47
  go_wp2_with (first
    | (go_at_call 56; refine HS.out.mono ?_; rintro e w2 ⟨rfl, rfl⟩)
    | (go_at_call 57; refine HF.out.mono ?_; rintro e w2 ⟨rfl, hL, hFr⟩))
  go_ret2
  exact ⟨rfl, HD.out.asked hL hFr, hFr⟩
set_option maxHeartbeats 1000000 in
theorem dRead_ok (h : DiskAt w S gd gl gb l a f m bs) (hl : l.length ≤ 1000000) (ha : a ≤ 1000000) (hf : f ≤ 1000000) {n : Nat} (hn : n < m) (hx : l[a]?.getD false = false) : Calls Tryd.prog 47 #[.pointer (some ⟨gd, 0, none⟩), .int .i64 n] w fun e w' => ∃ A' c', e = .returned (.tuple #[.slice A' 512 c', .int .i64 0]) ∧ OwnY w' w.heap.size (.slice A' 512 c') (Proofs.YtcbfaahnhdmagaaDoor.sec bs n) ∧ DiskAt w' S gd gl gb l (a + 1) f m bs ∧ Fr (· = gl) w w' := by
  have hnil := fun (w : World) (a : Option Addr) (n c n' c' : Nat) => Lib.run_eql_slice_nil (P := Tryd.prog) w _ _ a n c n' c' Tryd.underlying22
  have HS := Lib.hid (dSector_in h hn)
  have HF := Lib.hid (fails_any h.luck hl ha hf)
  rw [hx] at HF
  have HD := Lib.hid h
  have h0 : w.cell? ⟨gd, 0, none⟩ = some (.pointer (some ⟨gl, 0, none⟩)) := Bk.cell h.top 0
  have HL := Lib.hid (sec_len h.len hn)
  clear h hx
  go_enter Tryd.func47, Tryd.ntmps47
  go_wp2_with (first
    | (go_at_call 56; refine HS.out.mono ?_; rintro e w2 ⟨rfl, rfl⟩)
    | (go_at_call 57; refine HF.out.mono ?_; rintro e w2 ⟨rfl, hL, hFr⟩))
  have HD2 := Lib.hid (HD.out.asked hL hFr)
  have HC := Lib.hid (cloneY_any (c := bs.length - n * 512) (HD2.out.sec n) (Nat.le_refl _) (by have := HL.out; omega))
  rw [HL.out] at HC
  go_wp2_with fail
  refine HC.out.mono ?_
  rintro e w3 ⟨A', c', rfl, hO, hB⟩
  go_wp2
  go_ret2
  exact ⟨A', c', rfl, hO.weaken hFr.size, HD2.out.below0 hB, hFr.trans (Fr.of_below0 hB) fun _ _ h => h⟩

set_option maxHeartbeats 1000000 in
theorem dWrite_out (h : DiskAt w S gd gl gb l a f m bs) {A : Option Addr} {k c : Nat} {n : Int} (hn : n < 0 ∨ (0 ≤ n ∧ (m : Int) ≤ n)) : Calls Tryd.prog 46 #[.pointer (some ⟨gd, 0, none⟩), .int .i64 n, .slice A k c] w fun e w' => e = .returned (.int .i64 2) ∧ w = w' := by
  have hnil := fun (w : World) (a : Option Addr) (n c n' c' : Nat) => Lib.run_eql_slice_nil (P := Tryd.prog) w _ _ a n c n' c' Tryd.underlying22
  have HS := Lib.hid (dSector_out h hn)
  clear h hn
  go_enter Tryd.func46, Tryd.ntmps46
  go_wp2_with (go_at_call 56; refine HS.out.mono ?_; rintro e w2 ⟨rfl, rfl⟩)
  go_ret
  exact ⟨rfl, rfl⟩
theorem dWrite_nil (w : World) (A : Option Addr) (k c : Nat) : Calls Tryd.prog 46 #[.pointer none, .int .i64 0, .slice A k c] w fun e w' => e = .returned (.int .i64 2) ∧ w = w' := by
  have hnil := fun (w : World) (a : Option Addr) (n c n' c' : Nat) => Lib.run_eql_slice_nil (P := Tryd.prog) w _ _ a n c n' c' Tryd.underlying22
  go_enter Tryd.func46, Tryd.ntmps46
  go_wp2_with (go_at_call 56; refine (dSector_nil _).mono ?_; rintro e w2 ⟨rfl, rfl⟩)
  go_ret
  exact ⟨rfl, rfl⟩
set_option maxHeartbeats 1000000 in
theorem dWrite_len (h : DiskAt w S gd gl gb l a f m bs) {A : Option Addr} {k c n : Nat} (hn : n < m) (hk : k ≠ 512) : Calls Tryd.prog 46 #[.pointer (some ⟨gd, 0, none⟩), .int .i64 n, .slice A k c] w fun e w' => e = .returned (.int .i64 1) ∧ w = w' := by
  have hnil := fun (w : World) (a : Option Addr) (n c n' c' : Nat) => Lib.run_eql_slice_nil (P := Tryd.prog) w _ _ a n c n' c' Tryd.underlying22
  have HS := Lib.hid (dSector_in h hn)
  have h1 : ((k : Int) != 512) = true := bne_iff_ne.2 (by omega)
  clear h
  go_enter Tryd.func46, Tryd.ntmps46
  go_wp2_with (go_at_call 56; refine HS.out.mono ?_; rintro e w2 ⟨rfl, rfl⟩)
  go_ret
  exact ⟨rfl, rfl⟩
set_option maxHeartbeats 1000000 in
theorem dWrite_fail (h : DiskAt w S gd gl gb l a f m bs) (hl : l.length ≤ 1000000) (ha : a ≤ 1000000) (hf : f ≤ 1000000) {A : Option Addr} {c n : Nat} (hn : n < m) (hx : l[a]?.getD false = true) : Calls Tryd.prog 46 #[.pointer (some ⟨gd, 0, none⟩), .int .i64 n, .slice A 512 c] w fun e w' => e = .returned (.int .i64 12) ∧ DiskAt w' S gd gl gb l (a + 1) (f + 1) m bs ∧ Fr (· = gl) w w' := by
  have hnil := fun (w : World) (a : Option Addr) (n c n' c' : Nat) => Lib.run_eql_slice_nil (P := Tryd.prog) w _ _ a n c n' c' Tryd.underlying22
  have HS := Lib.hid (dSector_in h hn)
  have HF := Lib.hid (fails_any h.luck hl ha hf)
  rw [hx] at HF
  have HD := Lib.hid h
  have h0 : w.cell? ⟨gd, 0, none⟩ = some (.pointer (some ⟨gl, 0, none⟩)) := Bk.cell h.top 0
  clear h hx
  go_enter Tryd.func46, Tryd.ntmps46
  go_wp2_with (first
    | (go_at_call 56; refine HS.out.mono ?_; rintro e w2 ⟨rfl, rfl⟩)
    | (go_at_call 57; refine HF.out.mono ?_; rintro e w2 ⟨rfl, hL, hFr⟩))
  go_ret
  exact ⟨rfl, HD.out.asked hL hFr, hFr⟩
set_option maxHeartbeats 2000000 in
set_option maxRecDepth 100000 in
theorem dWrite_ok (h : DiskAt w S gd gl gb l a f m bs) (hl : l.length ≤ 1000000) (ha : a ≤ 1000000) (hf : f ≤ 1000000) {A : Option Addr} {B c n : Nat} {b : List UInt8} (hA : RdY w B A b) (hB : B ≤ w.heap.size) (hb : b.length = 512) (hne : ∀ ad, A = some ad → ad.block ≠ gl) (hn : n < m) (hx : l[a]?.getD false = false) : Calls Tryd.prog 46 #[.pointer (some ⟨gd, 0, none⟩), .int .i64 n, .slice A 512 c] w fun e w' => e = .returned (.int .i64 0) ∧ DiskAt w' S gd gl gb l (a + 1) f m (putS bs n b) ∧ Fr (fun k => k = gl ∨ k = gb) w w' := by
  have hnil := fun (w : World) (a : Option Addr) (n c n' c' : Nat) => Lib.run_eql_slice_nil (P := Tryd.prog) w _ _ a n c n' c' Tryd.underlying22
  have hs1 : (Tryd.prog.info? 5).map (·.size) = some 1 := by kernel_rfl
  have HS := Lib.hid (dSector_in h hn)
  have HF := Lib.hid (fails_any h.luck hl ha hf)
  rw [hx] at HF
  have HD := Lib.hid h
  have HA := Lib.hid hA
  have h0 : w.cell? ⟨gd, 0, none⟩ = some (.pointer (some ⟨gl, 0, none⟩)) := Bk.cell h.top 0
  have hlen := h.len
  have HLN := Lib.hid hlen
  have hlb : n * 512 + 512 ≤ bs.length := by omega
  obtain ⟨CL, hCL⟩ : ∃ CL, CL = bs.map bv := ⟨_, rfl⟩
  obtain ⟨Z, hZ⟩ : ∃ Z, Z = b.map bv := ⟨_, rfl⟩
  have hCl : CL.length = bs.length := by rw [hCL]; simp
  have hZl : Z.length = 512 := by rw [hZ]; simpa using hb
  have HZ1 : Hid (∀ v ∈ Z, v.oneCell' = true) := by
    show ∀ v ∈ Z, _
    rw [hZ]; exact oneY _
  have HSp : Hid (splice CL (n * 512) Z = (putS bs n b).map bv) := by
    show _ = _
    rw [hCL, hZ]
    simp [putS, splice, List.map_take, List.map_drop]
  have HCL := Lib.hid hCL
  have HZ := Lib.hid hZ
  have HPL := Lib.hid (putS_len h.len hn hb)
  obtain ⟨ad, rfl, _, _⟩ := hA.at_ (k := 0) (by omega)
  have hne' : ad.block ≠ gl := hne ad rfl
  clear h hx hA hb hne hlen hCL hZ
  go_enter Tryd.func46, Tryd.ntmps46
  go_upto_region 8 with (first
    | (go_at_call 56; refine HS.out.mono ?_; rintro e w2 ⟨rfl, rfl⟩)
    | (go_at_call 57; refine HF.out.mono ?_; rintro e w2 ⟨rfl, hL, hFr⟩))
  have HD2 := Lib.hid (HD.out.asked hL hFr)
  have HG : Hid (w2.heap[gb]? = some (.cells CL.toArray 5 (0, 0))) := by
    show _ = _
    rw [HCL.out]; exact HD2.out.row
  have HC : Hid (∀ j v, Z[j]? = some v → w2.cell? (ad.add j) = some v) := fun j v hv => by
    rw [HZ.out] at hv
    obtain ⟨ad', e, h1, h2⟩ := HA.out j v hv
    injection e with e
    subst e
    rw [hFr.cell (by rw [block_add]; omega) (by rw [block_add]; exact hne')]
    exact h2
  have hBr : Below w2.heap.size w2 w2 := Below.refl _ _
  have hgb : gb < w2.heap.size := Bk.lt HD2.out.row
  go_wp2_with ((with_reducible refine wpList_dst 26 ?_); refine wpList_copy_own rfl (.tmp 24) (.tmp 25) 22 22 rfl 5 Tryd.underlying22 hs1 gb (n * 512) 512 (bs.length - n * 512) ad 512 c rfl rfl CL.toArray 5 HG.out Z (by rw [hZl]; rfl) HC.out (by simp; omega) HZ1.out ?_)
  go_wp2
  go_ret
  have hE : Hid (CL.take (n * 512) ++ (Z ++ CL.drop (n * 512 + 512)) = (putS bs n b).map bv) := by
    show _ = _
    rw [← HSp.out, splice, hZl]
  have hrow : RowY (w2.setRow gb (CL.take (n * 512) ++ (Z ++ CL.drop (n * 512 + 512))).toArray) gb (putS bs n b) := by
    show Bk _ _ _ _
    rw [← hE.out]
    exact Bk.setRow HG.out _
  have hF3 : Fr (· = gb) w2 (w2.setRow gb (CL.take (n * 512) ++ (Z ++ CL.drop (n * 512 + 512))).toArray) := (Fr.refl _ w2).setRow gb _ fun _ => rfl
  refine ⟨rfl, ⟨?_, ?_, hrow, HPL.out, HD2.out.le, HD2.out.sd, HD2.out.sb⟩, (hFr.mono fun _ _ h => .inl h).trans hF3 fun _ _ h => .inr h⟩
  · exact HD2.out.luck.fr hF3 fun k hk e => HD2.out.sb (e ▸ hk)
  · have := HD2.out.top.fr hF3 HD2.out.ne
    rw [HPL.out, ← HLN.out]
    exact this
end
end Go.Proofs.YtcbfaahnhdmagaaDoor
