/- Slots: Look; slots of a call's own. -/
import Derived.Test.YtcbfaahnhdmagaaDoorSlK
namespace Go.Proofs.YtcbfaahnhdmagaaDoor
open Go.RowKit

section
variable {w : World} {S : Nat → Prop} {gs gd gl gb g gw a many : Nat} {l : List Bool} {bs : List UInt8} {f : Nat → Bool}
set_option maxRecDepth 100000 in
set_option maxHeartbeats 4000000 in
theorem slLook_go (h : SlAt w S gs gd gl gb g gw l a many bs f) {n : Nat} (hn : n < many) (hf : f n = true) :
    Calls Tryd.prog 31 #[.pointer (some ⟨gs, 0, none⟩), .int .i64 n] w fun e w' => ∃ A' c', e = .returned (.tuple #[.slice A' 4096 c', .bool true]) ∧ OwnY w' w.heap.size (.slice A' 4096 c') (pageOf bs n) ∧ Below w.heap.size w w' := by
  obtain ⟨i0, hi0, hz0, hz1, hz2⟩ := info_parts u8_info
  have H1 := Lib.hid (slIn h (n : Int))
  rw [mayB_nat hn, Int.toNat_natCast, hf, Bool.true_and] at H1
  have H := Lib.hid h
  have hmany : many ≤ 128 := by have := DiskAt.le' h.disk; omega
  have HBs := Lib.hid (DiskAt.len h.disk)
  clear h hf
  go_enter Tryd.func31, Tryd.ntmps31
  go_wp2_with (go_at_call 32; refine H1.out.mono ?_; rintro x w2 ⟨rfl, rfl⟩)
  go_loopw [6, 12] (fun o i wr => ∃ (k : Nat) (A : Option Addr) (c : Nat), k ≤ 8 ∧ i = .int .i64 k ∧ o = .slice A (k * 512) c ∧ OwnY wr w.heap.size (.slice A (k * 512) c) (pgTo bs n k) ∧ Below w.heap.size w wr) (fun _ i _ => 8 - (intOf i).toNat)
  case atStart => exact ⟨0, none, 0, by omega, rfl, by rw [Nat.zero_mul], by rw [pgTo_zero, Nat.zero_mul]; exact OwnY.nil _ _, Below.refl _ _⟩
  case round =>
    obtain ⟨k, A, c, hk, rfl, rfl, hO, hB⟩ := hrel
    have HS := Lib.hid (H.out.below0 hB)
    have HB := Lib.hid hB
    have HO := Lib.hid hO
    rcases Nat.lt_or_ge k 8 with hlt | hge
    · have hd : wr.cell? ⟨gs, 0, none⟩ = some (.pointer (some ⟨gd, 0, none⟩)) := HS.out.top.cell 0
      have hki : (k : Int) < 8 := by omega
      have hni : (n : Int) < 128 := by omega
      have hcast : (n : Int) * 8 + (k : Int) = ((n * 8 + k : Nat) : Int) := by omega
      have HSL := Lib.hid (sec_len HBs.out (n := n * 8 + k) (by omega))
      have HPL := Lib.hid (pgTo_len HBs.out hn hk)
      clear hB hO
      have HR := Lib.hid (dPeek_in HS.out.disk (n := n * 8 + k) (by omega))
      rw [← hcast] at HR
      clear hcast
      go_wp2_with fail
      refine HR.out.mono ?_
      rintro x w3 ⟨A3, c3, rfl, hO3, hB3⟩
      have HO4 : Hid (w3.ownsRow w.heap.size 5 1 (.slice A (k * 512) c) (k * 512) ((pgTo bs n k).map bv)) := by
        have h0 : w3.ownsRow _ _ _ _ _ _ := OwnY.below HO.out hB3
        rw [HPL.out] at h0
        exact h0
      have HR3 := Lib.hid (OwnY.rd hO3)
      have HL3 : Hid (512 = ((sec bs (n * 8 + k)).map bv).length) := by show _ = _; rw [List.length_map]; exact HSL.out.symm
      have HW3 : Hid (w.heap.size ≤ w3.heap.size) := Nat.le_trans HB.out.size hB3.size
      have hL3 : ((sec bs (n * 8 + k)).map bv).length ≤ 512 := Nat.le_of_eq HL3.out.symm
      have h1 := Lib.hid (oneY (sec bs (n * 8 + k)))
      have HB3 : Hid (Below w.heap.size w w3) := HB.out.trans (hB3.mono HB.out.size)
      have H63 : Hid (k * 512 + ((sec bs (n * 8 + k)).map bv).length ≤ maxLen) := by show _ ≤ _; unfold maxLen; omega
      have HBy : Hid ((k * 512 + ((sec bs (n * 8 + k)).map bv).length) * 1 ≤ 140737488355328) := by show _ ≤ _; omega
      clear hO3 hB3 HR
      go_wp2_with (at_builtin; refine wpList_append_rd rfl (.tmp 15) (.tmp 24) 22 rfl w.heap.size 5 i0 (.int .u8 0) 1 Tryd.underlying22 hi0 hz0 hz1 hz2 rfl (.slice A (k * 512) c) (k * 512) _ rfl HO4.out _ A3 512 c3 _ rfl HL3.out HR3.out h1.out H63.out HBy.out HW3.out ?_; intro v4 w4 hown hg hat)
      have hO5 : OwnY w4 w.heap.size v4 (pgTo bs n (k + 1)) := by
        unfold OwnY
        rw [pgTo_succ, List.map_append, List.length_append, HPL.out, HSL.out]
        rw [← HL3.out] at hown
        exact hown
      obtain ⟨A5, c5, rfl⟩ := hO5.form
      have HPL1 := Lib.hid (pgTo_len HBs.out hn (k := k + 1) (by omega))
      rw [HPL1.out] at hO5 ⊢
      have HF5 : Hid (Below w.heap.size w w4) := HB3.out.grown hg HW3.out fun q hq => (World.ownsRow.lt HO4.out q hq).1
      clear hown hg hat HB3
      go_wp2
      go_roundw
      case rel => exact ⟨k + 1, A5, c5, by omega, by go_num, rfl, hO5, HF5.out⟩
      case measure => simp [intOf]; omega
    · obtain rfl : k = 8 := by omega
      clear hB hO
      go_wp2
      go_ret2
      exact ⟨A, c, rfl, HO.out, HB.out⟩
end

/-- Slots of a call's own: which are in use, and what pages they have. -/
structure SlRun (w0 w : World) (S : Nat → Prop) (gs gd gl gb g gw : Nat) (l : List Bool) (a many : Nat) (pg : Nat → List UInt8) (f : Nat → Bool) : Prop where
  is_ : ∃ bs, SlAt w S gs gd gl gb g gw l a many bs f ∧ ∀ k, k < many → f k = true → pageOf bs k = pg k
  new : ∀ k, SlB S gs gd gb g gw k → w0.heap.size ≤ k
  below : Below w0.heap.size w0 w
def updP (pg : Nat → List UInt8) (n : Nat) (p : List UInt8) : Nat → List UInt8 := fun k => if k = n then p else pg k
section
variable {w0 w w' : World} {S : Nat → Prop} {gs gd gl gb g gw a many : Nat} {l : List Bool} {pg : Nat → List UInt8} {f : Nat → Bool}
theorem SlRun.new_gl (h : SlRun w0 w S gs gd gl gb g gw l a many pg f) : w0.heap.size ≤ gl := by
  obtain ⟨bs, hS, _⟩ := h.is_
  exact h.new gl (.inl (DiskAt.self hS.disk))
theorem SlRun.newW (h : SlRun w0 w S gs gd gl gb g gw l a many pg f) : ∀ k, SlW gl gb g gw k → w0.heap.size ≤ k := fun k hk => by
  rcases hk with rfl | rfl | rfl | rfl
  · exact h.new_gl
  · exact h.new _ (.inr (.inr (.inl rfl)))
  · exact h.new _ (.inr (.inr (.inr (.inr (.inl rfl)))))
  · exact h.new _ (.inr (.inr (.inr (.inr (.inr rfl)))))
theorem SlRun.below0 (h : SlRun w0 w S gs gd gl gb g gw l a many pg f) (hb : Below w.heap.size w w') : SlRun w0 w' S gs gd gl gb g gw l a many pg f := by
  obtain ⟨bs, hS, hp⟩ := h.is_
  exact ⟨⟨bs, hS.below0 hb, hp⟩, h.new, h.below.trans (hb.mono h.below.size)⟩
theorem SlRun.drewN (h : SlRun w0 w S gs gd gl gb g gw l a many pg f) (n : Nat) : SlRun w0 (w.drewN n) S gs gd gl gb g gw l a many pg f := by
  obtain ⟨bs, hS, hp⟩ := h.is_
  exact ⟨⟨bs, hS.drewN n, hp⟩, h.new, ⟨h.below.os, h.below.tape, h.below.output, h.below.size, h.below.block⟩⟩
theorem SlRun.lt (h : SlRun w0 w S gs gd gl gb g gw l a many pg f) : ∀ k, SlB S gs gd gb g gw k → k < w.heap.size := by
  obtain ⟨bs, hS, _⟩ := h.is_
  exact hS.lt
/-- What turned lies apart from the slots. -/
theorem SlRun.far {R : Nat → Prop} (h : SlRun w0 w S gs gd gl gb g gw l a many pg f) (hf : Fr R w w') (hR : ∀ k, R k → w0.heap.size ≤ k ∧ ¬ SlB S gs gd gb g gw k) : SlRun w0 w' S gs gd gl gb g gw l a many pg f := by
  obtain ⟨bs, hS, hp⟩ := h.is_
  exact ⟨⟨bs, hS.fr hf fun k hk hr => (hR k hr).2 hk, hp⟩, h.new, h.below.trans (hf.below h.below.size fun k hk hr => by have := (hR k hr).1; omega)⟩
theorem SlRun.tab (h : SlRun w0 w S gs gd gl gb g gw l a many pg f) (hT : Tab w0) : Tab w := hT.below h.below hT.lt
theorem SlRun.many_le (h : SlRun w0 w S gs gd gl gb g gw l a many pg f) : many ≤ 128 := by
  obtain ⟨bs, hS, _⟩ := h.is_
  have := DiskAt.le' hS.disk
  omega
theorem slNew_run {B : Nat} {A : Option Addr} {c : Nat} (hA : RdB w B A l) (hB : B ≤ w.heap.size) (hl : l.length ≤ 140737488351232) (many : Nat) (hm : many ≤ 128) (pg : Nat → List UInt8) :
    Calls Tryd.prog 23 #[.int .i64 many, .slice A l.length c] w fun e w' => ∃ S gs gd gl gb g gw, e = .returned (.tuple #[.pointer (some ⟨gs, 0, none⟩), .int .i64 0]) ∧ SlRun w w' S gs gd gl gb g gw l 0 many pg (fun _ => false) :=
  (slNew hA hB hl many hm).mono fun e w' ⟨S, gs, gd, gl, gb, g, gw, h1, h2, h3, h4⟩ => ⟨S, gs, gd, gl, gb, g, gw, h1, ⟨_, h2, fun _ _ h => by cases h⟩, h3, h4⟩
theorem SlRun.putFull (h : SlRun w0 w S gs gd gl gb g gw l a many pg f) (hc : cntB f many = many) (A : Option Addr) (c : Nat) : Calls Tryd.prog 24 #[.pointer (some ⟨gs, 0, none⟩), .slice A 4096 c] w fun e w' => e = .returned (.tuple #[.int .i64 0, .int .i64 11]) ∧ w = w' := by
  obtain ⟨bs, hS, _⟩ := h.is_
  exact slPut_full hS hc A c
/-- Put, where there is room. -/
theorem SlRun.put (h : SlRun w0 w S gs gd gl gb g gw l a many pg f) (hT : Tab w0) (hl : l.length ≤ 1000000) (ha : a ≤ 900000) {A : Option Addr} {B c : Nat} {p : List UInt8} (hA : RdY w B A p) (hB : B ≤ w.heap.size) (hp : p.length = 4096) (hc : 4096 ≤ c)
    (hne : ∀ ad, A = some ad → ¬ SlB S gs gd gb g gw ad.block) {n : Nat} (hn : n < many) (hf : f n = false) (hlow : ∀ j, j < n → f j = true) :
    Calls Tryd.prog 24 #[.pointer (some ⟨gs, 0, none⟩), .slice A 4096 c] w fun e w' =>
      (bad8 l a = true → e = .returned (.tuple #[.int .i64 0, .int .i64 12]) ∧ SlRun w0 w' S gs gd gl gb g gw l (a + cnt8 l a) many pg f) ∧
      (bad8 l a = false → e = .returned (.tuple #[.int .i64 n, .int .i64 0]) ∧ SlRun w0 w' S gs gd gl gb g gw l (a + cnt8 l a) many (updP pg n p) (updB f n true)) ∧
      Fr (SlW gl gb g gw) w w' := by
  obtain ⟨bs, hS, hpg⟩ := h.is_
  have hbs := DiskAt.len hS.disk
  obtain ⟨ad, rfl, _, _⟩ := hA.at_ (k := 0) (by omega)
  obtain ⟨pb, po, s⟩ := ad
  obtain rfl := hA.spot' (by omega)
  refine (slPut_go hS (h.tab hT) hl ha hA hB hp hc (hne _ rfl) hn hf hlow).mono ?_
  rintro e w' ⟨h1, h2, hF⟩
  have hb : Below w0.heap.size w0 w' := h.below.trans (hF.below h.below.size fun k hk hr => by have := h.newW k hr; omega)
  refine ⟨fun hbad => ?_, fun hok => ?_, hF⟩
  · obtain ⟨k, hk⟩ := Option.isSome_iff_exists.1 hbad
    obtain ⟨e1, hS'⟩ := h1 k hk
    rw [(bad8_some hk).2]
    refine ⟨e1, ⟨_, hS', fun q hq hfq => ?_⟩, h.new, hb⟩
    have hqn : q ≠ n := fun e => by rw [e, hf] at hfq; cases hfq
    rw [page_other hbs hn hp (by have := ask8_lt hk; omega) hqn]
    exact hpg q hq hfq
  · have hnone : ask8 l a 8 = none := by
      cases hx : ask8 l a 8
      · rfl
      · rw [(bad8_some hx).1] at hok; cases hok
    obtain ⟨e1, hS'⟩ := h2 hnone
    rw [(bad8_none hnone).2]
    refine ⟨e1, ⟨_, hS', fun q hq hfq => ?_⟩, h.new, hb⟩
    unfold updP
    by_cases e : q = n
    · subst e
      rw [if_pos rfl, page_new hbs hn hp]
    · rw [if_neg e, page_other hbs hn hp (by omega) e]
      exact hpg q hq (by unfold updB at hfq; rwa [if_neg e] at hfq)
theorem SlRun.pageNo (h : SlRun w0 w S gs gd gl gb g gw l a many pg f) {n : Int} (hn : (mayB many n && f n.toNat) = false) : Calls Tryd.prog 26 #[.pointer (some ⟨gs, 0, none⟩), .int .i64 n] w fun e w' => e = .returned (.tuple #[.slice none 0 0, .int .i64 6]) ∧ w = w' := by
  obtain ⟨bs, hS, _⟩ := h.is_
  exact slPage_no hS hn
theorem SlRun.page (h : SlRun w0 w S gs gd gl gb g gw l a many pg f) (hl : l.length ≤ 1000000) (ha : a ≤ 900000) {n : Nat} (hn : n < many) (hf : f n = true) :
    Calls Tryd.prog 26 #[.pointer (some ⟨gs, 0, none⟩), .int .i64 n] w fun e w' =>
      (bad8 l a = true → e = .returned (.tuple #[.slice none 0 0, .int .i64 12])) ∧
      (bad8 l a = false → (pg n).length = 4096 ∧ ∃ A' c', e = .returned (.tuple #[.slice A' 4096 c', .int .i64 0]) ∧ OwnY w' w.heap.size (.slice A' 4096 c') (pg n)) ∧
      SlRun w0 w' S gs gd gl gb g gw l (a + cnt8 l a) many pg f ∧ Fr (· = gl) w w' := by
  obtain ⟨bs, hS, hpg⟩ := h.is_
  have hbs := DiskAt.len hS.disk
  refine (slPage_go hS hl ha hn hf).mono ?_
  rintro e w' ⟨h1, h2, hF⟩
  have hb : Below w0.heap.size w0 w' := h.below.trans (hF.below h.below.size fun k hk hr => by have := h.new_gl; have : k = gl := hr; omega)
  cases hx : ask8 l a 8 with
  | some k =>
    obtain ⟨e1, e2⟩ := bad8_some hx
    obtain ⟨e3, hS'⟩ := h1 k hx
    rw [e1, e2]
    exact ⟨fun _ => e3, fun h => (by cases h), ⟨⟨_, hS', hpg⟩, h.new, hb⟩, hF⟩
  | none =>
    obtain ⟨e1, e2⟩ := bad8_none hx
    obtain ⟨A', c', e3, hO, hS'⟩ := h2 hx
    rw [e1, e2]
    rw [hpg n hn hf] at hO
    refine ⟨fun h => (by cases h), fun _ => ⟨?_, A', c', e3, hO⟩, ⟨⟨_, hS', hpg⟩, h.new, hb⟩, hF⟩
    rw [← hpg n hn hf]
    exact pgTo_len hbs hn (Nat.le_refl _)
theorem SlRun.lookNo (h : SlRun w0 w S gs gd gl gb g gw l a many pg f) {n : Int} (hn : (mayB many n && f n.toNat) = false) : Calls Tryd.prog 31 #[.pointer (some ⟨gs, 0, none⟩), .int .i64 n] w fun e w' => e = .returned (.tuple #[.slice none 0 0, .bool false]) ∧ w = w' := by
  obtain ⟨bs, hS, _⟩ := h.is_
  exact slLook_no hS hn
theorem SlRun.look (h : SlRun w0 w S gs gd gl gb g gw l a many pg f) {n : Nat} (hn : n < many) (hf : f n = true) :
    Calls Tryd.prog 31 #[.pointer (some ⟨gs, 0, none⟩), .int .i64 n] w fun e w' => ∃ A' c', e = .returned (.tuple #[.slice A' 4096 c', .bool true]) ∧ OwnY w' w.heap.size (.slice A' 4096 c') (pg n) ∧ (pg n).length = 4096 ∧ Below w.heap.size w w' := by
  obtain ⟨bs, hS, hpg⟩ := h.is_
  have hbs := DiskAt.len hS.disk
  rw [← hpg n hn hf]
  exact (slLook_go hS hn hf).mono fun e w' ⟨A', c', h1, h2, h3⟩ => ⟨A', c', h1, h2, pgTo_len hbs hn (Nat.le_refl _), h3⟩
theorem SlRun.dropNo (h : SlRun w0 w S gs gd gl gb g gw l a many pg f) {n : Int} (hn : (mayB many n && f n.toNat) = false) : Calls Tryd.prog 30 #[.pointer (some ⟨gs, 0, none⟩), .int .i64 n] w fun e w' => e = .returned (.bool false) ∧ w = w' := by
  obtain ⟨bs, hS, _⟩ := h.is_
  exact slDrop_no hS hn
theorem SlRun.drop (h : SlRun w0 w S gs gd gl gb g gw l a many pg f) {n : Nat} (hn : n < many) (hf : f n = true) : Calls Tryd.prog 30 #[.pointer (some ⟨gs, 0, none⟩), .int .i64 n] w fun e w' => e = .returned (.bool true) ∧ SlRun w0 w' S gs gd gl gb g gw l a many pg (updB f n false) ∧ Fr (SlW gl gb g gw) w w' := by
  obtain ⟨bs, hS, hpg⟩ := h.is_
  refine (slDrop_yes hS hn hf).mono ?_
  rintro e w' ⟨h1, h2, hF⟩
  have hF2 : Fr (SlW gl gb g gw) w w' := hF.mono fun k _ hk => .inr (.inr hk)
  refine ⟨h1, ⟨⟨_, h2, fun q hq hfq => hpg q hq ?_⟩, h.new, h.below.trans (hF2.below h.below.size fun k hk hr => by have := h.newW k hr; omega)⟩, hF2⟩
  unfold updB at hfq
  split at hfq
  · cases hfq
  · exact hfq
theorem SlRun.in_ (h : SlRun w0 w S gs gd gl gb g gw l a many pg f) (n : Int) : Calls Tryd.prog 32 #[.pointer (some ⟨gs, 0, none⟩), .int .i64 n] w fun e w' => e = .returned (.bool (mayB many n && f n.toNat)) ∧ w = w' := by
  obtain ⟨bs, hS, _⟩ := h.is_
  exact slIn hS n
theorem SlRun.used (h : SlRun w0 w S gs gd gl gb g gw l a many pg f) : Calls Tryd.prog 29 #[.pointer (some ⟨gs, 0, none⟩)] w fun e w' => e = .returned (.int .i64 (cntB f many)) ∧ w = w' := by
  obtain ⟨bs, hS, _⟩ := h.is_
  exact slUsed hS
theorem SlRun.slots (h : SlRun w0 w S gs gd gl gb g gw l a many pg f) : Calls Tryd.prog 33 #[.pointer (some ⟨gs, 0, none⟩)] w fun e w' => e = .returned (.int .i64 many) ∧ w = w' := by
  obtain ⟨bs, hS, _⟩ := h.is_
  exact slSlots hS
end
end Go.Proofs.YtcbfaahnhdmagaaDoor
