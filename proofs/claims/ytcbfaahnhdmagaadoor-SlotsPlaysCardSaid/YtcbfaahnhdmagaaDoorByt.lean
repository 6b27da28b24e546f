/- Slices of bytes, as lists. -/
import Derived.Test.YtcbfaahnhdmagaaDoorProg
import Derived.Test.YtcbfaahnhdmagaaDoorGy
import Derived.BigQuiet
import Derived.Deep.QuietTactic
import Derived.Laws.IdiomStrings
import Derived.Laws.BytesArg
import Derived.IntWalk
import Derived.Lib.SlBytesConst
namespace Go.Proofs.YtcbfaahnhdmagaaDoor
open Go.RowKit

/-- A byte, as a value. -/
def bv (x : UInt8) : Value := .int .u8 (x.toNat : Int)
theorem oneY (l : List UInt8) : ∀ u ∈ l.map bv, u.oneCell' = true := by
  intro u hu
  obtain ⟨b, _, rfl⟩ := List.mem_map.1 hu
  rfl
theorem bv_eq (x y : UInt8) : ((x.toNat : Int) == (y.toNat : Int)) = (x == y) := by
  rw [Bool.eq_iff_iff]
  simp only [beq_iff_eq]
  exact ⟨fun h => UInt8.toNat.inj (by omega), fun h => by rw [h]⟩
theorem byte_le (x : UInt8) : x.toNat ≤ 255 := by have := x.toNat_lt; omega
/-- A slice of bytes. -/
def RdY (w : World) (B : Nat) (A : Option Addr) (l : List UInt8) : Prop := Rd w B A (l.map bv)
section
variable {w w' : World} {B : Nat} {A : Option Addr} {l : List UInt8}
theorem RdY.at_ (h : RdY w B A l) {k : Nat} (hk : k < l.length) : ∃ ad, A = some ad ∧ ad.block < B ∧ w.cell? (ad.add k) = some (.int .u8 ((l[k]?.getD 0).toNat : Int)) := by
  obtain ⟨ad, e, hb, hc⟩ := h k (bv (l[k]?.getD 0)) (by simp [hk])
  exact ⟨ad, e, hb, hc⟩
theorem RdY.cell {ad : Addr} (h : RdY w B (some ad) l) {k : Nat} (hk : k < l.length) : w.cell? (ad.add k) = some (.int .u8 ((l[k]?.getD 0).toNat : Int)) := by
  obtain ⟨ad', e, _, hc⟩ := h.at_ hk
  injection e with e
  subst e
  exact hc
theorem RdY.below (h : RdY w B A l) (hb : Below B w w') : RdY w' B A l := Rd.below h hb
theorem RdY.below' {D : Nat} (h : RdY w B A l) (hb : Below D w w') (hD : B ≤ D) : RdY w' B A l := Rd.below' h hb hD
theorem RdY.drewN (h : RdY w B A l) (n : Nat) : RdY (w.drewN n) B A l := h
theorem RdY.take (h : RdY w B A l) (k : Nat) : RdY w B A (l.take k) := by
  have := Rd.take h k
  rwa [← List.map_take] at this
theorem RdY.drop (h : RdY w B A l) (k : Nat) : RdY w B (A.map (·.add k)) (l.drop k) := by
  have := Rd.drop h k
  rwa [← List.map_drop] at this
theorem RdY.nil (w : World) (B : Nat) (A : Option Addr) : RdY w B A [] := Rd.nil w B A
theorem RdY.more {B' : Nat} (h : RdY w B A l) (hB : B ≤ B') : RdY w B' A l := Rd.more h hB
end
theorem u8_info : (Tryd.prog.info? 5).map (fun i => (i.zero, i.size, i.bytes)) = some (some (.int .u8 0), 1, 1) := by kernel_rfl

/-- Bytes that the call owns. -/
def OwnY (w : World) (base : Nat) (v : Value) (l : List UInt8) : Prop := w.ownsRow base 5 1 v l.length (l.map bv)
section
variable {w w' : World} {base : Nat} {v : Value} {l : List UInt8}
theorem OwnY.form (h : OwnY w base v l) : ∃ A c, v = .slice A l.length c := by
  rcases h.2 with ⟨hn, hv⟩ | ⟨g, cap, cur, rfl, _⟩
  · simp at hv
    subst hv
    exact ⟨_, _, hn⟩
  · exact ⟨_, _, rfl⟩
theorem OwnY.rd {A : Option Addr} {n c : Nat} (h : OwnY w base (.slice A n c) l) : RdY w w.heap.size A l := by
  have hn : n = l.length := by
    obtain ⟨A', c', e⟩ := h.form
    injection e
  subst hn
  exact Rd.of_own h
theorem OwnY.same (h : OwnY w base v l) (hk : ∀ k, v.ownBlock = some k → w'.heap[k]? = w.heap[k]?) : OwnY w' base v l := owns_same h hk
theorem OwnY.weaken {base' : Nat} (h : OwnY w base v l) (hb : base' ≤ base) : OwnY w base' v l := owns_weaken h hb
theorem OwnY.lt (h : OwnY w base v l) {k : Nat} (hk : v.ownBlock = some k) : base ≤ k ∧ k < w.heap.size := World.ownsRow.lt h k hk
theorem OwnY.below (h : OwnY w base v l) (hb : Below w.heap.size w w') : OwnY w' base v l := h.same fun k hk => hb.block k (h.lt hk).2
theorem OwnY.at_ {A : Option Addr} {n c : Nat} (h : OwnY w base (.slice A n c) l) (hl : 0 < l.length) : ∃ g, A = some ⟨g, 0, none⟩ ∧ base ≤ g ∧ g < w.heap.size ∧ l.length ≤ c ∧ n = l.length ∧ (∀ k, k < l.length → w.cell? ⟨g, k, none⟩ = some (.int .u8 ((l[k]?.getD 0).toNat : Int))) ∧ ∀ k, w.frozen? ⟨g, k, none⟩ = false := by
  rcases h.2 with ⟨_, hv⟩ | ⟨g, cap, cur, hv, hb, hg, hnc, _⟩
  · simp at hv
    subst hv
    simp at hl
  · injection hv with h1 h2 h3
    subst h1 h2 h3
    refine ⟨g, rfl, hb, (World.ownsRow.lt h g rfl).2, hnc, rfl, fun k hk => ?_, fun k => Bk.free hg k⟩
    have := World.ownsRow.cellAt h k (by omega)
    rw [this]
    simp [hk, bv]
theorem OwnY.nil (w : World) (base : Nat) : OwnY w base (.slice none 0 0) [] := World.ownsRow_nil _ _ _ _
end

/-- A constant's bytes, just made. -/
theorem rd_const (w : World) (l : List UInt8) {n : Nat} (hn : n = w.heap.size) (t : TypeId) (m : Nat × Nat) : RdY (w.alloc (.cells (l.map bv).toArray t m)) (n + 1) (some ⟨n, 0, none⟩) l := by
  subst hn
  intro k u hu
  refine ⟨_, rfl, by simp, ?_⟩
  have e : ((⟨w.heap.size, 0, none⟩ : Addr).add k) = ⟨w.heap.size, k, none⟩ := by unfold Addr.add; split <;> simp_all
  rw [e, World.cell?_alloc_mark]
  simpa using hu
theorem run_const (w : World) (C : Array Value) (n c : Nat) : (convert 22 22 (.slice (some ⟨w.heap.size, 0, none⟩) n c)).run Tryd.prog (w.alloc (.cells C 5)) = .ok (.slice (some ⟨w.heap.size, 0, none⟩) n c) (w.alloc (.cells C 5 (C.size, C.size + 1))) :=
  Lib.run_convert_bytes_const w _ _ C n c Tryd.underlying22 Tryd.underlying5
/-- string(b). -/
theorem run_string {w : World} {B : Nat} {A : Option Addr} {c : Nat} {l : List UInt8} (h : RdY w B A l) : (convert 22 9 (.slice A l.length c)).run Tryd.prog w = .ok (.string ⟨l.toArray⟩) w := by
  rcases A with _ | ad
  · have hl : l = [] := by
      rcases l with _ | ⟨x, r⟩
      · rfl
      · obtain ⟨ad, e, _⟩ := h.at_ (k := 0) (by simp)
        cases e
    subst hl
    exact run_convert_bytes_nil w _ _ Tryd.underlying22 Tryd.underlying5 _ _ _ Tryd.underlying9
  · exact run_convert_bytes_back w _ _ _ ad c l Tryd.underlying22 Tryd.underlying5 Tryd.underlying9 (fun j hj => by
      have := h.cell hj
      rw [this]
      simp [hj])
set_option maxHeartbeats 400000 in
theorem cloneY_none (w : World) (n c : Nat) : Calls Tryd.prog 58 #[.slice none n c] w fun e w' => e = .returned (.slice none 0 0) ∧ w = w' := by
  have hnil := fun (w : World) (a : Option Addr) (n c n' c' : Nat) => Lib.run_eql_slice_nil (P := Tryd.prog) w _ _ a n c n' c' Tryd.underlying22
  go_enter Tryd.func58, Tryd.ntmps58
  go_wp2
  go_ret
  exact ⟨rfl, rfl⟩
set_option maxHeartbeats 400000 in
theorem cloneY_some (w : World) (ad : Addr) (c B : Nat) (l : List UInt8) (hr : RdY w B (some ad) l) (hB : B ≤ w.heap.size) (hn : l.length ≤ 140737488351232) :
    Calls Tryd.prog 58 #[.slice (some ad) l.length c] w fun e w' => ∃ v, e = .returned v ∧ OwnY w' w.heap.size v l ∧ (∃ q, v.ownBlock = some q) ∧ Below w.heap.size w w' := by
  have hnil := fun (w : World) (a : Option Addr) (n c n' c' : Nat) => Lib.run_eql_slice_nil (P := Tryd.prog) w _ _ a n c n' c' Tryd.underlying22
  obtain ⟨i0, hi0, hz0, hz1, hz2⟩ := info_parts u8_info
  have h1 := Lib.hid (oneY l)
  have HR := Lib.hid hr
  clear hr
  go_enter Tryd.func58, Tryd.ntmps58
  have HO := Lib.hid (World.ownsRow_made (base := w.heap.size) (e := 5) (size := 1) w #[] 0 (Nat.le_refl _) (by decide) rfl)
  have HR2 : Hid (Rd (w.alloc (.cells #[] 5)) B (some ad) (l.map bv)) := HR.out.below' ((Below.refl w.heap.size w).alloc (Nat.le_refl _) (.cells #[] 5)) hB
  go_wp2_with (at_builtin; refine wpList_append_rd rfl (.tmp 5) (.tmp 6) 22 rfl w.heap.size 5 i0 (.int .u8 0) 1 Tryd.underlying22 hi0 hz0 hz1 hz2 rfl (.slice (some ⟨w.heap.size, 0, none⟩) 0 0) 0 [] rfl HO.out B (some ad) l.length c (l.map bv) rfl (by simp) HR2.out h1.out (by simp [maxLen]; omega) (by simp; omega) (by simp) ?_; intro v1 w1 hown hg hat)
  go_wp2
  go_ret
  refine ⟨v1, rfl, by simpa [OwnY] using hown, ?_, ((Below.refl _ _).alloc (Nat.le_refl _) _).grown hg (by simp) (fun k hk => by simp [Value.ownBlock] at hk; omega)⟩
  rcases hat with h | h
  · exact ⟨_, h⟩
  · exact ⟨_, h⟩
theorem cloneY_any {w : World} {A : Option Addr} {c B : Nat} {l : List UInt8} (hr : RdY w B A l) (hB : B ≤ w.heap.size) (hn : l.length ≤ 140737488351232) :
    Calls Tryd.prog 58 #[.slice A l.length c] w fun e w' => ∃ A' c', e = .returned (.slice A' l.length c') ∧ OwnY w' w.heap.size (.slice A' l.length c') l ∧ Below w.heap.size w w' := by
  rcases A with _ | ad
  · have hl : l = [] := by
      rcases l with _ | ⟨x, r⟩
      · rfl
      · obtain ⟨ad, e, _⟩ := hr.at_ (k := 0) (by simp)
        cases e
    subst hl
    refine (cloneY_none w _ c).mono ?_
    rintro e w' ⟨rfl, rfl⟩
    exact ⟨_, _, rfl, OwnY.nil _ _, Below.refl _ _⟩
  · refine (cloneY_some w ad c B l hr hB hn).mono ?_
    rintro e w' ⟨v, rfl, h1, _, h2⟩
    obtain ⟨A', c', rfl⟩ := h1.form
    exact ⟨A', c', rfl, h1, h2⟩
set_option maxHeartbeats 400000 in
/-- gunnyref01.Bytes. -/
theorem refBytes_any {w : World} {B B2 : Nat} {A A2 : Option Addr} {c c2 : Nat} {l m : List UInt8} (h : RdY w B A l) (h2 : RdY w B2 A2 m) :
    Calls Tryd.prog 51 #[.slice A l.length c, .slice A2 m.length c2] w fun e w' => e = .returned (.bool (l == m)) ∧ w = w' := by
  have e1 := run_string (c := c) h
  have e2 := run_string (c := c2) h2
  clear h h2
  go_enter Tryd.func51, Tryd.ntmps51
  go_wp2
  go_ret
  exact ⟨rfl, rfl⟩
end Go.Proofs.YtcbfaahnhdmagaaDoor
