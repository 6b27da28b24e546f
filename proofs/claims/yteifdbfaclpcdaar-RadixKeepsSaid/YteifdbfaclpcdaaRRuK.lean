/- Radix: the document's lists: At, keys. -/
import Derived.Test.YteifdbfaclpcdaaRRuJ
namespace Go.Proofs.YteifdbfaclpcdaaR.Ru
open Go.RowKit

theorem off_z (g k : Nat) : ((⟨g, 0, none⟩ : Addr).add k) = ⟨g, k, none⟩ := by unfold Addr.add; split <;> simp_all
abbrev Ks := List (Nat × Value)
def kCells (L : Ks) : List Value := L.flatMap fun e => [Value.int .i64 (e.1 : Int), e.2]
theorem kCells_len (L : Ks) : (kCells L).length = L.length * 2 := pair_len _ _ _
theorem kCells_take (L : Ks) (k : Nat) : (kCells L).take (k * 2) = kCells (L.take k) := by
  induction L generalizing k with
  | nil => simp [kCells]
  | cons r rs ih =>
    rcases k with _ | k
    · simp [kCells]
    · rw [show (k + 1) * 2 = k * 2 + 1 + 1 by omega]
      simpa [kCells] using ih k
theorem kCells_drop (L : Ks) (k : Nat) : (kCells L).drop (k * 2) = kCells (L.drop k) := by
  induction L generalizing k with
  | nil => simp [kCells]
  | cons r rs ih =>
    rcases k with _ | k
    · simp [kCells]
    · rw [show (k + 1) * 2 = k * 2 + 1 + 1 by omega]
      simpa [kCells] using ih k
theorem kCells_app (a b : Ks) : kCells (a ++ b) = kCells a ++ kCells b := by simp [kCells]
def KOk (L : Ks) : Prop := ∀ e ∈ L, VOk e.2
theorem kOne {L : Ks} (h : KOk L) : ∀ u ∈ kCells L, u.oneCell' = true := by
  intro u hu
  unfold kCells at hu
  rw [List.mem_flatMap] at hu
  obtain ⟨e, he, hu⟩ := hu
  obtain ⟨n, hn⟩ := h e he
  simp at hu
  rcases hu with rfl | rfl
  · rfl
  · rw [hn]
    rfl
/-- A slice reads as a list of keys and things. -/
def KRd (w : World) (B : Nat) (A : Option Addr) (L : Ks) : Prop := ∀ k e, L[k]? = some e → ∃ g o, A = some ⟨g, o, none⟩ ∧ g < B ∧ w.cell? ⟨g, o + k * 2, none⟩ = some (.int .i64 (e.1 : Int)) ∧ w.cell? ⟨g, o + k * 2 + 1, none⟩ = some e.2
/-- A row of the call's own. -/
structure KAt (w : World) (base : Nat) (v : Value) (L : Ks) : Prop where
  row : w.ownsRow base 80 2 v L.length (kCells L)
  ok : KOk L
section
variable {w w' : World} {base B B' n c : Nat} {v : Value} {A : Option Addr} {L : Ks}
theorem KRd.keep (h : KRd w B A L) (hk : ∀ p : Addr, p.block < B → w'.cell? p = w.cell? p) : KRd w' B A L := fun k e he => by
  obtain ⟨g, o, e1, hb, h1, h2⟩ := h k e he
  exact ⟨g, o, e1, hb, (hk _ hb).trans h1, (hk _ hb).trans h2⟩
theorem KRd.below (h : KRd w B A L) (hb : Below B w w') : KRd w' B A L := h.keep fun _ hp => hb.cell hp
theorem KRd.take (h : KRd w B A L) (k : Nat) : KRd w B A (L.take k) := fun j e he => by
  rw [List.getElem?_take] at he
  split at he
  · exact h j e he
  · cases he
theorem KRd.more (h : KRd w B A L) (hB : B ≤ B') : KRd w B' A L := fun k e he => by
  obtain ⟨g, o, e1, hb, h1⟩ := h k e he
  exact ⟨g, o, e1, by omega, h1⟩
theorem KRd.below' {D : Nat} (h : KRd w B A L) (hb : Below D w w') (hD : B ≤ D) : KRd w' B A L := h.keep fun _ hp => hb.cell (by omega)
theorem KAt.form (h : KAt w base v L) : ∃ A c, v = .slice A L.length c := owns_form h.row
theorem KAt.cap (h : KAt w base (.slice A n c) L) : n = L.length ∧ L.length ≤ c := by
  rcases h.row.2 with ⟨hv, h0⟩ | ⟨g, cap, cur, hv, _, _, hnc, _⟩
  · injection hv
    omega
  · injection hv with h1 h2 h3
    omega
theorem KAt.rd (h : KAt w base (.slice A n c) L) : Rd w w.heap.size A (kCells L) := by
  intro k u hu
  have hk := (List.getElem?_eq_some_iff.1 hu).1
  have hl := kCells_len L
  obtain ⟨g, cap, hv, _, hlt⟩ := h.row.form (by omega)
  have hA : A = some ⟨g, 0, none⟩ := by injection hv
  subst hA
  exact ⟨_, rfl, hlt, h.row.cells (g := g) rfl k u hu⟩
theorem KAt.krd (h : KAt w base (.slice A n c) L) : KRd w w.heap.size A L := by
  intro k e he
  have hk := (List.getElem?_eq_some_iff.1 he).1
  obtain ⟨g, cap, hv, _, hlt⟩ := h.row.form (by omega)
  have hA : A = some ⟨g, 0, none⟩ := by injection hv
  subst hA
  have hp := pair_get (fun r : Nat × Value => Value.int .i64 (r.1 : Int)) (fun r : Nat × Value => r.2) L k
  rw [he] at hp
  obtain ⟨_, e1, _, c1⟩ := h.rd _ _ hp.1
  obtain ⟨_, e2, _, c2⟩ := h.rd _ _ hp.2
  injection e1 with e1
  injection e2 with e2
  subst e1
  rw [← e2, off_z] at c2
  rw [off_z] at c1
  exact ⟨g, 0, rfl, hlt, by simpa using c1, by simpa using c2⟩
theorem KAt.fr {R : Nat → Prop} (h : KAt w base v L) (hf : Fr R w w') (hR : ∀ k, base ≤ k → k < w.heap.size → (∃ cs, Bk w k 80 cs) → ¬ R k) : KAt w' base v L := by
  refine ⟨owns_same h.row fun k hk => ?_, h.ok⟩
  have hl := World.ownsRow.lt h.row k hk
  refine hf.block k hl.2 (hR k hl.1 hl.2 ?_)
  rcases h.row.2 with ⟨rfl, _⟩ | ⟨g', cap, cur, rfl, _, hh, _⟩
  · simp [Value.ownBlock] at hk
  · have : g' = k := by simpa [Value.ownBlock] using hk
    subst this
    exact ⟨cur, hh⟩
theorem KAt.below (h : KAt w base v L) (hb : Below w.heap.size w w') : KAt w' base v L := h.fr (R := fun _ => False) (Fr.of_below0 hb) fun _ _ _ _ => id
theorem KAt.nil (w : World) (base : Nat) : KAt w base (.slice none 0 0) [] := ⟨World.ownsRow_nil _ _ _ _, fun r hr => by cases hr⟩
theorem KAt.weaken {base' : Nat} (h : KAt w base v L) (hb : base' ≤ base) : KAt w base' v L := ⟨owns_weaken h.row hb, h.ok⟩
end

/-- What At tells. -/
def AtPost (w : World) (L : Ks) (key : Int) (e : Ending) (w' : World) : Prop := ∃ (n : Nat) (b : Bool), e = .returned (.tuple #[.int .i64 (n : Int), .bool b]) ∧ AtIs L key n b ∧ ∃ m, w' = w.drewN m
set_option maxRecDepth 100000 in
theorem kAt {w : World} {B : Nat} {A : Option Addr} {c : Nat} {L : Ks} (h : KRd w B A L) (hl : L.length ≤ 1000) (key : Int) :
    Calls Try.prog 29 #[.slice A L.length c, .int .i64 key] w (AtPost w L key) := by
  have HA := Lib.hid h
  clear h
  go_enter Try.func29, Try.ntmps29
  go_wp2
  go_loop [6] (fun i => ∃ k : Nat, k ≤ L.length ∧ i = .int .i64 k ∧ Hid (∀ j e, j < k → L[j]? = some e → (e.1 : Int) < key)) (fun i => L.length - (intOf i).toNat)
  case atStart => exact ⟨0, Nat.zero_le _, rfl, fun j e h => by omega⟩
  case round =>
    obtain ⟨k, hk, rfl, HJ⟩ := hrel
    rcases Nat.lt_or_ge k L.length with hlt | hge
    · have he : L[k]? = some L[k] := by simp [hlt]
      obtain ⟨g, o, rfl, hg, c1, c2⟩ := HA.out _ _ he
      have HE := Lib.hid he
      generalize L[k] = e at *
      obtain ⟨ek, ev⟩ := e
      simp only at c1 c2
      by_cases hkk : key ≤ ek
      · obtain ⟨b, hb⟩ : ∃ b : Bool, b = ((ek : Int) == key) := ⟨_, rfl⟩
        have HI : Hid (AtIs L key k b) := ⟨by omega, HJ.out, fun e' he' => by
          rw [HE.out] at he'
          injection he' with he'
          subst he'
          exact ⟨hkk, by rw [hb]; rfl⟩, fun hn => by rw [HE.out] at hn; cases hn⟩
        clear he HJ
        have hb' := hb.symm
        clear hb
        go_upto_region 5 with fail
        go_quiet (fail)
        go_wp2
        go_ret2
        exact ⟨k, b, rfl, HI.out, _, rfl⟩
      · have HJ2 : Hid (∀ j e, j < k + 1 → L[j]? = some e → (e.1 : Int) < key) := fun j e hj hje => by
          rcases Nat.lt_or_ge j k with h1 | h1
          · exact HJ.out j e h1 hje
          · obtain rfl : j = k := by omega
            rw [HE.out] at hje
            injection hje with hje
            subst hje
            simp only
            omega
        clear he HJ
        go_wp2
        go_round
        case rel => exact ⟨k + 1, by omega, by go_num, HJ2⟩
        case measure => simp [intOf]; omega
    · obtain rfl : k = L.length := by omega
      go_wp2
      go_ret2
      exact ⟨L.length, false, rfl, ⟨Nat.le_refl _, HJ.out, fun e he => by simp at he, fun _ => rfl⟩, 0, rfl⟩

theorem k_parts : ∃ iW zW, Try.prog.info? 80 = some iW ∧ iW.zero = some zW ∧ iW.size = 2 ∧ iW.bytes = 16 ∧ zW.cells.size = 2 := by
  have h : (Try.prog.info? 80).map (fun i => (i.size, i.bytes, i.zero.map (·.cells.size))) = some (2, 16, some 2) := by kernel_rfl
  cases hi : Try.prog.info? 80 with
  | none => rw [hi] at h; cases h
  | some i =>
    rw [hi] at h
    simp only [Option.map_some, Option.some.injEq, Prod.mk.injEq] at h
    cases hz : i.zero with
    | none => rw [hz] at h; simp at h
    | some z =>
      rw [hz] at h
      exact ⟨i, z, rfl, hz, h.1, h.2.1, by simpa using h.2.2⟩
theorem run_frontK {w : World} {A : Option Addr} {n c k : Nat} (h : k ≤ c) : (Instr.slice 41 (.slice A n c) none (some (.int .i64 (k : Int))) none).run Try.prog w = .ok (.slice A k c) w := by
  have hi8 : Try.prog.elem 41 = 80 := by kernel_rfl
  rw [run_slice_h w 41 A n c (by rw [hi8]; exact Try.underlying41) .i64 (k : Int) (by omega) (by omega), hi8]
  have hs : (sizeOf 80).run Try.prog w = .ok 2 w := by kernel_rfl
  rw [hs]
  have e : A.map (·.add 0) = A := by
    cases A with
    | none => rfl
    | some a => simp [Addr.add]
  simp only [Result.andThen_ok, sliced, Int.toNat_natCast, Nat.zero_mul, e, Nat.sub_zero, ite_self]
theorem run_backK {A : Option Addr} {n c k : Nat} (h : k ≤ n) (hc : n ≤ c) {lo : Int} (hlo : lo = k) : ∃ (A' : Option Addr) (c' : Nat), (∀ w, (Instr.slice 41 (.slice A n c) (some (.int .i64 lo)) none none).run Try.prog w = .ok (.slice A' (n - k) c') w) ∧ (∀ w B xs, xs.length = n * 2 → Rd w B A xs → Rd w B A' (xs.drop (k * 2))) ∧ (∀ w B L, L.length = n → KRd w B A L → KRd w B A' (L.drop k)) ∧ n - k ≤ c' := by
  refine ⟨if c = k then A else A.map (·.add (k * 2)), c - k, fun w => ?_, fun w B xs hxs hr => ?_, fun w B L hL hr => ?_, by omega⟩
  · have hi8 : Try.prog.elem 41 = 80 := by kernel_rfl
    rw [run_slice_l w 41 A n c (by rw [hi8]; exact Try.underlying41) .i64 lo (by omega) (by omega), hi8]
    have hs : (sizeOf 80).run Try.prog w = .ok 2 w := by kernel_rfl
    rw [hs]
    have e : lo.toNat = k := by omega
    simp only [Result.andThen_ok, sliced, e]
  · split
    · have : xs.drop (k * 2) = [] := List.drop_eq_nil_of_le (by omega)
      rw [this]
      exact Rd.nil _ _ _
    · exact hr.drop _
  · split
    · have : L.drop k = [] := List.drop_eq_nil_of_le (by omega)
      rw [this]
      exact fun k e he => by simp at he
    · intro j e he
      rw [List.getElem?_drop] at he
      obtain ⟨g, o, rfl, hg, h1, h2⟩ := hr _ _ he
      refine ⟨g, o + k * 2, ?_, hg, ?_, ?_⟩
      · simp only [Option.map_some, Addr.add]
        split
        · rename_i h0
          simp [h0]
        · rfl
      · rw [show o + k * 2 + j * 2 = o + (k + j) * 2 by omega]
        exact h1
      · rw [show o + k * 2 + j * 2 + 1 = o + (k + j) * 2 + 1 by omega]
        exact h2
end Go.Proofs.YteifdbfaclpcdaaR.Ru
