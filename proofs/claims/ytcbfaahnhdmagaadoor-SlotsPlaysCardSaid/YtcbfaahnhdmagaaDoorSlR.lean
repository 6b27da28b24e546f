/- Slots: what SlotsKeeps' loop holds. -/
import Derived.Test.YtcbfaahnhdmagaaDoorSlQ
namespace Go.Proofs.YtcbfaahnhdmagaaDoor
open Go.RowKit

def intCells (f : Nat → Int) (n : Nat) : Array Value := ((List.range n).map fun i => Value.int .i64 (f i)).toArray
def updZ (f : Nat → Int) (k : Nat) (v : Int) : Nat → Int := fun i => if i = k then v else f i
theorem intCells_get (f : Nat → Int) {n i : Nat} (hi : i < n) : (intCells f n)[i]? = some (.int .i64 (f i)) := by simp [intCells, hi]
theorem intCells_set (f : Nat → Int) (n k : Nat) (v : Int) : (intCells f n).setIfInBounds k (.int .i64 v) = intCells (updZ f k v) n := by
  apply Array.ext'
  simp only [intCells, List.setIfInBounds_toArray]
  apply List.ext_getElem?
  intro i
  rw [List.getElem?_set]
  simp only [List.length_map, List.length_range, List.getElem?_map, updZ]
  by_cases h1 : k = i
  · subst h1
    by_cases h2 : k < n
    · simp [h2]
    · simp [h2]
  · rw [if_neg h1]
    by_cases h2 : i < n
    · simp [h2, Ne.symm h1]
    · simp [h2]
/-- What a slot has, plus 1; 0: it is not in use. -/
def hasZ (F : Nat → UInt8) (f : Nat → Bool) (k : Nat) : Int := if f k then 1 + ((F k).toNat : Int) else 0
def updU (F : Nat → UInt8) (n : Nat) (x : UInt8) : Nat → UInt8 := fun k => if k = n then x else F k
def pgF (F : Nat → UInt8) : Nat → List UInt8 := fun k => pgL (F k) 4096
theorem hasZ_put (F : Nat → UInt8) (f : Nat → Bool) (n : Nat) (x : UInt8) : updZ (hasZ F f) n (1 + (x.toNat : Int)) = hasZ (updU F n x) (updB f n true) := by
  funext k
  unfold updZ hasZ updU updB
  by_cases e : k = n
  · simp [e]
  · simp [e]
theorem hasZ_drop (F : Nat → UInt8) (f : Nat → Bool) (n : Nat) : updZ (hasZ F f) n 0 = hasZ F (updB f n false) := by
  funext k
  unfold updZ hasZ updB
  by_cases e : k = n
  · simp [e]
  · simp [e]
theorem updP_pgF (F : Nat → UInt8) (n : Nat) (x : UInt8) : updP (pgF F) n (pgL x 4096) = pgF (updU F n x) := by
  funext k
  unfold updP pgF updU
  by_cases e : k = n
  · simp [e]
  · simp [e]
structure KpRun (w0 w : World) (S : Nat → Prop) (gs gd gl gb g gw gh : Nat) (l : List Bool) (a : Nat) (F : Nat → UInt8) (f : Nat → Bool) : Prop where
  sl : SlRun w0 w S gs gd gl gb g gw l a 5 (pgF F) f
  has : Bk w gh 62 (intCells (hasZ F f) 5)
  gh0 : w0.heap.size ≤ gh
  ghX : ¬ SlB S gs gd gb g gw gh
section
variable {w0 w w' : World} {S : Nat → Prop} {gs gd gl gb g gw gh a : Nat} {l : List Bool} {F : Nat → UInt8} {f : Nat → Bool}
theorem SlRun.inW {many : Nat} {pg : Nat → List UInt8} (h : SlRun w0 w S gs gd gl gb g gw l a many pg f) : ∀ k, SlW gl gb g gw k → SlB S gs gd gb g gw k := fun k hk => by
  obtain ⟨bs, hS, _⟩ := h.is_
  rcases hk with rfl | rfl | rfl | rfl
  · exact .inl (DiskAt.self hS.disk)
  · exact .inr (.inr (.inl rfl))
  · exact .inr (.inr (.inr (.inr (.inl rfl))))
  · exact .inr (.inr (.inr (.inr (.inr rfl))))
theorem KpRun.below0 (h : KpRun w0 w S gs gd gl gb g gw gh l a F f) (hb : Below w.heap.size w w') : KpRun w0 w' S gs gd gl gb g gw gh l a F f :=
  ⟨h.sl.below0 hb, h.has.below' hb, h.gh0, h.ghX⟩
theorem KpRun.drewN (h : KpRun w0 w S gs gd gl gb g gw gh l a F f) (n : Nat) : KpRun w0 (w.drewN n) S gs gd gl gb g gw gh l a F f :=
  ⟨h.sl.drewN n, h.has, h.gh0, h.ghX⟩
/-- The slots turned. -/
theorem KpRun.step {a' : Nat} (h : KpRun w0 w S gs gd gl gb g gw gh l a F f) (hS : SlRun w0 w' S gs gd gl gb g gw l a' 5 (pgF F) f) (hF : Fr (SlW gl gb g gw) w w') : KpRun w0 w' S gs gd gl gb g gw gh l a' F f :=
  ⟨hS, h.has.fr hF (fun hx => h.ghX (h.sl.inW _ hx)), h.gh0, h.ghX⟩
/-- .. and what they have is told. -/
theorem KpRun.stepSet {a' : Nat} {F' : Nat → UInt8} {f' : Nat → Bool} {n : Nat} {v : Int} (h : KpRun w0 w S gs gd gl gb g gw gh l a F f) (hS : SlRun w0 w' S gs gd gl gb g gw l a' 5 (pgF F') f') (hF : Fr (SlW gl gb g gw) w w') (hv : updZ (hasZ F f) n v = hasZ F' f') :
    KpRun w0 (w'.setCell ⟨gh, n, none⟩ (.int .i64 v)) S gs gd gl gb g gw gh l a' F' f' := by
  have hb : Bk w' gh _ _ := h.has.fr hF (fun hx => h.ghX (h.sl.inW _ hx))
  refine ⟨hS.far ((Fr.refl (· = gh) w').set ⟨gh, n, none⟩ _ fun _ => rfl) (fun k hk => by subst hk; exact ⟨h.gh0, h.ghX⟩), ?_, h.gh0, h.ghX⟩
  have := hb.set n (.int .i64 v)
  rwa [intCells_set, hv] at this
end
set_option maxRecDepth 100000 in
set_option maxHeartbeats 2000000 in
theorem keeps_great (w : World) (hT : Tab w) (A A2 : Option Addr) (n c c2 : Nat) {L : List Dd} (h : DdsAt w w.heap.size A2 L) (hl : L.length ≤ 9223372036854775807) (hn : n ≤ 9223372036854775807) (hg : 3000 < n ∨ (n ≤ 3000 ∧ greatD L = true)) :
    Calls Tryd.prog 7 #[.slice A n c, .slice A2 L.length c2] w fun e w' => e = .returned (.bool true) ∧ Below w.heap.size w w' := by
  have HL := Lib.hid (slLives hT)
  have HG := Lib.hid (dGreat_any (c := c2) h hl)
  clear hT h
  rcases hg with h5 | ⟨h5, hg⟩
  · have hi : (3000 : Int) < (n : Int) := by omega
    go_enter Tryd.func7, Tryd.ntmps7
    go_wp2_with (go_at_call 22; refine HL.out.mono ?_; rintro e w3 ⟨rfl, hB3⟩)
    go_ret
    exact ⟨rfl, hB3⟩
  · rw [hg] at HG
    clear hg
    go_enter Tryd.func7, Tryd.ntmps7
    go_wp2_with (first
      | (go_at_call 28; refine HG.out.mono ?_; rintro e w2 ⟨rfl, rfl⟩)
      | (go_at_call 22; refine HL.out.mono ?_; rintro e w3 ⟨rfl, hB3⟩))
    go_ret
    exact ⟨rfl, hB3⟩
end Go.Proofs.YtcbfaahnhdmagaaDoor
