/- The walk of gunnylaw07.LuckKeeps. -/
import Derived.Test.YtcbfaahnhdmagaaLuckL
import Derived.Deep.RegionHeld3
namespace Go.Proofs.Ytcbfaahnhdmagaa
open Go.RowKit

set_option maxHeartbeats 1000000 in
theorem luckKeeps_great (w : World) (A : Option Addr) (c : Nat) (l : List Bool) (h : 500 < l.length) :
    Calls Try.prog 3 #[.slice A l.length c] w fun e w' => e = .returned (.bool true) ∧ Below w.heap.size w w' := by
  go_enter Try.func3, Try.ntmps3
  go_wp2_with (go_at_call 9; refine (luckLives _).mono ?_; rintro e w1 ⟨rfl, hb⟩)
  go_ret
  exact ⟨rfl, hb⟩

/-- The first loop: the own copy is flipped, cell by cell. -/
structure KeepsRun (w0 w : World) (S : Nat → Prop) (g : Nat) (l : List Bool) (A : Option Addr) (c : Nat) : Prop where
  run : LuckRun w0 w S g l 0
  own : ∃ xs : List Bool, xs.length = l.length ∧ w.ownsRow w0.heap.size 4 1 (.slice A l.length c) l.length (xs.map Value.bool)
  apart : ∀ k, (Value.slice A l.length c).ownBlock = some k → ¬ S k

theorem KeepsRun.step {w0 w : World} {S : Nat → Prop} {g : Nat} {l : List Bool} {b c : Nat} (h : KeepsRun w0 w S g l (some ⟨b, 0, none⟩) c) (k : Nat) (u : Bool) :
    KeepsRun w0 (w.setCell ⟨b, k, none⟩ (.bool u)) S g l (some ⟨b, 0, none⟩) c := by
  obtain ⟨xs, hx, ho⟩ := h.own
  have hnS : ¬ S b := h.apart b rfl
  have hb : w0.heap.size ≤ b := (World.ownsRow.lt ho b rfl).1
  have hne : ∀ k', S k' → k' ≠ b := fun k' h1 e => hnS (e ▸ h1)
  refine ⟨⟨h.run.at_.keep (by simp [World.setCell]) fun k' hk' => Below.heap_setCell _ _ _ _ (hne k' hk'), h.run.new, h.run.below.setCell hb _⟩, ⟨xs.set k u, by simpa using hx, ?_⟩, h.apart⟩
  have := ho.stored k (.bool u)
  rw [← List.map_set] at this
  exact this.1

set_option maxHeartbeats 2000000 in
theorem luckKeeps_any (w : World) (A : Option Addr) (c : Nat) (l : List Bool) (hA : RdB w w.heap.size A l) (h : l.length ≤ 500) :
    Calls Try.prog 3 #[.slice A l.length c] w fun e w' => e = .returned (.bool true) ∧ Below w.heap.size w w' := by
  have HA := Lib.hid hA
  clear hA
  obtain ⟨i0, hi0, hz0, hz1, hz2⟩ := info_parts bool_info
  have h1 := Lib.hid (oneB l)
  have HO := Lib.hid (World.ownsRow_made (base := w.heap.size) (e := 4) (size := 1) w #[] 0 (Nat.le_refl _) (by decide) rfl)
  have HR2 := Lib.hid (HA.out.below' ((Below.refl w.heap.size w).alloc (Nat.le_refl _) (.cells #[] 4)) (Nat.le_refl _))
  go_enter Try.func3, Try.ntmps3
  go_wp2_with (at_builtin; refine wpList_append_rd rfl (.tmp 11) (.tmp 12) 22 rfl w.heap.size 4 i0 (.bool false) 1 Try.underlying22 hi0 hz0 hz1 hz2 rfl (.slice (some ⟨w.heap.size, 0, none⟩) 0 0) 0 [] rfl HO.out w.heap.size A l.length c (l.map Value.bool) rfl (by simp) HR2.out h1.out (by simp [maxLen]; omega) (by simp; omega) (by simp) ?_; intro v1 w1 hown hg hat)
  have hb1 : Below w.heap.size w w1 := ((Below.refl _ _).alloc (Nat.le_refl _) _).grown hg (by simp) (fun k hk => by simp [Value.ownBlock] at hk; omega)
  simp only [List.length_map, Nat.zero_add, List.nil_append] at hown
  obtain ⟨A1, c1, rfl⟩ := owns_form hown
  have hs1 := hb1.size
  have HO1 := Lib.hid hown
  have HD1 : Hid (RdB w1 w1.heap.size A1 l) := Rd.of_own hown
  clear hg hat hown
  go_wp2_with (go_at_call 10; refine (luckNew_any HD1.out (Nat.le_refl _) (by omega)).mono ?_; rintro e w2 ⟨g, rfl, hL, hB2⟩)
  have hR := LuckRun.start hL hB2
  have hK : KeepsRun w w2 (fun k => w1.heap.size ≤ k ∧ k < w2.heap.size) g l A1 c1 :=
    ⟨⟨hR.at_, fun b hb => Nat.le_trans hs1 hb.1, hb1.trans (hB2.mono hs1)⟩, ⟨l, rfl, owns_same HO1.out (fun k e => hB2.block k (World.ownsRow.lt HO1.out k e).2)⟩,
      fun k e hk => by have := (World.ownsRow.lt HO1.out k e).2; omega⟩
  clear hL hR hB2 HD1 HO1 hs1
  generalize (fun k => w1.heap.size ≤ k ∧ k < w2.heap.size) = S at hK
  go_loopw [5] (fun i wr => ∃ k : Nat, k ≤ l.length ∧ i = .int .i64 k ∧ KeepsRun w wr S g l A1 c1) (fun i _ => l.length - (intOf i).toNat)
  case atStart => exact ⟨0, Nat.zero_le _, rfl, hK⟩
  case round =>
    clear hK hb1
    obtain ⟨k, hk, rfl, hK⟩ := hrel
    rcases Nat.lt_or_ge k l.length with hlt | hge
    · obtain ⟨xs, hx, ho⟩ := hK.own
      obtain ⟨b, c2, hv, _, _⟩ := ho.form (by omega)
      injection hv with hv1 hv2 hv3
      subst hv1
      have hc : wr.cell? ⟨b, k, none⟩ = some (.bool (xs[k]?.getD false)) := by
        have := ho.cellAt k (by omega)
        rw [this]
        simp [hx, hlt]
      have hf := ho.frozenAt k
      have hst := hK.step k (!(xs[k]?.getD false))
      generalize xs[k]?.getD false = u at hc hst
      clear ho hv2 hv3
      go_wp2
      go_roundw
      case rel => exact ⟨k + 1, by omega, by go_num, hst⟩
      case measure => simp [intOf]; omega
    · obtain rfl : k = l.length := by omega
      have hR := hK.run
      clear hK hge hk
      go_wp2
      go_loopw [6] (fun i wr => ∃ k : Nat, k ≤ l.length ∧ i = .int .i64 k ∧ LuckRun w wr S g l k) (fun i _ => l.length - (intOf i).toNat)
      case atStart => exact ⟨0, Nat.zero_le _, rfl, hR⟩
      case round =>
        clear hR
        obtain ⟨k, hk, rfl, hR⟩ := hrel
        have hle := failed_le l k
        rcases Nat.lt_or_ge k l.length with hlt | hge
        · obtain ⟨ad, rfl, hab, hc⟩ := (HA.out.below hR.below).at_ hlt
          generalize hx : l[k]?.getD false = b at hc
          have HF : Hid (∀ w', w'.cell? (ad.add k) = some (.bool b) → Below w.heap.size w w' → LuckRun w w' S g l k → Calls Try.prog 11 #[.pointer (some ⟨g, 0, none⟩)] w' fun e w'' => e = .returned (.bool b) ∧ LuckRun w w'' S g l (k + 1) ∧ w''.cell? (ad.add k) = some (.bool b)) := fun w' hc' hb' hR' => by
            have hF := fails_any hR'.at_ (by omega) (by omega) (by omega)
            rw [hx] at hF
            refine hF.mono fun e w'' ⟨he, h1, h2⟩ => ⟨he, hR'.step (by rw [hx]; exact h1) h2, ?_⟩
            rw [h2.cell (by rw [block_add]; have := hb'.size; omega) (by rw [block_add]; have := hR'.new g hR'.at_.self; omega)]
            exact hc'
          clear hx
          go_wp2
          go_region_held3 (fun W => W.cell? (ad.add k) = some (.bool b)) (go_keep) (first | (go_at_call 11; refine (HF.out _ (by assumption) ?_ ?_).mono ?_; exact (hR.drewN 1).below; exact hR.drewN 1; rintro e w2 ⟨rfl, hR2, hc2⟩))
          all_goals
            clear HF
            cases b
            all_goals
              go_wp2
              go_roundw
              case rel => exact ⟨k + 1, by omega, by go_num, hR2⟩
              case measure => simp [intOf]; omega
        · obtain rfl : k = l.length := by omega
          have HX := Lib.hid (show l[l.length]?.getD false = false from by simp)
          go_wp2_with fail
          refine (fails_any hR.at_ (by omega) (by omega) (by omega)).mono ?_
          rintro e w3 ⟨rfl, hL3, hF3⟩
          have hR3 := hR.step hL3 hF3
          rw [HX.out]
          go_wp2_with fail
          refine (left_any hR3.at_ (by omega) (by omega)).mono ?_
          rintro e w5 ⟨rfl, m, rfl⟩
          rw [show l.length - (l.length + 1) = 0 from by omega]
          go_wp2_with fail
          refine (luckLives _).mono ?_
          rintro e w6 ⟨rfl, hb6⟩
          go_wp2
          go_ret
          exact ⟨rfl, (hR3.drewN m).below.trans (hb6.mono hR3.below.size)⟩
end Go.Proofs.Ytcbfaahnhdmagaa
