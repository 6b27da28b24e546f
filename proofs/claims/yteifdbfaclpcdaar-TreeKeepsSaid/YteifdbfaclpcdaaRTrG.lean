/- A tree of records: slices.Contains; a loop over what a tree has; Count. -/
import Derived.Test.YteifdbfaclpcdaaRTrF
import Derived.Test.YteifdbfaclpcdaaRGyTail
namespace Go.Proofs.YteifdbfaclpcdaaR.Rr
open Go.RowKit Go.Shelf
attribute [local go_sem] Oper.semAt_some

set_option maxRecDepth 100000 in
theorem indexI {w : World} {B c : Nat} {A : Option Addr} {xs : List Int} (hr : RdI w B A xs) (hl : xs.length ≤ 1000) (x : Int) :
    Calls Try.prog 88 #[.slice A xs.length c, .int .i64 x] w fun e w' => ∃ i : Int, e = .returned (.int .i64 i) ∧ decide (0 ≤ i) = xs.contains x ∧ w = w' := by
  have HR := Lib.hid hr
  clear hr
  obtain ⟨N, hN⟩ : ∃ N, N = xs.length := ⟨_, rfl⟩
  rw [← hN] at hl ⊢
  have HN := Lib.hid hN
  clear hN
  go_enter Try.func88, Try.ntmps88
  go_wp2_with fail
  go_loop [8] (fun i => ∃ (d : Nat), d ≤ N ∧ i = .int .i64 (d : Int) ∧ (xs.take d).contains x = false) (fun i => N - (intOf i).toNat)
  case atStart => exact ⟨0, by omega, rfl, by simp⟩
  case round =>
    obtain ⟨d, hd, rfl, hf⟩ := hrel
    have HF := Lib.hid hf
    clear hf
    rcases Nat.lt_or_ge d N with hlt | hge
    · obtain ⟨ad, rfl, hab, hc⟩ := RdI.at_ HR.out (k := d) (by rw [← HN.out]; exact hlt)
      have hdi : (d : Int) < (N : Int) := by omega
      have hlx : d < xs.length := by rw [← HN.out]; exact hlt
      obtain ⟨y, hg⟩ : ∃ y, xs[d]? = some y := ⟨_, List.getElem?_eq_getElem hlx⟩
      rw [hg, Option.getD_some] at hc
      have HT : Hid ((xs.take (d + 1)).contains x = (x == y)) := by
        show _ = _
        rw [List.take_add_one, hg]
        have := HF.out
        simp only [Option.toList_some, List.contains_eq_mem, List.mem_append, List.mem_singleton] at this ⊢
        by_cases e : x = y <;> simp_all
      have HX : Hid (y ∈ xs) := List.mem_of_getElem? hg
      clear hg hlx
      by_cases e : x = y
      · subst e
        go_wp2_with fail
        go_ret
        exact ⟨_, rfl, ⟨fun _ => HX.out, fun _ => by omega⟩, rfl⟩
      · have hb : (x == y) = false := beq_eq_false_iff_ne.2 e
        rw [hb] at HT
        go_wp2_with fail
        go_round
        case rel => exact ⟨d + 1, by omega, by go_num, HT.out⟩
        case measure => simp [intOf]; omega
    · obtain rfl : d = N := by omega
      have HT : Hid (x ∉ xs) := by
        show ¬ _
        have := HF.out
        rw [HN.out, List.take_of_length_le (Nat.le_refl _)] at this
        simpa using this
      go_wp2_with fail
      go_ret
      exact ⟨_, rfl, ⟨fun h => absurd h (by decide), fun h => (HT.out h).elim⟩, rfl⟩
theorem containsI {w : World} {B c : Nat} {A : Option Addr} {xs : List Int} (hr : RdI w B A xs) (hl : xs.length ≤ 1000) (x : Int) :
    Calls Try.prog 84 #[.slice A xs.length c, .int .i64 x] w fun e w' => e = .returned (.bool (xs.contains x)) ∧ w = w' := by
  have HI := Lib.hid (indexI (c := c) hr hl x)
  clear hr
  generalize xs.contains x = b at *
  go_enter Try.func84, Try.ntmps84
  go_wp2_with fail
  refine HI.out.mono ?_
  rintro e w2 ⟨i, rfl, hi, rfl⟩
  have HB := Lib.hid hi
  clear hi
  go_wp2_with fail
  go_ret
  rw [HB.out]
  exact ⟨rfl, rfl⟩
section
variable {w0 w w' : World} {base g many lp : Nat} {ex : Nat → Nat → Bool} {nd : Nat → Nat → Nat} {f : Nat → Option Value} {J : KsR → World → Prop}
theorem tellRoot (hR : RxAt w0 base g ex nd f many) (hK : KpJ w0 J) (hY : YldJ lp J) (m : Nat) {W : World} (h : J [] W) :
    CallsIn Fence.wide m Try.prog 87 #[ptrIf (ex 0 0) (nd 0 0), .int .i64 0, .int .i64 0, .int .i64 0, .func (.yield lp) #[] #[]] W fun e W' => e = .returned (.bool true) ∧ J (seg f 0 0 65536) W' := by
  cases hx : ex 0 0
  · refine (callsIn_wide.2 (tellNil _ _ _ _ _)).mono ?_
    rintro e w' ⟨rfl, rfl⟩
    refine ⟨rfl, ?_⟩
    rw [seg_none]
    · exact h
    · intro k _ hk
      exact Full.none_in hR (l := 0) (q := 0) (by omega) hx k (by omega) (by rw [rxD_0]; omega)
  · refine (tell0 hR hK (tell1 hR hK (tell2 hR hK (tell3 hR hK hY))) m W 0 0 [] (by simp) hx (by simp) h).mono ?_
    rintro e w' ⟨rfl, hT⟩
    rw [Nat.zero_mul, rxD_0, List.nil_append] at hT
    exact ⟨rfl, hT⟩
set_option maxRecDepth 100000 in
set_option maxHeartbeats 2000000 in
theorem iter_in (hR : RxAt w0 base g ex nd f many) (hK : KpJ w0 J) (hY : YldJ lp J) {m pt pk : Nat} {W : World} (ht : Bk W pt 122 #[.pointer (some ⟨g, 0, none⟩)]) (hk : Bk W pk 3 #[.int .i64 0]) (h : J [] W) :
    CallsIn Fence.wide m Try.prog 86 #[.func (.yield lp) #[] #[], .pointer (some ⟨pt, 0, none⟩), .pointer (some ⟨pk, 0, none⟩)] W fun e W' => (∃ v, e = .returned v) ∧ J (seg f 0 0 65536) W' := by
  have ct := ht.cell 0
  have ck := hk.cell 0
  have cr := (hR.below0 (hK.below _ _ h)).tr.rootC
  have hmx : Try.prog.follows .mixedOrders = true := by kernel_rfl
  have HT := Lib.hid (fun mm => tellRoot hR hK hY mm (W := W.drew) (hK.drew _ _ 1 h))
  clear hR hK hY h ht hk
  generalize ptrIf (ex 0 0) (nd 0 0) = r0 at *
  refine callsIn_of_wp Try.func86 rfl trivial ?_ rfl
  simp only [Try.ntmps86, List.size_toArray, List.length_cons, List.length_nil, Nat.reduceAdd, Nat.reduceSub, Array.replicate_succ, Array.replicate_zero, List.push_toArray, List.append_toArray, List.nil_append, List.cons_append]
  gi_wp2
  refine wpIn_region_tail 6 hmx (by kernel_rfl) ?_
  simp only [List.take_succ_cons, List.take_zero, List.drop_succ_cons, List.drop_zero]
  repeat still_step
  refine wpStill_nil ?_
  change wpListIn _ _ _ _ _ _ _ W.drew
  gi_wp2_with fail
  refine ⟨trivial, wide_d, ?_⟩
  refine (HT.out _).mono ?_
  rintro e w2 ⟨rfl, hJ⟩
  have HJ := Lib.hid hJ
  clear hJ
  gi_wp2
  go_end0
  exact ⟨⟨_, rfl⟩, HJ.out⟩
theorem sFrom (w : World) (x : Option Addr) (key : Int) : Calls Try.prog 83 #[.pointer x, .int .i64 key] w fun e w' => e = .returned (.func (.func 86) #[] #[.pointer (some ⟨w.heap.size, 0, none⟩), .pointer (some ⟨w.heap.size + 1, 0, none⟩)]) ∧ w' = (w.alloc (.cells #[.pointer x] 122)).alloc (.cells #[.int .i64 key] 3) := by
  have hmf : ∀ (fn : Fn) (first cap : Array Value) (w : World), (Instr.makeFunc fn first cap).run Try.prog w = .ok (.func fn first cap) w := fun _ _ _ _ => rfl
  go_enter Try.func83, Try.ntmps83
  go_wp2
  go_ret
  exact ⟨rfl, rfl⟩
theorem fr_putObj (W : World) (r : Nat) (o : Obj) : Fr (· = r) W (W.putObj r o) := ⟨rfl, rfl, rfl, by simp, fun k _ hn => World.putObj_heap_other hn⟩
end
end Go.Proofs.YteifdbfaclpcdaaR.Rr
