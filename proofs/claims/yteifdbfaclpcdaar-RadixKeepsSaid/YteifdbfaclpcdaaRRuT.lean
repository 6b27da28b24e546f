/- Radix: From, and the law's from. -/
import Derived.Test.YteifdbfaclpcdaaRRuS
namespace Go.Proofs.YteifdbfaclpcdaaR.Ru
open Go.RowKit
section
variable {w0 w w' : World} {base g many pl pm pt pk : Nat} {ex : Nat → Nat → Bool} {nd : Nat → Nat → Nat} {f : Nat → Option Value} {most fr : Int} {v v' : Value} {acc acc' : Ks}
theorem tellRoot (h : TlAt w0 w base g ex nd f many pl pm most v []) :
    Calls Try.prog 78 #[ptrIf (ex 0 0) (nd 0 0), .int .i64 0, .int .i64 0, .int .i64 fr, .func (.func 62) #[] #[.pointer (some ⟨pl, 0, none⟩), .pointer (some ⟨pm, 0, none⟩)]] w
      fun e w' => ∃ v' b, e = .returned (.bool b) ∧ TlAt w0 w' base g ex nd f many pl pm most v' (tkM most (seg f fr 0 65536)) := by
  cases hx : ex 0 0
  · refine (tellNil _ _ _ _ _).mono ?_
    rintro e w' ⟨rfl, rfl⟩
    refine ⟨v, true, rfl, ?_⟩
    rw [seg_none]
    · unfold tkM
      split <;> simpa using h
    · intro k _ hk
      have := Full.none_in h.rx (l := 0) (q := 0) (by omega) hx k (by omega) (by rw [rxD_0]; omega)
      exact this
  · have := tell0 (tell1 (tell2 (tell3 fr))) w 0 0 v [] (by simp) hx (by simp) h
    refine this.mono ?_
    rintro e w' ⟨v', rfl, hT⟩
    refine ⟨v', _, rfl, ?_⟩
    rw [Nat.zero_mul, rxD_0] at hT
    have e1 : (feed (goK most) [] (seg f fr 0 65536)).1 = tkM most (seg f fr 0 65536) := feed_len most _
    rw [e1] at hT
    exact hT
set_option maxRecDepth 100000 in
set_option maxHeartbeats 2000000 in
theorem iterK (h : TlAt w0 w base g ex nd f many pl pm most v []) (ht : Bk w pt 38 #[.pointer (some ⟨g, 0, none⟩)]) (hk : Bk w pk 3 #[.int .i64 fr]) :
    Calls Try.prog 77 #[.func (.func 62) #[] #[.pointer (some ⟨pl, 0, none⟩), .pointer (some ⟨pm, 0, none⟩)], .pointer (some ⟨pt, 0, none⟩), .pointer (some ⟨pk, 0, none⟩)] w
      fun e w' => e = .returned (.tuple #[]) ∧ ∃ v', TlAt w0 w' base g ex nd f many pl pm most v' (tkM most (seg f fr 0 65536)) := by
  have ct := ht.cell 0
  have ck := hk.cell 0
  have cr := h.rx.tr.rootC
  have HR : Hid (∀ W, W = w.drew → Calls Try.prog 78 #[ptrIf (ex 0 0) (nd 0 0), .int .i64 0, .int .i64 0, .int .i64 fr, .func (.func 62) #[] #[.pointer (some ⟨pl, 0, none⟩), .pointer (some ⟨pm, 0, none⟩)]] W
      fun e w' => ∃ v' b, e = .returned (.bool b) ∧ TlAt w0 w' base g ex nd f many pl pm most v' (tkM most (seg f fr 0 65536))) := by
    rintro _ rfl
    have hd : Below w.heap.size w w.drew := ((Fr.refl (fun _ => False) w).drewN 1).below0
    exact tellRoot ⟨h.rx.below0 hd, ⟨h.yk.bl.drew, h.yk.bm.drew, h.yk.own.below hd, h.yk.lo⟩, h.below.trans (hd.mono h.below.size)⟩
  generalize ptrIf (ex 0 0) (nd 0 0) = r0 at *
  clear h ht hk
  go_enter Try.func77, Try.ntmps77
  go_upto_region 1 with fail
  go_still_tail 6, (by kernel_rfl)
  change wpList _ _ _ _ _ w.drew
  go_wp2_with (go_at_call 78; refine (HR.out _ rfl).mono ?_; rintro x w9 ⟨v9, b9, rfl, hT9⟩)
  go_end0
  exact ⟨rfl, v9, hT9⟩
theorem iterNil (x : Value) (ht : Bk w pt 38 #[.pointer none]) :
    Calls Try.prog 77 #[x, .pointer (some ⟨pt, 0, none⟩), .pointer (some ⟨pk, 0, none⟩)] w fun e w' => e = .returned (.tuple #[]) ∧ w = w' := by
  have ct := ht.cell 0
  clear ht
  go_enter Try.func77, Try.ntmps77
  go_wp2
  go_end0
  exact ⟨rfl, rfl⟩
theorem sFrom (w : World) (x : Option Addr) (key : Int) : Calls Try.prog 61 #[.pointer x, .int .i64 key] w fun e w' => e = .returned (.func (.func 77) #[] #[.pointer (some ⟨w.heap.size, 0, none⟩), .pointer (some ⟨w.heap.size + 1, 0, none⟩)]) ∧ w' = (w.alloc (.cells #[.pointer x] 38)).alloc (.cells #[.int .i64 key] 3) := by
  have hmf : ∀ (fn : Fn) (first cap : Array Value) (w : World), (Instr.makeFunc fn first cap).run Try.prog w = .ok (.func fn first cap) w := fun _ _ _ _ => rfl
  go_enter Try.func61, Try.ntmps61
  go_wp2
  go_ret
  exact ⟨rfl, rfl⟩
/-- What from tells. -/
def FromPost (w : World) (L : Ks) (e : Ending) (w' : World) : Prop := ∃ A c, e = .returned (.tuple #[.slice A L.length c, .bool true]) ∧ KAt w' w.heap.size (.slice A L.length c) L ∧ Below w.heap.size w w'
set_option maxRecDepth 100000 in
set_option maxHeartbeats 2000000 in
theorem fromK (h : RxAt w base g ex nd f many) (key most : Int) :
    Calls Try.prog 30 #[.pointer (some ⟨g, 0, none⟩), .int .i64 key, .int .i64 most] w (FromPost w (tkM most (seg f key 0 65536))) := by
  have hmf : ∀ (fn : Fn) (first cap : Array Value) (w : World), (Instr.makeFunc fn first cap).run Try.prog w = .ok (.func fn first cap) w := fun _ _ _ _ => rfl
  have heq : ∀ (W : World) (cap : Array Value), (binOp .eql 111 (.func (.func 77) #[] cap) .nilFunc).run Try.prog W = .ok (.bool false) W := fun _ _ => rfl
  have HI : Hid (∀ W ps pk pm pl, W = (((w.alloc (.cells #[.int .i64 most] 3)).alloc (.cells #[.pointer (some ⟨g, 0, none⟩)] 38)).alloc (.cells #[.int .i64 key] 3)).alloc (.cells #[.slice none 0 0] 41) → pm = w.heap.size → ps = w.heap.size + 1 → pk = w.heap.size + 2 → pl = w.heap.size + 3 →
      Calls Try.prog 77 #[.func (.func 62) #[] #[.pointer (some ⟨pl, 0, none⟩), .pointer (some ⟨pm, 0, none⟩)], .pointer (some ⟨ps, 0, none⟩), .pointer (some ⟨pk, 0, none⟩)] W fun e w' => e = .returned (.tuple #[]) ∧ ∃ v, TlAt w w' base g ex nd f many pl pm most v (tkM most (seg f key 0 65536))) := by
    rintro _ ps pk pm pl rfl h1 h2 h4 h3
    have k1 : Bk (w.alloc (.cells #[.int .i64 most] 3)) pm 3 #[.int .i64 most] := Bk.new_at _ _ _ (by simpa using h1)
    have k2 : Bk ((w.alloc (.cells #[.int .i64 most] 3)).alloc (.cells #[.pointer (some ⟨g, 0, none⟩)] 38)) ps 38 #[.pointer (some ⟨g, 0, none⟩)] := Bk.new_at _ _ _ (by simpa using h2)
    have k4 : Bk (((w.alloc (.cells #[.int .i64 most] 3)).alloc (.cells #[.pointer (some ⟨g, 0, none⟩)] 38)).alloc (.cells #[.int .i64 key] 3)) pk 3 #[.int .i64 key] := Bk.new_at _ _ _ (by simpa using h4)
    have k3 : Bk ((((w.alloc (.cells #[.int .i64 most] 3)).alloc (.cells #[.pointer (some ⟨g, 0, none⟩)] 38)).alloc (.cells #[.int .i64 key] 3)).alloc (.cells #[.slice none 0 0] 41)) pl 41 #[.slice none 0 0] := Bk.new_at _ _ _ (by simpa using h3)
    have hF : Fr (fun _ => False) w ((((w.alloc (.cells #[.int .i64 most] 3)).alloc (.cells #[.pointer (some ⟨g, 0, none⟩)] 38)).alloc (.cells #[.int .i64 key] 3)).alloc (.cells #[.slice none 0 0] 41)) := ((((Fr.refl _ w).alloc _).alloc _).alloc _).alloc _
    exact iterK ⟨h.below0 hF.below0, ⟨k3, ((k1.alloc _).alloc _).alloc _, KAt.nil _ _, by omega, by omega⟩, hF.below0⟩ ((k2.alloc _).alloc _) (k4.alloc _)
  clear h
  go_enter Try.func30, Try.ntmps30
  go_wp2_with (first
    | (go_at_call 77; refine (HI.out _ _ _ _ _ rfl rfl (by simp) (by simp) (by simp)).mono ?_; rintro x w2 ⟨rfl, v, hR⟩; obtain ⟨A9, c9, rfl⟩ := hR.yk.own.form; have hcl := hR.yk.bl.cell 0)
    | (go_at_call 61; refine (sFrom _ _ _).mono ?_; rintro x w2 ⟨rfl, rfl⟩))
  go_ret2
  exact ⟨A9, c9, rfl, hR.yk.own, hR.below⟩
set_option maxRecDepth 100000 in
set_option maxHeartbeats 2000000 in
theorem fromNil (w : World) (key most : Int) :
    Calls Try.prog 30 #[.pointer none, .int .i64 key, .int .i64 most] w fun e w' => e = .returned (.tuple #[.slice none 0 0, .bool true]) ∧ Below w.heap.size w w' := by
  have hmf : ∀ (fn : Fn) (first cap : Array Value) (w : World), (Instr.makeFunc fn first cap).run Try.prog w = .ok (.func fn first cap) w := fun _ _ _ _ => rfl
  have heq : ∀ (W : World) (cap : Array Value), (binOp .eql 111 (.func (.func 77) #[] cap) .nilFunc).run Try.prog W = .ok (.bool false) W := fun _ _ => rfl
  have HI : Hid (∀ W x ps pk, W = (((w.alloc (.cells #[.int .i64 most] 3)).alloc (.cells #[.pointer none] 38)).alloc (.cells #[.int .i64 key] 3)).alloc (.cells #[.slice none 0 0] 41) → ps = w.heap.size + 1 → pk = w.heap.size + 2 →
      Calls Try.prog 77 #[x, .pointer (some ⟨ps, 0, none⟩), .pointer (some ⟨pk, 0, none⟩)] W fun e w' => e = .returned (.tuple #[]) ∧ W = w') := by
    rintro _ x ps pk rfl h2 h4
    have k2 : Bk ((w.alloc (.cells #[.int .i64 most] 3)).alloc (.cells #[.pointer none] 38)) ps 38 #[.pointer none] := Bk.new_at _ _ _ (by simpa using h2)
    exact iterNil x ((k2.alloc _).alloc _)
  go_enter Try.func30, Try.ntmps30
  go_wp2_with (first
    | (go_at_call 77; refine (HI.out _ _ _ _ rfl (by simp) (by simp)).mono ?_; rintro x w2 ⟨rfl, rfl⟩)
    | (go_at_call 61; refine (sFrom _ _ _).mono ?_; rintro x w2 ⟨rfl, rfl⟩))
  go_ret2
  exact ⟨rfl, ((((Fr.refl (fun _ => False) w).alloc _).alloc _).alloc _).alloc _ |>.below0⟩
end
end Go.Proofs.YteifdbfaclpcdaaR.Ru
