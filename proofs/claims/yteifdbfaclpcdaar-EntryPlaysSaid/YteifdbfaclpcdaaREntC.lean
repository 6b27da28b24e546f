/- The walk of gunnylaw22.EntryApart. -/
import Derived.Test.YteifdbfaclpcdaaREntB
import Derived.Deep.DeepCutAuto
import Derived.Deep.CutBlock
namespace Go.Proofs.YteifdbfaclpcdaaR
open Go.RowKit

/-- A slice of uint16. -/
def RdU (w : World) (B : Nat) (A : Option Addr) (l : List Nat) : Prop := Rd w B A (l.map fun n : Nat => Value.int .u16 (n : Int))
theorem RdU.at_ {w : World} {B : Nat} {A : Option Addr} {l : List Nat} (h : RdU w B A l) {k : Nat} (hk : k < l.length) :
    ∃ ad, A = some ad ∧ ad.block < B ∧ w.cell? (ad.add k) = some (.int .u16 (l[k]?.getD 0 : Nat)) := by
  obtain ⟨ad, e, hb, hc⟩ := h k (.int .u16 (l[k]?.getD 0 : Nat)) (by simp [hk])
  exact ⟨ad, e, hb, hc⟩
theorem RdU.below {w w' : World} {B : Nat} {A : Option Addr} {l : List Nat} (h : RdU w B A l) (hb : Below B w w') : RdU w' B A l := Rd.below h hb

/-- The blocks of numbers. -/
def EntS (e g gw : Nat) : Nat → Prop := fun b => b = e ∨ b = g ∨ b = gw
theorem own_apart {w : World} {base e g gw last : Nat} {v : Value} {l : List Int} {f : Nat → Bool} (ho : OwnI w base v l) (h : EntAt w e g gw f last) : ∀ b, v.ownBlock = some b → ¬ EntS e g gw b := by
  intro b hb hh
  obtain ⟨wd, hs, _⟩ := h.set
  rcases hh with rfl | rfl | rfl
  · exact owns_ne ho h.top (by decide) hb
  · exact owns_ne ho hs.top (by decide) hb
  · exact owns_ne ho hs.row (by decide) hb

/-- What the law's loop holds. -/
structure ApRun (w0 w : World) (e g gw : Nat) (f : Nat → Bool) (last : Nat) (v : Value) (l : List Int) : Prop where
  ent : EntAt w e g gw f last
  own : OwnI w w0.heap.size v l
  out : OutIs f l
  b1 : w0.heap.size ≤ e
  b2 : w0.heap.size ≤ g
  b3 : w0.heap.size ≤ gw
  below : Below w0.heap.size w0 w
theorem ApRun.notS {w0 w : World} {e g gw last : Nat} {f : Nat → Bool} {v : Value} {l : List Int} (h : ApRun w0 w e g gw f last v l) : ∀ b, b < w0.heap.size → ¬ EntS e g gw b := fun b hb hh => by
  have := h.b1; have := h.b2; have := h.b3
  rcases hh with h | h | h <;> omega

set_option maxRecDepth 100000 in
set_option maxHeartbeats 4000000 in
theorem apart_any (w : World) (A : Option Addr) (c : Nat) (l : List Nat) (hA : RdU w w.heap.size A l) (hl : l.length ≤ 400) (hu : ∀ n ∈ l, n ≤ 65535) :
    Calls Try.prog 9 #[.slice A l.length c] w fun e w' => e = .returned (.bool true) ∧ Below w.heap.size w w' := by
  obtain ⟨i0, hi0, hz0, hz1, hz2⟩ := info_parts int_info
  have HA := Lib.hid hA
  have HU := Lib.hid hu
  clear hA hu
  go_enter Try.func9, Try.ntmps9
  go_wp2_with (go_at_call 38; refine (eNew_any w).mono ?_; rintro x w1 ⟨e, g, gw, rfl, h1, hB1, b1, b2, b3⟩)
  have hR : ApRun w w1 e g gw (fun _ => false) 0 (.slice none 0 0) [] := ⟨h1, World.ownsRow_nil _ _ _ _, OutIs.nil, b1, b2, b3, hB1⟩
  clear h1 hB1 b1 b2 b3
  go_loopw [4, 5] (fun v i wr => ∃ (k : Nat) (f : Nat → Bool) (last : Nat) (o : List Int), k ≤ l.length ∧ o.length ≤ k ∧ i = .int .i64 k ∧ ApRun w wr e g gw f last v o) (fun _ i _ => l.length - (intOf i).toNat)
  case atStart => exact ⟨0, _, _, [], Nat.zero_le _, Nat.le_refl _, rfl, hR⟩
  case round =>
    clear hR
    obtain ⟨k, f, last, o, hk', hok, rfl, hR⟩ := hrel
    obtain ⟨Ao, co, rfl⟩ := owns_form hR.own
    rcases Nat.lt_or_ge k l.length with hlt | hge
    · obtain ⟨ad, rfl, hab, hcc⟩ := (HA.out.below hR.below).at_ hlt
      have hu : l[k]?.getD 0 ≤ 65535 := HU.out _ (by simp [hlt])
      generalize l[k]?.getD 0 = n at *
      have hcu : wr.cell? (ad.add k) = some (.int .u16 (n : Int)) := hcc
      clear hcc
      obtain ⟨T, HT⟩ : ∃ T : Bool, Hid (T = (decide (n % 3 = 0) && decide (0 < o.length))) := ⟨_, rfl⟩
      go_upto_region 8 with fail
      go_cut [32] (fun s wx => s = .bool T ∧ wr = wx)
      case first =>
        by_cases h3 : n % 3 = 0
        · have hT : ((n : Int) % 3 == 0) = true := by rw [beq_iff_eq]; omega
          have HV : Hid (T = decide (0 < o.length)) := by show _ = _; rw [HT.out, decide_eq_true h3, Bool.true_and]
          clear h3
          go_wp2
          go_meet
          exact ⟨by rw [HV.out]; try simp, rfl⟩
        · have hT : ((n : Int) % 3 == 0) = false := by rw [beq_eq_false_iff_ne]; omega
          have HV : Hid (T = false) := by show _ = _; rw [HT.out, decide_eq_false h3, Bool.false_and]
          clear h3
          go_wp2
          go_meet
          exact ⟨by rw [HV.out], rfl⟩
      case rest =>
        obtain ⟨rfl, rfl⟩ := hcut
        go_upto_if 32 with fail
        go_cut [4] (fun v wx => ∃ (f : Nat → Bool) (last : Nat) (o : List Int), o.length ≤ k + 1 ∧ ApRun w wx e g gw f last v o)
        case first =>
          cases hTv : T
          · subst hTv
            clear HT
            have hcn : cntB f 512 < 512 := by rw [hR.out.cnt]; omega
            obtain ⟨q, hq, hq2, hqf⟩ := nextOf_some (last := last) hcn
            have HK := Lib.hid (eTake_some hR.ent hq)
            clear hcn hq
            go_wp2_with (go_at_call 33; refine HK.out.mono ?_; rintro x w2 ⟨rfl, hE2, hF2⟩)
            have hap := own_apart hR.own hR.ent
            have hO2 : OwnI w2 w.heap.size (.slice Ao o.length co) o := owns_same hR.own fun b hb => hF2.block b (World.ownsRow.lt hR.own b hb).2 (hap b hb)
            have hB2 : Below w.heap.size w w2 := hR.below.trans (hF2.below hR.below.size hR.notS)
            obtain ⟨hON, hno⟩ := hR.out.new hq2 hqf
            have HON := Lib.hid hON
            have HNO := Lib.hid hno
            have HO2 := Lib.hid hO2
            clear hON hno hO2 hqf HK
            go_loop [9] (fun j => ∃ jn : Nat, jn ≤ o.length ∧ j = .int .i64 jn) (fun j => o.length - (intOf j).toNat)
            case atStart => exact ⟨0, Nat.zero_le _, rfl⟩
            case round =>
              obtain ⟨jn, hjn, rfl⟩ := hrel
              rcases Nat.lt_or_ge jn o.length with hjl | hjl
              · obtain ⟨b, cap, hv, hbb, hbl⟩ := World.ownsRow.form HO2.out (by omega)
                injection hv with hv1 hv2 hv3
                subst hv1 hv3
                clear hv2
                have hcj : w2.cell? ⟨b, jn, none⟩ = some (.int .i64 o[jn]) := by
                  have := World.ownsRow.cellAt HO2.out jn (by omega)
                  rw [this]
                  simp [hjl]
                have hz : (o[jn] == (q : Int) + 1) = false := beq_eq_false_iff_ne.2 fun e => HNO.out (e ▸ List.getElem_mem hjl)
                generalize o[jn] = z at *
                go_wp2
                go_round
                case rel => exact ⟨jn + 1, by omega, by go_num⟩
                case measure => simp [intOf]; omega
              · have HO3 : Hid ((w2.alloc (.cells #[.int .i64 ((q : Int) + 1)] 3)).ownsRow w.heap.size 3 1 (.slice Ao o.length co) o.length (o.map (Value.int .i64))) := (HO2.out : w2.ownsRow _ _ _ _ _ _).alloc _
                have HR3 : Hid (Rd (w2.alloc (.cells #[.int .i64 ((q : Int) + 1)] 3)) (w2.heap.size + 1) (some ⟨w2.heap.size, 0, none⟩) ([(q : Int) + 1].map (Value.int .i64))) := rd_lit w2 [(q : Int) + 1] rfl
                go_wp2_with (at_builtin; refine wpList_append_rd rfl (.tmp 91) (.tmp 93) 23 rfl w.heap.size 3 i0 (.int .i64 0) 8 Try.underlying23 hi0 hz0 hz1 hz2 rfl (.slice Ao o.length co) o.length _ rfl HO3.out _ (some ⟨w2.heap.size, 0, none⟩) 1 1 ([(q : Int) + 1].map (Value.int .i64)) rfl rfl HR3.out (oneI _) (by simp [maxLen]; omega) (by simp; omega) (by have := hB2.size; simp; omega) ?_; intro v3 w3 hown hg hat)
                go_meet
                have hF3 : Fr (fun b => (Value.slice Ao o.length co).ownBlock = some b) w2 w3 := ((Fr.refl _ w2).alloc _).grown hg fun b hb _ => hb
                have hE3 := hE2.fr hF3 (fun hb => hap e hb (.inl rfl)) (fun hb => hap g hb (.inr (.inl rfl))) (fun hb => hap gw hb (.inr (.inr rfl)))
                refine ⟨_, _, _, ?_, ⟨hE3, ?_, HON.out, hR.b1, hR.b2, hR.b3, hB2.trans (hF3.below hB2.size (fun b hb hb2 => by have := (World.ownsRow.lt hR.own b hb2).1; omega))⟩⟩
                · simp; omega
                · simpa [OwnI] using hown
          · subst hTv
            have hq : n % 3 = 0 ∧ 0 < o.length := by simpa using HT.out.symm
            obtain ⟨_, hq2⟩ := hq
            clear HT
            have hq2i : (0 : Int) < o.length := by omega
            have hjl : n / 3 % o.length < o.length := Nat.mod_lt _ hq2
            have hjq : ((n : Int) / 3) % (o.length : Int) = ((n / 3 % o.length : Nat) : Int) := by norm_cast
            generalize n / 3 % o.length = j at *
            obtain ⟨m, em, hm, hfm, hO2⟩ := hR.out.old hjl
            obtain ⟨b, cap, hv, hbb, hbl⟩ := World.ownsRow.form hR.own hq2
            injection hv with hv1 hv2 hv3
            subst hv1 hv3
            clear hv2
            have hcj : wr.cell? ⟨b, j, none⟩ = some (.int .i64 ((m : Int) + 1)) := by
              have := World.ownsRow.cellAt hR.own j (by omega)
              rw [this]
              simp [hjl, em]
            have hap := own_apart hR.own hR.ent b (by simp [Value.ownBlock])
            have hnb : ¬ EntS e g gw wr.heap.size := fun hh => by
              have := hR.ent.top.lt; have := hR.ent.set.lt
              rcases hh with h | h | h <;> omega
            have HKA : Hid ((wr.alloc (.cells #[.int .i64 ((m : Int) + 1), .int .i64 ((m : Int) + 1)] 3)).cell? ⟨b, j, none⟩ = some (.int .i64 ((m : Int) + 1))) := (((Below.refl wr.heap.size wr).alloc (Nat.le_refl _) _).cell (p := ⟨b, j, none⟩) hbl).trans hcj
            have hd2 := dropE_two hm hfm
            have HD : Hid (∀ W, W = (wr.alloc (.cells #[.int .i64 ((m : Int) + 1), .int .i64 ((m : Int) + 1)] 3)).drewN 1 → Calls Try.prog 35 #[.pointer (some ⟨e, 0, none⟩), .slice (some ⟨wr.heap.size, 0, none⟩) 2 2] W fun x w' => x = .returned (.int .i64 1) ∧ EntAt w' e g gw (updB f m false) last ∧ Fr (EntS e g gw) wr w') := fun W hW => by
              subst hW
              refine (eDrop_any (w := (wr.alloc (.cells #[.int .i64 ((m : Int) + 1), .int .i64 ((m : Int) + 1)] 3)).drewN 1) (c := 2) (ks := [(m : Int) + 1, (m : Int) + 1]) (hR.ent.fr (((Fr.refl (fun _ => False) wr).alloc _).drewN 1) id id id) (show RdI ((wr.alloc (.cells #[.int .i64 ((m : Int) + 1), .int .i64 ((m : Int) + 1)] 3)).drewN 1) (wr.heap.size + 1) (some ⟨wr.heap.size, 0, none⟩) [(m : Int) + 1, (m : Int) + 1] from rd_lit wr _ rfl) (by simp) (fun ad2 he _ hh => by
                injection he with he
                subst he
                exact hnb hh) (by simp; omega) (by simp)).mono ?_
              rintro x w' ⟨hx, h1, h2⟩
              rw [hd2.1] at hx
              rw [hd2.2] at h1
              exact ⟨hx, h1, (((Fr.refl (EntS e g gw) wr).alloc _).drewN 1).trans h2 fun _ _ h => h⟩
            have HIn : Hid (∀ W, EntAt W e g gw (updB f m false) last → Calls Try.prog 34 #[.pointer (some ⟨e, 0, none⟩), .int .i64 ((m : Int) + 1)] W fun x w' => x = .returned (.bool false) ∧ W = w') := fun W hW => by
              have := eIn_any hW ((m : Int) + 1) (by omega)
              rw [inB_succ _ hm] at this
              simpa [updB] using this
            have HKB : Hid (∀ W, Fr (EntS e g gw) wr W → W.cell? ⟨b, j, none⟩ = some (.int .i64 ((m : Int) + 1))) := fun W hF => (hF.cell (a := ⟨b, j, none⟩) hbl hap).trans hcj
            have HOM := Lib.hid em
            have HO2 := Lib.hid hO2
            clear hd2 em hO2
            go_upto_region 10 with fail
            go_region_held3 (fun W => W.cell? ⟨b, j, none⟩ = some (.int .i64 ((m : Int) + 1))) (first | exact hcj | exact HKA.out | exact HKB.out _ hF2) (first
              | (go_at_call 35; refine (HD.out _ rfl).mono ?_; rintro x w2 ⟨rfl, hE2, hF2⟩)
              | (go_at_call 34; refine (HIn.out _ hE2).mono ?_; rintro x w3 ⟨rfl, rfl⟩))
            all_goals
              clear HD HIn
              go_wp2
              have hO : OwnI w2 w.heap.size (.slice (some ⟨b, 0, none⟩) o.length co) o := owns_same hR.own fun b' hb => hF2.block b' (World.ownsRow.lt hR.own b' hb).2 (own_apart hR.own hR.ent b' hb)
              have hB2 : Below w.heap.size w w2 := hR.below.trans (hF2.below hR.below.size hR.notS)
              have hlc : o.length ≤ co := by
                rcases (hO : w2.ownsRow _ _ _ _ _ _).2 with ⟨h, _⟩ | ⟨g', cap', cur', h, _, _, hle, _⟩
                · cases h
                · injection h with _ _ h3; omega
              have hbl2 : b < w2.heap.size := Nat.lt_of_lt_of_le hbl hF2.size
              have hjc : j ≤ co := by omega
              have hjc1 : j + 1 ≤ o.length := by omega
              have hw : IntKind.i64.wrap ((j : Int) + 1) = (j : Int) + 1 := IntWalk.i64_in _ (by omega)
              have hw0 : (0 : Int) ≤ (j : Int) + 1 := by omega
              have hw1 : ((j : Int) + 1).toNat = j + 1 := by omega
              have hw2 : (j : Int) + 1 ≤ o.length := by omega
              have E1 : Hid ((w2.drew.alloc (.cells #[] 3)).ownsRow w.heap.size 3 1 (.slice (some ⟨w2.heap.size, 0, none⟩) 0 0) 0 []) := World.ownsRow_made w2.drew #[] 0 hB2.size (by decide) rfl
              have R1 : Hid (Rd (w2.drew.alloc (.cells #[] 3)) w2.heap.size (some ⟨b, 0, none⟩) ((o.take j).map (Value.int .i64))) := own_rd_take hO rfl (Below.heap_alloc w2.drew _ b hbl2) j
              obtain ⟨ad2, had2⟩ : ∃ ad2, (if co = j + 1 then (some ⟨b, 0, none⟩ : Option Addr) else some ⟨b, j + 1, none⟩) = ad2 := ⟨_, rfl⟩
              have R3 : Hid (∀ w1, (w2.drew.alloc (.cells #[] 3)).grownBy w1 (some w2.heap.size) → Rd w1 w2.heap.size ad2 ((o.drop (j + 1)).map (Value.int .i64))) := fun w1 hg => by
                subst had2
                split
                · rw [List.drop_of_length_le (by omega)]
                  exact Rd.nil _ _ _
                · exact own_rd hO rfl ((hg.block b (by simp; omega) (by simp; omega)).trans (Below.heap_alloc w2.drew _ b hbl2)) (j + 1)
              have hB2s := hB2.size
              have HBB := Lib.hid hB2
              have HOO := Lib.hid hO
              clear hO hB2
              go_region_law (first
                | (refine step_append_rd rfl (.tmp 62) (.tmp 65) 23 rfl w.heap.size 3 i0 (.int .i64 0) 8 Try.underlying23 hi0 hz0 hz1 hz2 rfl (.slice (some ⟨w2.heap.size, 0, none⟩) 0 0) 0 [] (by simp [Act.eval]) E1.out w2.heap.size (some ⟨b, 0, none⟩) j co ((o.take j).map (Value.int .i64)) (by simp [Act.eval]) (by simp; omega) R1.out (oneI _) (by simp [maxLen]; omega) (by simp; omega) (by simp; omega) ?_; intro v1 w3 hown1 hg1 hat1)
                | (refine step_append_rd rfl (.tmp 66) (.tmp 70) 23 rfl w.heap.size 3 i0 (.int .i64 0) 8 Try.underlying23 hi0 hz0 hz1 hz2 rfl v1 _ _ (by simp [Act.eval]) hown1 w2.heap.size ad2 (o.length - (j + 1)) (co - (j + 1)) ((o.drop (j + 1)).map (Value.int .i64)) (by simp [Act.eval]) (by simp) (R3.out w3 hg1) (oneI _) (by simp [maxLen]; omega) (by simp; omega) (by have := hg1.size; simp at this; omega) ?_; intro v2 w4 hown2 hg2 hat2))
              all_goals
                have hFa : Fr (fun _ => False) w2 w3 := (((Fr.refl (fun _ => False) w2).drew).alloc _).grown hg1 (fun k hk hk2 => by simp [Value.ownBlock] at hk; omega)
                have hF4 : Fr (fun _ => False) w2 w4 := hFa.grown hg2 (fun k hk hk2 => by
                  rcases hat1 with h | h
                  · rw [h] at hk; simp [Value.ownBlock] at hk; omega
                  · rw [h] at hk; simp at hk; omega)
                have HO4 : Hid (OwnI w4 w.heap.size v2 (o.take j ++ o.drop (j + 1))) := by
                  show OwnI _ _ _ _
                  have e : 0 + ((o.take j).map (Value.int .i64)).length + ((o.drop (j + 1)).map (Value.int .i64)).length = (o.take j ++ o.drop (j + 1)).length := by simp
                  rw [e, List.nil_append, ← List.map_append] at hown2
                  exact hown2
                clear hown1 hown2 hg1 hg2 hat1 hat2 E1 R1 R3 had2 hw hw0 hw1 hw2
                go_wp2
                go_meet
                exact ⟨_, _, _, by simp; omega, hE2.fr hF4 id id id, HO4.out, HO2.out, hR.b1, hR.b2, hR.b3, HBB.out.trans (hF4.below HBB.out.size fun _ _ => id)⟩
        case rest =>
          clear hR hok hcu HT
          obtain ⟨f, last, o, hok, hR⟩ := hcut
          obtain ⟨Ao, co, rfl⟩ := owns_form hR.own
          go_wp2
          go_loop [10] (fun j => ∃ jn : Nat, jn ≤ o.length ∧ j = .int .i64 jn) (fun j => o.length - (intOf j).toNat)
          case atStart => exact ⟨0, Nat.zero_le _, rfl⟩
          case round =>
            obtain ⟨jn, hjn, rfl⟩ := hrel
            rcases Nat.lt_or_ge jn o.length with hjl | hjl
            · obtain ⟨b, cap, hv, hbb, hbl⟩ := World.ownsRow.form hR.own (by omega)
              injection hv with hv1 hv2 hv3
              subst hv1 hv3
              clear hv2
              have hcj : wc.cell? ⟨b, jn, none⟩ = some (.int .i64 o[jn]) := by
                have := World.ownsRow.cellAt hR.own jn (by omega)
                rw [this]
                simp [hjl]
              obtain ⟨m, em, hm, hfm⟩ := hR.out.mem _ (List.getElem_mem hjl)
              have HI := Lib.hid (eIn_any hR.ent o[jn] (by omega))
              rw [hR.out.in_ (List.getElem_mem hjl)] at HI
              clear em hfm
              generalize o[jn] = z at *
              go_wp2_with (go_at_call 34; refine HI.out.mono ?_; rintro x w3 ⟨rfl, rfl⟩)
              go_round
              case rel => exact ⟨jn + 1, by omega, by go_num⟩
              case measure => simp [intOf]; omega
            · have HL := Lib.hid (eLen_any hR.ent)
              rw [hR.out.cnt] at HL
              go_wp2_with (go_at_call 36; refine HL.out.mono ?_; rintro x w3 ⟨rfl, rfl⟩)
              go_roundw
              case rel => exact ⟨k + 1, f, last, o, by omega, by omega, by go_num, hR⟩
              case measure => simp [intOf]; omega
    · go_wp2_with (go_at_call 37; refine (entLives _).mono ?_; rintro x w7 ⟨rfl, hB7⟩)
      go_ret
      exact ⟨rfl, hR.below.trans (hB7.mono hR.below.size)⟩

set_option maxRecDepth 100000 in
theorem apart_great (w : World) (A : Option Addr) (c n : Nat) (hl : 400 < n) (hn : n ≤ 9223372036854775807) :
    Calls Try.prog 9 #[.slice A n c] w fun e w' => e = .returned (.bool true) ∧ Below w.heap.size w w' := by
  have hli : (400 : Int) < n := by omega
  go_enter Try.func9, Try.ntmps9
  go_wp2_with (go_at_call 37; refine (entLives _).mono ?_; rintro x w7 ⟨rfl, hB7⟩)
  go_ret
  exact ⟨rfl, hB7⟩
end Go.Proofs.YteifdbfaclpcdaaR
