/- The walk of gunnylaw02.BitsTakes. -/
import Derived.Test.YtcbfaahnhdmagaaDoorBtsB
import Derived.Deep.DeepCutAuto
import Derived.Deep.CutBlock
import Derived.Deep.RegionHeld3
import Derived.Deep.RegionLaw
namespace Go.Proofs.YtcbfaahnhdmagaaDoor
open Go.RowKit

/-- A slice of uint8. -/
def RdB (w : World) (B : Nat) (A : Option Addr) (l : List Nat) : Prop := Rd w B A (l.map fun n : Nat => Value.int .u8 (n : Int))
theorem RdB.at_ {w : World} {B : Nat} {A : Option Addr} {l : List Nat} (h : RdB w B A l) {k : Nat} (hk : k < l.length) :
    ∃ ad, A = some ad ∧ ad.block < B ∧ w.cell? (ad.add k) = some (.int .u8 (l[k]?.getD 0 : Nat)) := by
  obtain ⟨ad, e, hb, hc⟩ := h k (.int .u8 (l[k]?.getD 0 : Nat)) (by simp [hk])
  exact ⟨ad, e, hb, hc⟩
theorem RdB.below {w w' : World} {B : Nat} {A : Option Addr} {l : List Nat} (h : RdB w B A l) (hb : Below B w w') : RdB w' B A l := Rd.below h hb

/-- The blocks of a set. -/
def StS (g gw : Nat) : Nat → Prop := fun b => b = g ∨ b = gw
theorem st_apart {w : World} {base g gw size : Nat} {v : Value} {l : List Int} {f : Nat → Bool} (ho : OwnI w base v l) (h : SetIs w g gw f size) : ∀ b, v.ownBlock = some b → ¬ StS g gw b := by
  intro b hb hh
  obtain ⟨wd, hs, _⟩ := h
  rcases hh with rfl | rfl
  · exact owns_ne ho hs.top (by decide) hb
  · exact owns_ne ho hs.row (by decide) hb

/-- What the law's loop holds. -/
structure TkRun (w0 w : World) (g gw size : Nat) (f : Nat → Bool) (v : Value) (l : List Int) : Prop where
  st : StRun w0 w g gw f size
  own : OwnI w w0.heap.size v l
  out : InSet f size l
theorem StRun.notS {w0 w : World} {g gw size : Nat} {f : Nat → Bool} (h : StRun w0 w g gw f size) : ∀ b, b < w0.heap.size → ¬ StS g gw b := fun b hb hh => by
  have := h.b1; have := h.b2
  rcases hh with h | h <;> omega

set_option maxRecDepth 100000 in
set_option maxHeartbeats 4000000 in
theorem takes_any (w : World) (hTab : Tab w) (size : Nat) (hsize : size ≤ 255) (A : Option Addr) (c : Nat) (l : List Nat) (hA : RdB w w.heap.size A l) (hl : l.length ≤ 300) (hu : ∀ n ∈ l, n ≤ 255) :
    Calls Tryd.prog 3 #[.int .u8 size, .slice A l.length c] w fun e w' => e = .returned (.bool true) ∧ Below w.heap.size w w' := by
  obtain ⟨i0, hi0, hz0, hz1, hz2⟩ := info_parts int_info
  have HA := Lib.hid hA
  have HU := Lib.hid hu
  have HTab := Lib.hid hTab
  have hnsz : newSize (size : Int) = size := by unfold newSize; omega
  clear hA hu hTab
  go_enter Tryd.func3, Tryd.ntmps3
  go_wp2_with (go_at_call 10; refine (stNew w _).mono ?_; rintro x w1 ⟨g, gw, rfl, h1⟩)
  rw [hnsz] at h1
  have hR : TkRun w w1 g gw size (fun _ => false) (.slice none 0 0) [] := ⟨h1, World.ownsRow_nil _ _ _ _, InSet.nil _⟩
  clear h1 hnsz
  go_loopw [6, 7] (fun v i wr => ∃ (k : Nat) (f : Nat → Bool) (o : List Int), k ≤ l.length ∧ o.length ≤ k ∧ i = .int .i64 k ∧ TkRun w wr g gw size f v o) (fun _ i _ => l.length - (intOf i).toNat)
  case atStart => exact ⟨0, _, [], Nat.zero_le _, Nat.le_refl _, rfl, hR⟩
  case round =>
    clear hR
    obtain ⟨k, f, o, hk', hok, rfl, hR⟩ := hrel
    obtain ⟨Ao, co, rfl⟩ := owns_form hR.own
    rcases Nat.lt_or_ge k l.length with hlt | hge
    · obtain ⟨ad, rfl, hab, hcc⟩ := (HA.out.below hR.st.below).at_ hlt
      have hu : l[k]?.getD 0 ≤ 255 := HU.out _ (by simp [hlt])
      generalize l[k]?.getD 0 = n at *
      have hcu : wr.cell? (ad.add k) = some (.int .u8 (n : Int)) := hcc
      clear hcc
      have hTab := hR.st.tab HTab.out
      obtain ⟨T, HT⟩ : ∃ T : Bool, Hid (T = (decide (n % 3 = 0) && decide (0 < o.length))) := ⟨_, rfl⟩
      go_upto_region 8 with fail
      go_cut [35] (fun s wx => s = .bool T ∧ wr = wx)
      case first =>
        by_cases h3 : n % 3 = 0
        · have hT : ((n : Int) % 3 == 0) = true := by rw [beq_iff_eq]; omega
          have HV : Hid (T = decide (0 < o.length)) := by show _ = _; rw [HT.out, decide_eq_true h3, Bool.true_and]
          clear h3
          go_wp2
          go_meet
          exact ⟨by rw [HV.out]; try simp, rfl⟩
        · have hT : ((n : Int) % 3 == 0) = false := by rw [beq_eq_false_iff_ne]; omega
          have HV : Hid (T = false) := by show _ = _; rw [HT.out, decide_eq_false h3, Bool.false_and]
          clear h3
          go_wp2
          go_meet
          exact ⟨by rw [HV.out], rfl⟩
      case rest =>
        obtain ⟨rfl, rfl⟩ := hcut
        go_upto_if 35 with fail
        cases hTv : T
        · subst hTv
          clear HT
          rcases Nat.lt_or_ge o.length size with hlo | hlo
          · have hcn : cntB f size < size := by rw [hR.out.cnt]; exact hlo
            obtain ⟨q, hq, hqf, hql⟩ := hole_of hcn
            have HK := Lib.hid (isTake_some hR.st.set hTab hq hqf hql)
            have hlo2 : (o.length : Int) < size := by omega
            clear hcn
            go_wp2_with (go_at_call 12; refine HK.out.mono ?_; rintro x w2 ⟨rfl, hE2, hF2⟩)
            have hap := st_apart hR.own hR.st.set
            have hO2 : OwnI w2 w.heap.size (.slice Ao o.length co) o := owns_same hR.own fun b hb => hF2.block b (World.ownsRow.lt hR.own b hb).2 (hap b hb)
            have hS2 := hR.st.step hE2 hF2
            obtain ⟨hON, hno⟩ := hR.out.new hq hqf
            have HON := Lib.hid hON
            have HNO := Lib.hid hno
            have HO2 := Lib.hid hO2
            clear hON hno hO2 hqf hql HK
            go_loop [11] (fun j => ∃ jn : Nat, jn ≤ o.length ∧ j = .int .i64 jn) (fun j => o.length - (intOf j).toNat)
            case atStart => exact ⟨0, Nat.zero_le _, rfl⟩
            case round =>
              obtain ⟨jn, hjn, rfl⟩ := hrel
              rcases Nat.lt_or_ge jn o.length with hjl | hjl
              · obtain ⟨b, cap, hv, hbb, hbl⟩ := World.ownsRow.form HO2.out (by omega)
                injection hv with hv1 hv2 hv3
                subst hv1 hv3
                clear hv2
                have hcj : w2.cell? ⟨b, jn, none⟩ = some (.int .i64 o[jn]) := by
                  have := World.ownsRow.cellAt HO2.out jn (by omega)
                  rw [this]
                  simp [hjl]
                have hz : (o[jn] == (q : Int)) = false := beq_eq_false_iff_ne.2 fun e => HNO.out (e ▸ List.getElem_mem hjl)
                generalize o[jn] = z at *
                go_wp2
                go_round
                case rel => exact ⟨jn + 1, by omega, by go_num⟩
                case measure => simp [intOf]; omega
              · have hup : updB f q true q = true := by simp [updB]
                have HH := Lib.hid (isHas hE2 (q : Int))
                rw [mayB_nat hq, Int.toNat_natCast, hup, Bool.true_and] at HH
                have HP := Lib.hid (isPut_no hE2 (n := (q : Int)) (by rw [mayB_nat hq, Int.toNat_natCast, hup]; rfl))
                have hq0 : (0 : Int) ≤ q := by omega
                have hq1 : (q : Int) < size := by omega
                have HO3 : Hid ((w2.alloc (.cells #[.int .i64 (q : Int)] 3)).ownsRow w.heap.size 3 1 (.slice Ao o.length co) o.length (o.map (Value.int .i64))) := (HO2.out : w2.ownsRow _ _ _ _ _ _).alloc _
                have HR3 : Hid (Rd (w2.alloc (.cells #[.int .i64 (q : Int)] 3)) (w2.heap.size + 1) (some ⟨w2.heap.size, 0, none⟩) ([(q : Int)].map (Value.int .i64))) := rd_lit w2 [(q : Int)] rfl
                clear hup
                go_wp2_with (first
                  | (go_at_call 13; refine HH.out.mono ?_; rintro x w4 ⟨rfl, rfl⟩)
                  | (go_at_call 14; refine HP.out.mono ?_; rintro x w4 ⟨rfl, rfl⟩)
                  | (at_builtin; refine wpList_append_rd rfl (.tmp 115) (.tmp 117) 26 rfl w.heap.size 3 i0 (.int .i64 0) 8 Tryd.underlying26 hi0 hz0 hz1 hz2 rfl (.slice Ao o.length co) o.length _ rfl HO3.out _ (some ⟨w2.heap.size, 0, none⟩) 1 1 ([(q : Int)].map (Value.int .i64)) rfl rfl HR3.out (oneI _) (by simp [maxLen]; omega) (by simp; omega) (by have := hS2.below.size; simp; omega) ?_; intro v3 w3 hown hg hat))
                have hF3 : Fr (fun b => (Value.slice Ao o.length co).ownBlock = some b) w2 w3 := ((Fr.refl _ w2).alloc _).grown hg fun b hb _ => hb
                have hE3 := hE2.fr hF3 (fun hb => hap g hb (.inl rfl)) (fun hb => hap gw hb (.inr rfl))
                go_roundw
                case rel =>
                  refine ⟨k + 1, _, _, by omega, ?_, by go_num, ⟨⟨hE3, hR.st.b1, hR.st.b2, hS2.below.trans (hF3.below hS2.below.size (fun b hb hb2 => by have := (World.ownsRow.lt hR.own b hb2).1; omega))⟩, ?_, HON.out⟩⟩
                  · simp; omega
                  · simpa [OwnI] using hown
                case measure => simp [intOf]; omega
          · have hcn : cntB f size = size := by
              have h1 := cntB_le f size
              rw [hR.out.cnt] at h1 ⊢
              omega
            have HK := Lib.hid (isTake_none hR.st.set hcn)
            have hlo2 : (size : Int) ≤ o.length := by omega
            clear hcn
            go_wp2_with (go_at_call 12; refine HK.out.mono ?_; rintro x w2 ⟨rfl, rfl⟩)
            go_roundw
            case rel => exact ⟨k + 1, f, o, by omega, by omega, by go_num, hR⟩
            case measure => simp [intOf]; omega
        · subst hTv
          have hq : n % 3 = 0 ∧ 0 < o.length := by simpa using HT.out.symm
          obtain ⟨_, hq2⟩ := hq
          clear HT
          have hq2i : (0 : Int) < o.length := by omega
          have hjl : n / 3 % o.length < o.length := Nat.mod_lt _ hq2
          have hjq : ((n : Int) / 3) % (o.length : Int) = ((n / 3 % o.length : Nat) : Int) := by norm_cast
          generalize n / 3 % o.length = j at *
          obtain ⟨m, em, hm, hfm, hO2⟩ := hR.out.old hjl
          obtain ⟨b, cap, hv, hbb, hbl⟩ := World.ownsRow.form hR.own hq2
          injection hv with hv1 hv2 hv3
          subst hv1 hv3
          clear hv2
          have hcj : wr.cell? ⟨b, j, none⟩ = some (.int .i64 (m : Int)) := by
            have := World.ownsRow.cellAt hR.own j (by omega)
            rw [this]
            simp [hjl, em]
          have hap := st_apart hR.own hR.st.set b (by simp [Value.ownBlock])
          have HD := Lib.hid (isDrop_old hR.st.set hm hfm)
          have HDN : Hid (∀ W, SetIs W g gw (updB f m false) size → Calls Tryd.prog 11 #[.pointer (some ⟨g, 0, none⟩), .int .i64 (m : Int)] W fun x w' => x = .returned (.bool false) ∧ W = w') := fun W hW =>
            isDrop_no hW (by simp [updB])
          have HKB : Hid (∀ W, Fr (StS g gw) wr W → W.cell? ⟨b, j, none⟩ = some (.int .i64 (m : Int))) := fun W hF => (hF.cell (a := ⟨b, j, none⟩) hbl hap).trans hcj
          have HO2 := Lib.hid hO2
          clear em hO2 hfm
          go_wp2_with (first
            | (go_at_call 11; refine HD.out.mono ?_; rintro x w2 ⟨rfl, hE2, hF2⟩; have hcj2 := HKB.out _ hF2)
            | (go_at_call 11; refine (HDN.out _ hE2).mono ?_; rintro x w3 ⟨rfl, rfl⟩))
          all_goals
            clear HD HDN
            have hO : OwnI w2 w.heap.size (.slice (some ⟨b, 0, none⟩) o.length co) o := owns_same hR.own fun b' hb => hF2.block b' (World.ownsRow.lt hR.own b' hb).2 (st_apart hR.own hR.st.set b' hb)
            have hS2 := hR.st.step hE2 hF2
            have hlc : o.length ≤ co := by
              rcases (hO : w2.ownsRow _ _ _ _ _ _).2 with ⟨h, _⟩ | ⟨g', cap', cur', h, _, _, hle, _⟩
              · cases h
              · injection h with _ _ h3; omega
            have hbl2 : b < w2.heap.size := Nat.lt_of_lt_of_le hbl hF2.size
            have hjc : j ≤ co := by omega
            have hjc1 : j + 1 ≤ o.length := by omega
            have hw : IntKind.i64.wrap ((j : Int) + 1) = (j : Int) + 1 := IntWalk.i64_in _ (by omega)
            have hw0 : (0 : Int) ≤ (j : Int) + 1 := by omega
            have hw1 : ((j : Int) + 1).toNat = j + 1 := by omega
            have hw2 : (j : Int) + 1 ≤ o.length := by omega
            have E1 : Hid ((w2.drew.alloc (.cells #[] 3)).ownsRow w.heap.size 3 1 (.slice (some ⟨w2.heap.size, 0, none⟩) 0 0) 0 []) := World.ownsRow_made w2.drew #[] 0 hS2.below.size (by decide) rfl
            have R1 : Hid (Rd (w2.drew.alloc (.cells #[] 3)) w2.heap.size (some ⟨b, 0, none⟩) ((o.take j).map (Value.int .i64))) := own_rd_take hO rfl (Below.heap_alloc w2.drew _ b hbl2) j
            obtain ⟨ad2, had2⟩ : ∃ ad2, (if co = j + 1 then (some ⟨b, 0, none⟩ : Option Addr) else some ⟨b, j + 1, none⟩) = ad2 := ⟨_, rfl⟩
            have R3 : Hid (∀ w1, (w2.drew.alloc (.cells #[] 3)).grownBy w1 (some w2.heap.size) → Rd w1 w2.heap.size ad2 ((o.drop (j + 1)).map (Value.int .i64))) := fun w1 hg => by
              subst had2
              split
              · rw [List.drop_of_length_le (by omega)]
                exact Rd.nil _ _ _
              · exact own_rd hO rfl ((hg.block b (by simp; omega) (by simp; omega)).trans (Below.heap_alloc w2.drew _ b hbl2)) (j + 1)
            have hB2s := hS2.below.size
            have HSS := Lib.hid hS2
            clear hO hS2
            go_region_law (first
              | (refine step_append_rd rfl (.tmp 60) (.tmp 63) 26 rfl w.heap.size 3 i0 (.int .i64 0) 8 Tryd.underlying26 hi0 hz0 hz1 hz2 rfl (.slice (some ⟨w2.heap.size, 0, none⟩) 0 0) 0 [] (by simp [Act.eval]) E1.out w2.heap.size (some ⟨b, 0, none⟩) j co ((o.take j).map (Value.int .i64)) (by simp [Act.eval]) (by simp; omega) R1.out (oneI _) (by simp [maxLen]; omega) (by simp; omega) (by simp; omega) ?_; intro v1 w3 hown1 hg1 hat1)
              | (refine step_append_rd rfl (.tmp 64) (.tmp 68) 26 rfl w.heap.size 3 i0 (.int .i64 0) 8 Tryd.underlying26 hi0 hz0 hz1 hz2 rfl v1 _ _ (by simp [Act.eval]) hown1 w2.heap.size ad2 (o.length - (j + 1)) (co - (j + 1)) ((o.drop (j + 1)).map (Value.int .i64)) (by simp [Act.eval]) (by simp) (R3.out w3 hg1) (oneI _) (by simp [maxLen]; omega) (by simp; omega) (by have := hg1.size; simp at this; omega) ?_; intro v2 w4 hown2 hg2 hat2))
            all_goals
              have hFa : Fr (fun _ => False) w2 w3 := (((Fr.refl (fun _ => False) w2).drew).alloc _).grown hg1 (fun k hk hk2 => by simp [Value.ownBlock] at hk; omega)
              have hF4 : Fr (fun _ => False) w2 w4 := hFa.grown hg2 (fun k hk hk2 => by
                rcases hat1 with h | h
                · rw [h] at hk; simp [Value.ownBlock] at hk; omega
                · rw [h] at hk; simp at hk; omega)
              have HO4 : Hid (OwnI w4 w.heap.size v2 (o.take j ++ o.drop (j + 1))) := by
                show OwnI _ _ _ _
                have e : 0 + ((o.take j).map (Value.int .i64)).length + ((o.drop (j + 1)).map (Value.int .i64)).length = (o.take j ++ o.drop (j + 1)).length := by simp
                rw [e, List.nil_append, ← List.map_append] at hown2
                exact hown2
              clear hown1 hown2 hg1 hg2 hat1 hat2 E1 R1 R3 had2 hw hw0 hw1 hw2
              go_wp2
              go_roundw
              case rel => exact ⟨k + 1, _, _, by omega, by simp; omega, by go_num, ⟨HSS.out.set.fr hF4 id id, hR.st.b1, hR.st.b2, HSS.out.below.trans (hF4.below HSS.out.below.size fun _ _ => id)⟩, HO4.out, HO2.out⟩
              case measure => simp [intOf]; omega
    · have HL := Lib.hid (isLen hR.st.set)
      rw [hR.out.cnt] at HL
      have HV := Lib.hid (bitsLives (hR.st.tab HTab.out))
      go_wp2_with (first
        | (go_at_call 15; refine HL.out.mono ?_; rintro x w3 ⟨rfl, rfl⟩)
        | (go_at_call 9; refine HV.out.mono ?_; rintro x w7 ⟨rfl, hB7⟩))
      go_ret
      exact ⟨rfl, hR.st.below.trans (hB7.mono hR.st.below.size)⟩

set_option maxRecDepth 100000 in
theorem takes_great (w : World) (hTab : Tab w) (z : Value) (A : Option Addr) (c n : Nat) (hl : 300 < n) (hn : n ≤ 9223372036854775807) :
    Calls Tryd.prog 3 #[z, .slice A n c] w fun e w' => e = .returned (.bool true) ∧ Below w.heap.size w w' := by
  have hli : (300 : Int) < n := by omega
  have HV := Lib.hid (bitsLives hTab)
  clear hTab
  go_enter Tryd.func3, Tryd.ntmps3
  go_wp2_with (go_at_call 9; refine HV.out.mono ?_; rintro x w7 ⟨rfl, hB7⟩)
  go_ret
  exact ⟨rfl, hB7⟩
end Go.Proofs.YtcbfaahnhdmagaaDoor
