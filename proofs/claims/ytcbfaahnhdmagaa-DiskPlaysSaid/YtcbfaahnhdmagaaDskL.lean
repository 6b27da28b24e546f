/- The reference's disk, of any number: Read, Write, Peek; it answers as the program's disk. -/
import Derived.Test.YtcbfaahnhdmagaaDskK
namespace Go.Proofs.Ytcbfaahnhdmagaa
open Go.RowKit

/-- What was written there last is what lies there. -/
def SecIs (m : Nat) (rs : List Wr) (bs : List UInt8) : Prop := ∀ k, k < m → pkW rs k = sec bs k
section
variable {w : World} {B B2 base : Nat} {A AL Ab : Option Addr} {m a c cL cb : Nat} {l : List Bool} {b bs : List UInt8} {rs : List Wr}
theorem rPeek_all (X : Value) (hR : RefL w base (.slice AL rs.length cL) rs) (hl : rs.length ≤ 1000) (hs : SecIs m rs bs) (n : Int) :
    Calls Try.prog 28 #[.agg #[.int .i64 m, X, .int .i64 a, .slice AL rs.length cL], .int .i64 n] w fun e w' => ∃ A' c', e = .returned (.slice A' (pkL m bs n).length c') ∧ OwnY w' w.heap.size (.slice A' (pkL m bs n).length c') (pkL m bs n) ∧ Below w.heap.size w w' := by
  cases hi : inD m n
  · rw [show pkL m bs n = [] by unfold pkL; rw [hi]; rfl]
    refine (rPeek_out w X _ m a n (inD_no hi)).mono ?_
    rintro e w' ⟨rfl, hB⟩
    exact ⟨none, 0, rfl, OwnY.nil _ _, hB⟩
  · obtain ⟨k, rfl, hk⟩ := inD_yes hi
    rw [show pkL m bs (k : Int) = sec bs k by unfold pkL; rw [hi]; rfl, ← hs k hk]
    refine (rPeek_in X m a k hR hl hk).mono ?_
    rintro e w' ⟨A', c', rfl, h1, h2, h3⟩
    rw [h2]
    exact ⟨A', c', rfl, h1, h3⟩
theorem rRead_all (hA : RdB w B A l) (hB : B ≤ w.heap.size) (hR : RefL w base (.slice AL rs.length cL) rs) (hl : rs.length ≤ 1000) (ha : a ≤ 1000000) (hs : SecIs m rs bs) (n : Int) :
    Calls Try.prog 26 #[.agg #[.int .i64 m, .slice A l.length c, .int .i64 a, .slice AL rs.length cL], .int .i64 n] w fun e w' => ∃ A' c', e = .returned (.tuple #[.agg #[.int .i64 m, .slice A l.length c, .int .i64 (askR m n a), .slice AL rs.length cL], .slice A' (rdL l a m bs n).length c', .int .i64 (rErr l a m n)]) ∧ OwnY w' w.heap.size (.slice A' (rdL l a m bs n).length c') (rdL l a m bs n) ∧ Below w.heap.size w w' := by
  cases hi : inD m n
  · have e1 : rErr l a m n = 2 := by unfold rErr; rw [hi]; rfl
    rw [show rdL l a m bs n = [] by unfold rdL; rw [e1]; rfl, e1, show askR m n a = a by unfold askR; rw [hi]; rfl]
    refine (rRead_out w A AL m a l.length c rs.length cL n (inD_no hi)).mono ?_
    rintro e w' ⟨rfl, hB⟩
    exact ⟨none, 0, rfl, OwnY.nil _ _, hB⟩
  · obtain ⟨k, rfl, hk⟩ := inD_yes hi
    rw [show askR m (k : Int) a = a + 1 by unfold askR; rw [hi]; rfl]
    cases hx : l[a]?.getD false
    · have e1 : rErr l a m (k : Int) = 0 := by unfold rErr; rw [hi, hx]; rfl
      have e2 : rdL l a m bs (k : Int) = pkW rs k := by unfold rdL; rw [e1, hs k hk]; rfl
      rw [e1, e2]
      refine (rRead_ok hA hB hR hl ha hk hx).mono ?_
      rintro e w' ⟨A', c', rfl, h1, h2, h3⟩
      rw [h2]
      exact ⟨A', c', rfl, h1, h3⟩
    · have e1 : rErr l a m (k : Int) = 12 := by unfold rErr; rw [hi, hx]; rfl
      rw [show rdL l a m bs (k : Int) = [] by unfold rdL; rw [e1]; rfl, e1]
      refine (rRead_fail hA hB ha hk hx).mono ?_
      rintro e w' ⟨rfl, h1⟩
      exact ⟨none, 0, rfl, OwnY.nil _ _, h1⟩
theorem rWrite_all (hA : RdB w B A l) (hB : B ≤ w.heap.size) (hb : RdY w B2 Ab b) (hB2 : B2 ≤ w.heap.size) (hR : RefL w base (.slice AL rs.length cL) rs) (hbase : base ≤ w.heap.size) (hl : rs.length ≤ 1000) (ha : a ≤ 1000000) (hs : SecIs m rs bs) (hbs : bs.length = 512 * m) (n : Int) :
    Calls Try.prog 27 #[.agg #[.int .i64 m, .slice A l.length c, .int .i64 a, .slice AL rs.length cL], .int .i64 n, .slice Ab b.length cb] w fun e w' => ∃ A2 c2 rs', e = .returned (.tuple #[.agg #[.int .i64 m, .slice A l.length c, .int .i64 (askW m n b.length a), .slice A2 rs'.length c2], .int .i64 (wErr l a m n b.length)]) ∧ RefL w' base (.slice A2 rs'.length c2) rs' ∧ rs'.length ≤ rs.length + 1 ∧ SecIs m rs' (bsW l a m bs n b) ∧ Below w.heap.size w w' := by
  cases hi : inD m n
  · have e1 : wErr l a m n b.length = 2 := by unfold wErr; rw [hi]; rfl
    rw [e1, show bsW l a m bs n b = bs by unfold bsW; rw [e1]; rfl, show askW m n b.length a = a by unfold askW; rw [hi]; rfl]
    refine (rWrite_out w A AL Ab m a l.length c rs.length cL b.length cb n (inD_no hi)).mono ?_
    rintro e w' ⟨rfl, hBw⟩
    exact ⟨AL, cL, rs, rfl, hR.below hBw, by omega, hs, hBw⟩
  · obtain ⟨k, rfl, hk⟩ := inD_yes hi
    by_cases hbl : b.length = 512
    · have ea : askW m (k : Int) b.length a = a + 1 := by unfold askW; rw [hi, if_pos hbl]; rfl
      cases hx : l[a]?.getD false
      · have e1 : wErr l a m (k : Int) b.length = 0 := by unfold wErr; rw [hi, hx, if_pos hbl]; rfl
        have e2 : bsW l a m bs (k : Int) b = putS bs k b := by unfold bsW; rw [e1]; rfl
        rw [ea, e1, e2, hbl]
        refine (rWrite_ok hA hB hb hB2 hbl hR hbase hl ha hk hx).mono ?_
        rintro e w' ⟨A2, c2, rs', rfl, h1, h2, h3, h4⟩
        refine ⟨A2, c2, rs', rfl, h1, by omega, fun q hq => ?_, h4⟩
        rw [h3, sec_put hbs hk hbl, hs q hq]
      · have e1 : wErr l a m (k : Int) b.length = 12 := by unfold wErr; rw [hi, hx, if_pos hbl]; rfl
        rw [ea, e1, show bsW l a m bs (k : Int) b = bs by unfold bsW; rw [e1]; rfl, hbl]
        refine (rWrite_fail hA hB ha hk hx).mono ?_
        rintro e w' ⟨rfl, h1⟩
        exact ⟨AL, cL, rs, rfl, hR.below h1, by omega, hs, h1⟩
    · have e1 : wErr l a m (k : Int) b.length = 1 := by unfold wErr; rw [hi, if_neg hbl]; rfl
      rw [e1, show bsW l a m bs (k : Int) b = bs by unfold bsW; rw [e1]; rfl, show askW m (k : Int) b.length a = a by unfold askW; rw [hi, if_neg hbl]; rfl]
      refine (rWrite_len w A AL Ab m a l.length c rs.length cL b.length cb k hk hbl).mono ?_
      rintro e w' ⟨rfl, hBw⟩
      exact ⟨AL, cL, rs, rfl, hR.below hBw, by omega, hs, hBw⟩
end
end Go.Proofs.Ytcbfaahnhdmagaa
