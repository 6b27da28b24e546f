/- A byte stored into a slice of the call's own; a slice made of so many bytes. -/
import Derived.Test.YtckdellcnoojaaaRRRSamG
namespace Go.Proofs.YtckdellcnoojaaaRRR
open Go.RowKit

theorem OwnY.set {w : World} {base g n c : Nat} {l : List UInt8} (h : OwnY w base (.slice (some ⟨g, 0, none⟩) n c) l) {k : Nat} (hk : k < l.length) (x : UInt8) : OwnY (w.setCell ⟨g, k, none⟩ (.int .u8 (x.toNat : Int))) base (.slice (some ⟨g, 0, none⟩) n c) (l.set k x) := by
  rcases h.2 with ⟨_, hv⟩ | ⟨g', cap, cur, hv, hb, hg, hnc, hcm, hsz, htk⟩
  · simp at hv
    subst hv
    simp at hk
  · injection hv with h1 h2 h3
    injection h1 with h1
    injection h1 with h1
    subst h1 h2 h3
    have hbk : Bk w g 5 cur := hg
    refine ⟨by simp, .inr ⟨g, c, cur.setIfInBounds k (bv x), by simp, hb, hbk.set k (bv x), by simpa using hnc, hcm, by simpa using hsz, ?_⟩⟩
    simp only [List.length_set, Array.toList_setIfInBounds, List.map_set]
    rw [← htk, List.take_set]
end Go.Proofs.YtckdellcnoojaaaRRR
