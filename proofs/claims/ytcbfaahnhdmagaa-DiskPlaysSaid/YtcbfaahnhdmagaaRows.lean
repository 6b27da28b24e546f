/-
  No cell of these rows narrows 'for every input' (looked for: loops, veiled, ifaces, maps, wideKeys, modest, calm, conditions, laid).
  DERIVED. THE GIVEN ROWS OF THIS SEAT. 6 by the template 'for every input the law returns true; each argument reads behind the call as it read before'; 0 by the template 'total and deterministic' (their statements: YtcbfaahnhdmagaaTotals.lean).
  GIVEN WITH THE SEED: the statements are not yours to turn. If you find one false, say at which input.
  Laid BY PROGRAM, IN A SANDBOX (cutbox-rows.mjs): the forced cells as the released guide's own fill.sh prints them over the translation 21b82088edf0feaa… (all of the seat's roots in one cut). By AI agents, Wed Nov 11 2026. No macro, syntax, notation, axiom, sorry.
-/
import Derived.Test.YtcbfaahnhdmagaaChecked
import GoSem.Claim
import GoSem.ClaimJoined
import GoSem.ClaimMapViews
import Derived.JoinedTies
import Derived.KernelRfl
namespace Go.Proofs.Ytcbfaahnhdmagaa
/- THE CELL 'sum', in the pinned program and in every row, IS THE sha256 OF THE DUMP (.gsa) THAT YtcbfaahnhdmagaaProg.lean LOADS. Nothing in Lean hashes anything: it is a label: what it is worth is what the hold of that sum in a sandbox is worth. -/
noncomputable def Try.pinned : Pinned := { name := "ytcbfaahnhdmagaa", sum := "21b82088edf0feaa9233fc65c5b6937eb35b142da1aca0d85b546d74af2bc75d", checked := Try.checked }
namespace Rows
def none {H : Type} : Left H := { results := [], args := [] }

/-- 'gunnylaw07.LuckKeeps': WHATEVER THE INPUT: true; the input reads as it did. -/
def luckKeepsSpec : ChangeSpec := { name := "luckKeeps", fn := fun _ => fun
  | [d] => { results := [.lit (.bool true)], args := [d] }
  | _ => none }
def luckKeepsRow : OpenClaim := { program := "ytcbfaahnhdmagaa", sum := "21b82088edf0feaa9233fc65c5b6937eb35b142da1aca0d85b546d74af2bc75d", func := "gunny/gunnylaw07.LuckKeeps", spec := "luckKeeps", apart := false }
def LuckKeepsSaid : Prop := luckKeepsRow.holds Try.pinned (OpenSpec.ofChange luckKeepsSpec)

/-- ITS FALSE NEIGHBOUR: 'it returns false'. Refute it at one input. -/
def luckKeepsWrong : ChangeSpec := { name := "luckKeeps", fn := fun _ => fun
  | [d] => { results := [.lit (.bool false)], args := [d] }
  | _ => none }
def LuckKeepsWrongFalsely : Prop := luckKeepsRow.holds Try.pinned (OpenSpec.ofChange luckKeepsWrong)

/-- 'gunnylaw07.LuckPlays': WHATEVER THE INPUT: true; the input reads as it did. -/
def luckPlaysSpec : ChangeSpec := { name := "luckPlays", fn := fun _ => fun
  | [d1, d2] => { results := [.lit (.bool true)], args := [d1, d2] }
  | _ => none }
def luckPlaysRow : OpenClaim := { program := "ytcbfaahnhdmagaa", sum := "21b82088edf0feaa9233fc65c5b6937eb35b142da1aca0d85b546d74af2bc75d", func := "gunny/gunnylaw07.LuckPlays", spec := "luckPlays", apart := false }
def LuckPlaysSaid : Prop := luckPlaysRow.holds Try.pinned (OpenSpec.ofChange luckPlaysSpec)

/-- ITS FALSE NEIGHBOUR: 'it returns false'. Refute it at one input. -/
def luckPlaysWrong : ChangeSpec := { name := "luckPlays", fn := fun _ => fun
  | [d1, d2] => { results := [.lit (.bool false)], args := [d1, d2] }
  | _ => none }
def LuckPlaysWrongFalsely : Prop := luckPlaysRow.holds Try.pinned (OpenSpec.ofChange luckPlaysWrong)

/-- 'gunnylaw07.LuckCounts': WHATEVER THE INPUT: true; the input reads as it did. -/
def luckCountsSpec : ChangeSpec := { name := "luckCounts", fn := fun _ => fun
  | [d1, d2] => { results := [.lit (.bool true)], args := [d1, d2] }
  | _ => none }
def luckCountsRow : OpenClaim := { program := "ytcbfaahnhdmagaa", sum := "21b82088edf0feaa9233fc65c5b6937eb35b142da1aca0d85b546d74af2bc75d", func := "gunny/gunnylaw07.LuckCounts", spec := "luckCounts", apart := false }
def LuckCountsSaid : Prop := luckCountsRow.holds Try.pinned (OpenSpec.ofChange luckCountsSpec)

/-- ITS FALSE NEIGHBOUR: 'it returns false'. Refute it at one input. -/
def luckCountsWrong : ChangeSpec := { name := "luckCounts", fn := fun _ => fun
  | [d1, d2] => { results := [.lit (.bool false)], args := [d1, d2] }
  | _ => none }
def LuckCountsWrongFalsely : Prop := luckCountsRow.holds Try.pinned (OpenSpec.ofChange luckCountsWrong)

/-- 'gunnylaw08.DiskFails': WHATEVER THE INPUT: true; the input reads as it did. -/
def diskFailsSpec : ChangeSpec := { name := "diskFails", fn := fun _ => fun
  | [d1, d2, d3] => { results := [.lit (.bool true)], args := [d1, d2, d3] }
  | _ => none }
def diskFailsRow : OpenClaim := { program := "ytcbfaahnhdmagaa", sum := "21b82088edf0feaa9233fc65c5b6937eb35b142da1aca0d85b546d74af2bc75d", func := "gunny/gunnylaw08.DiskFails", spec := "diskFails", apart := false }
def DiskFailsSaid : Prop := diskFailsRow.holds Try.pinned (OpenSpec.ofChange diskFailsSpec)

/-- ITS FALSE NEIGHBOUR: 'it returns false'. Refute it at one input. -/
def diskFailsWrong : ChangeSpec := { name := "diskFails", fn := fun _ => fun
  | [d1, d2, d3] => { results := [.lit (.bool false)], args := [d1, d2, d3] }
  | _ => none }
def DiskFailsWrongFalsely : Prop := diskFailsRow.holds Try.pinned (OpenSpec.ofChange diskFailsWrong)

/-- 'gunnylaw08.DiskAsks': WHATEVER THE INPUT: true; the input reads as it did. -/
def diskAsksSpec : ChangeSpec := { name := "diskAsks", fn := fun _ => fun
  | [d] => { results := [.lit (.bool true)], args := [d] }
  | _ => none }
def diskAsksRow : OpenClaim := { program := "ytcbfaahnhdmagaa", sum := "21b82088edf0feaa9233fc65c5b6937eb35b142da1aca0d85b546d74af2bc75d", func := "gunny/gunnylaw08.DiskAsks", spec := "diskAsks", apart := false }
def DiskAsksSaid : Prop := diskAsksRow.holds Try.pinned (OpenSpec.ofChange diskAsksSpec)

/-- ITS FALSE NEIGHBOUR: 'it returns false'. Refute it at one input. -/
def diskAsksWrong : ChangeSpec := { name := "diskAsks", fn := fun _ => fun
  | [d] => { results := [.lit (.bool false)], args := [d] }
  | _ => none }
def DiskAsksWrongFalsely : Prop := diskAsksRow.holds Try.pinned (OpenSpec.ofChange diskAsksWrong)

/-- 'gunnylaw08.DiskPlays': WHATEVER THE INPUT: true; the input reads as it did. -/
def diskPlaysSpec : ChangeSpec := { name := "diskPlays", fn := fun _ => fun
  | [d1, d2, d3] => { results := [.lit (.bool true)], args := [d1, d2, d3] }
  | _ => none }
def diskPlaysRow : OpenClaim := { program := "ytcbfaahnhdmagaa", sum := "21b82088edf0feaa9233fc65c5b6937eb35b142da1aca0d85b546d74af2bc75d", func := "gunny/gunnylaw08.DiskPlays", spec := "diskPlays", apart := false }
def DiskPlaysSaid : Prop := diskPlaysRow.holds Try.pinned (OpenSpec.ofChange diskPlaysSpec)

/-- ITS FALSE NEIGHBOUR: 'it returns false'. Refute it at one input. -/
def diskPlaysWrong : ChangeSpec := { name := "diskPlays", fn := fun _ => fun
  | [d1, d2, d3] => { results := [.lit (.bool false)], args := [d1, d2, d3] }
  | _ => none }
def DiskPlaysWrongFalsely : Prop := diskPlaysRow.holds Try.pinned (OpenSpec.ofChange diskPlaysWrong)

/- THE SECOND FORM. 'bulk': how many values and letters a reading holds, each counted each time it is reached (what is shared counts as often as it is met; a slice's spare places count too). A statement '..UptoSaid' is the law's where the arguments, and the package variables that the reading takes, are together of bulk at most 1048576: NARROWER than '..Said'. Prove '..Said' where nothing that the law and all that it calls make is longer than what came in: it says more and counts as full. Else prove '..UptoSaid'. A law counts once. -/
mutual
def uptoBulk {H : Type} : DataW H → Nat
  | .lit (.string bytes) => bytes.length + 1
  | .lit _ => 1
  | .nil => 1
  | .ptr d => uptoBulk d + 1
  | .slice elems spare => uptoBulkAll elems + uptoBulkAll spare + 1
  | .agg parts => uptoBulkAll parts + 1
  | .iface _ d => uptoBulk d + 1
  | .map entries => uptoBulkEntries entries + 1
  | .held _ => 1
def uptoBulkAll {H : Type} : List (DataW H) → Nat
  | [] => 0
  | d :: r => uptoBulk d + uptoBulkAll r
def uptoBulkEntries {H : Type} : List (Lit × DataW H) → Nat
  | [] => 0
  | x :: r => uptoBulkEntry x + uptoBulkEntries r
def uptoBulkEntry {H : Type} : Lit × DataW H → Nat
  | (.string bytes, d) => bytes.length + uptoBulk d + 1
  | (_, d) => uptoBulk d + 1
 end
def uptoSmall : (H : Type) → List (DataW H) → Bool := fun _ ds => decide (uptoBulkAll ds ≤ 1048576)
def OpenSpec.upto (s : _root_.Go.ChangeSpec) : _root_.Go.OpenSpec := { _root_.Go.OpenSpec.ofChange s with cond := some uptoSmall }

/-- 'gunnylaw07.LuckKeeps', WHERE WHAT IT READS IS OF BULK AT MOST 1048576: true; the input reads as it did. -/
def luckKeepsUptoRow : OpenClaim := { program := "ytcbfaahnhdmagaa", sum := "21b82088edf0feaa9233fc65c5b6937eb35b142da1aca0d85b546d74af2bc75d", func := "gunny/gunnylaw07.LuckKeeps", spec := "luckKeeps", apart := false, narrowed := true }
def LuckKeepsUptoSaid : Prop := luckKeepsUptoRow.holds Try.pinned (OpenSpec.upto luckKeepsSpec)

/-- 'gunnylaw07.LuckPlays', WHERE WHAT IT READS IS OF BULK AT MOST 1048576: true; the input reads as it did. -/
def luckPlaysUptoRow : OpenClaim := { program := "ytcbfaahnhdmagaa", sum := "21b82088edf0feaa9233fc65c5b6937eb35b142da1aca0d85b546d74af2bc75d", func := "gunny/gunnylaw07.LuckPlays", spec := "luckPlays", apart := false, narrowed := true }
def LuckPlaysUptoSaid : Prop := luckPlaysUptoRow.holds Try.pinned (OpenSpec.upto luckPlaysSpec)

/-- 'gunnylaw07.LuckCounts', WHERE WHAT IT READS IS OF BULK AT MOST 1048576: true; the input reads as it did. -/
def luckCountsUptoRow : OpenClaim := { program := "ytcbfaahnhdmagaa", sum := "21b82088edf0feaa9233fc65c5b6937eb35b142da1aca0d85b546d74af2bc75d", func := "gunny/gunnylaw07.LuckCounts", spec := "luckCounts", apart := false, narrowed := true }
def LuckCountsUptoSaid : Prop := luckCountsUptoRow.holds Try.pinned (OpenSpec.upto luckCountsSpec)

/-- 'gunnylaw08.DiskFails', WHERE WHAT IT READS IS OF BULK AT MOST 1048576: true; the input reads as it did. -/
def diskFailsUptoRow : OpenClaim := { program := "ytcbfaahnhdmagaa", sum := "21b82088edf0feaa9233fc65c5b6937eb35b142da1aca0d85b546d74af2bc75d", func := "gunny/gunnylaw08.DiskFails", spec := "diskFails", apart := false, narrowed := true }
def DiskFailsUptoSaid : Prop := diskFailsUptoRow.holds Try.pinned (OpenSpec.upto diskFailsSpec)

/-- 'gunnylaw08.DiskAsks', WHERE WHAT IT READS IS OF BULK AT MOST 1048576: true; the input reads as it did. -/
def diskAsksUptoRow : OpenClaim := { program := "ytcbfaahnhdmagaa", sum := "21b82088edf0feaa9233fc65c5b6937eb35b142da1aca0d85b546d74af2bc75d", func := "gunny/gunnylaw08.DiskAsks", spec := "diskAsks", apart := false, narrowed := true }
def DiskAsksUptoSaid : Prop := diskAsksUptoRow.holds Try.pinned (OpenSpec.upto diskAsksSpec)

/-- 'gunnylaw08.DiskPlays', WHERE WHAT IT READS IS OF BULK AT MOST 1048576: true; the input reads as it did. -/
def diskPlaysUptoRow : OpenClaim := { program := "ytcbfaahnhdmagaa", sum := "21b82088edf0feaa9233fc65c5b6937eb35b142da1aca0d85b546d74af2bc75d", func := "gunny/gunnylaw08.DiskPlays", spec := "diskPlays", apart := false, narrowed := true }
def DiskPlaysUptoSaid : Prop := diskPlaysUptoRow.holds Try.pinned (OpenSpec.upto diskPlaysSpec)

end Rows
end Go.Proofs.Ytcbfaahnhdmagaa
