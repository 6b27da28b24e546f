/-
  No cell of these rows narrows 'for every input' (looked for: loops, veiled, ifaces, maps, wideKeys, modest, calm, conditions, laid).
  DERIVED. THE GIVEN ROWS OF THIS SEAT. 11 by the template 'for every input the law returns true; each argument reads behind the call as it read before'; 0 by the template 'total and deterministic' (their statements: YteifdbfaclpcdaaRTotals.lean).
  GIVEN WITH THE SEED: the statements are not yours to turn. If you find one false, say at which input.
  Laid BY PROGRAM, IN A SANDBOX (cutbox-rows.mjs): the forced cells as the released guide's own fill.sh prints them over the translation 4dc214d81ad75f5c… (all of the seat's roots in one cut). By AI agents, Wed Nov 11 2026. No macro, syntax, notation, axiom, sorry.
-/
import Derived.Test.YteifdbfaclpcdaaRChecked
import GoSem.Claim
import GoSem.ClaimJoined
import GoSem.ClaimMapViews
import Derived.JoinedTies
import Derived.KernelRfl
namespace Go.Proofs.YteifdbfaclpcdaaR
/- THE CELL 'sum', in the pinned program and in every row, IS THE sha256 OF THE DUMP (.gsa) THAT YteifdbfaclpcdaaRProg.lean LOADS. Nothing in Lean hashes anything: it is a label: what it is worth is what the hold of that sum in a sandbox is worth. -/
noncomputable def Try.pinned : Pinned := { name := "yteifdbfaclpcdaar", sum := "4dc214d81ad75f5cfdcf8c9bf6cc328a65f6d559bb7a97f72f7a8ce0b8220670", checked := Try.checked }
namespace Rows
def none {H : Type} : Left H := { results := [], args := [] }

/-- 'gunnylaw27.CountPlays': WHATEVER THE INPUT: true; the input reads as it did. -/
def countPlaysSpec : ChangeSpec := { name := "countPlays", fn := fun _ => fun
  | [d1, d2] => { results := [.lit (.bool true)], args := [d1, d2] }
  | _ => none }
def countPlaysRow : OpenClaim := { program := "yteifdbfaclpcdaar", sum := "4dc214d81ad75f5cfdcf8c9bf6cc328a65f6d559bb7a97f72f7a8ce0b8220670", func := "gunny/gunnylaw27.CountPlays", spec := "countPlays", apart := false }
def CountPlaysSaid : Prop := countPlaysRow.holds Try.pinned (OpenSpec.ofChange countPlaysSpec)

/-- ITS FALSE NEIGHBOUR: 'it returns false'. Refute it at one input. -/
def countPlaysWrong : ChangeSpec := { name := "countPlays", fn := fun _ => fun
  | [d1, d2] => { results := [.lit (.bool false)], args := [d1, d2] }
  | _ => none }
def CountPlaysWrongFalsely : Prop := countPlaysRow.holds Try.pinned (OpenSpec.ofChange countPlaysWrong)

/-- 'gunnylaw27.CountSums': WHATEVER THE INPUT: true; the input reads as it did. -/
def countSumsSpec : ChangeSpec := { name := "countSums", fn := fun _ => fun
  | [d] => { results := [.lit (.bool true)], args := [d] }
  | _ => none }
def countSumsRow : OpenClaim := { program := "yteifdbfaclpcdaar", sum := "4dc214d81ad75f5cfdcf8c9bf6cc328a65f6d559bb7a97f72f7a8ce0b8220670", func := "gunny/gunnylaw27.CountSums", spec := "countSums", apart := false }
def CountSumsSaid : Prop := countSumsRow.holds Try.pinned (OpenSpec.ofChange countSumsSpec)

/-- ITS FALSE NEIGHBOUR: 'it returns false'. Refute it at one input. -/
def countSumsWrong : ChangeSpec := { name := "countSums", fn := fun _ => fun
  | [d] => { results := [.lit (.bool false)], args := [d] }
  | _ => none }
def CountSumsWrongFalsely : Prop := countSumsRow.holds Try.pinned (OpenSpec.ofChange countSumsWrong)

/-- 'gunnylaw27.CountBack': WHATEVER THE INPUT: true; the input reads as it did. -/
def countBackSpec : ChangeSpec := { name := "countBack", fn := fun _ => fun
  | [d1, d2] => { results := [.lit (.bool true)], args := [d1, d2] }
  | _ => none }
def countBackRow : OpenClaim := { program := "yteifdbfaclpcdaar", sum := "4dc214d81ad75f5cfdcf8c9bf6cc328a65f6d559bb7a97f72f7a8ce0b8220670", func := "gunny/gunnylaw27.CountBack", spec := "countBack", apart := false }
def CountBackSaid : Prop := countBackRow.holds Try.pinned (OpenSpec.ofChange countBackSpec)

/-- ITS FALSE NEIGHBOUR: 'it returns false'. Refute it at one input. -/
def countBackWrong : ChangeSpec := { name := "countBack", fn := fun _ => fun
  | [d1, d2] => { results := [.lit (.bool false)], args := [d1, d2] }
  | _ => none }
def CountBackWrongFalsely : Prop := countBackRow.holds Try.pinned (OpenSpec.ofChange countBackWrong)

/-- 'gunnylaw04.RadixStops': WHATEVER THE INPUT: true; the input reads as it did. -/
def radixStopsSpec : ChangeSpec := { name := "radixStops", fn := fun _ => fun
  | [d1, d2, d3] => { results := [.lit (.bool true)], args := [d1, d2, d3] }
  | _ => none }
def radixStopsRow : OpenClaim := { program := "yteifdbfaclpcdaar", sum := "4dc214d81ad75f5cfdcf8c9bf6cc328a65f6d559bb7a97f72f7a8ce0b8220670", func := "gunny/gunnylaw04.RadixStops", spec := "radixStops", unfollowed := true, recurses := true, apart := false }
def RadixStopsSaid : Prop := radixStopsRow.holds Try.pinned (OpenSpec.ofChange radixStopsSpec)

/-- ITS FALSE NEIGHBOUR: 'it returns false'. Refute it at one input. -/
def radixStopsWrong : ChangeSpec := { name := "radixStops", fn := fun _ => fun
  | [d1, d2, d3] => { results := [.lit (.bool false)], args := [d1, d2, d3] }
  | _ => none }
def RadixStopsWrongFalsely : Prop := radixStopsRow.holds Try.pinned (OpenSpec.ofChange radixStopsWrong)

/-- 'gunnylaw22.EntryPlays': WHATEVER THE INPUT: true; the input reads as it did. -/
def entryPlaysSpec : ChangeSpec := { name := "entryPlays", fn := fun _ => fun
  | [d1, d2, d3] => { results := [.lit (.bool true)], args := [d1, d2, d3] }
  | _ => none }
def entryPlaysRow : OpenClaim := { program := "yteifdbfaclpcdaar", sum := "4dc214d81ad75f5cfdcf8c9bf6cc328a65f6d559bb7a97f72f7a8ce0b8220670", func := "gunny/gunnylaw22.EntryPlays", spec := "entryPlays", apart := false }
def EntryPlaysSaid : Prop := entryPlaysRow.holds Try.pinned (OpenSpec.ofChange entryPlaysSpec)

/-- ITS FALSE NEIGHBOUR: 'it returns false'. Refute it at one input. -/
def entryPlaysWrong : ChangeSpec := { name := "entryPlays", fn := fun _ => fun
  | [d1, d2, d3] => { results := [.lit (.bool false)], args := [d1, d2, d3] }
  | _ => none }
def EntryPlaysWrongFalsely : Prop := entryPlaysRow.holds Try.pinned (OpenSpec.ofChange entryPlaysWrong)

/-- 'gunnylaw22.EntryRounds': WHATEVER THE INPUT: true; the input reads as it did. -/
def entryRoundsSpec : ChangeSpec := { name := "entryRounds", fn := fun _ => fun
  | [d] => { results := [.lit (.bool true)], args := [d] }
  | _ => none }
def entryRoundsRow : OpenClaim := { program := "yteifdbfaclpcdaar", sum := "4dc214d81ad75f5cfdcf8c9bf6cc328a65f6d559bb7a97f72f7a8ce0b8220670", func := "gunny/gunnylaw22.EntryRounds", spec := "entryRounds", apart := false }
def EntryRoundsSaid : Prop := entryRoundsRow.holds Try.pinned (OpenSpec.ofChange entryRoundsSpec)

/-- ITS FALSE NEIGHBOUR: 'it returns false'. Refute it at one input. -/
def entryRoundsWrong : ChangeSpec := { name := "entryRounds", fn := fun _ => fun
  | [d] => { results := [.lit (.bool false)], args := [d] }
  | _ => none }
def EntryRoundsWrongFalsely : Prop := entryRoundsRow.holds Try.pinned (OpenSpec.ofChange entryRoundsWrong)

/-- 'gunnylaw22.EntryApart': WHATEVER THE INPUT: true; the input reads as it did. -/
def entryApartSpec : ChangeSpec := { name := "entryApart", fn := fun _ => fun
  | [d] => { results := [.lit (.bool true)], args := [d] }
  | _ => none }
def entryApartRow : OpenClaim := { program := "yteifdbfaclpcdaar", sum := "4dc214d81ad75f5cfdcf8c9bf6cc328a65f6d559bb7a97f72f7a8ce0b8220670", func := "gunny/gunnylaw22.EntryApart", spec := "entryApart", apart := false }
def EntryApartSaid : Prop := entryApartRow.holds Try.pinned (OpenSpec.ofChange entryApartSpec)

/-- ITS FALSE NEIGHBOUR: 'it returns false'. Refute it at one input. -/
def entryApartWrong : ChangeSpec := { name := "entryApart", fn := fun _ => fun
  | [d] => { results := [.lit (.bool false)], args := [d] }
  | _ => none }
def EntryApartWrongFalsely : Prop := entryApartRow.holds Try.pinned (OpenSpec.ofChange entryApartWrong)

/-- 'gunnylaw04.RadixPlays': WHATEVER THE INPUT: true; the input reads as it did. -/
def radixPlaysSpec : ChangeSpec := { name := "radixPlays", fn := fun _ => fun
  | [d1, d2] => { results := [.lit (.bool true)], args := [d1, d2] }
  | _ => none }
def radixPlaysRow : OpenClaim := { program := "yteifdbfaclpcdaar", sum := "4dc214d81ad75f5cfdcf8c9bf6cc328a65f6d559bb7a97f72f7a8ce0b8220670", func := "gunny/gunnylaw04.RadixPlays", spec := "radixPlays", unfollowed := true, recurses := true, apart := false }
def RadixPlaysSaid : Prop := radixPlaysRow.holds Try.pinned (OpenSpec.ofChange radixPlaysSpec)

/-- ITS FALSE NEIGHBOUR: 'it returns false'. Refute it at one input. -/
def radixPlaysWrong : ChangeSpec := { name := "radixPlays", fn := fun _ => fun
  | [d1, d2] => { results := [.lit (.bool false)], args := [d1, d2] }
  | _ => none }
def RadixPlaysWrongFalsely : Prop := radixPlaysRow.holds Try.pinned (OpenSpec.ofChange radixPlaysWrong)

/-- 'gunnylaw04.RadixKeeps': WHATEVER THE INPUT: true; the input reads as it did. -/
def radixKeepsSpec : ChangeSpec := { name := "radixKeeps", fn := fun _ => fun
  | [d1, d2] => { results := [.lit (.bool true)], args := [d1, d2] }
  | _ => none }
def radixKeepsRow : OpenClaim := { program := "yteifdbfaclpcdaar", sum := "4dc214d81ad75f5cfdcf8c9bf6cc328a65f6d559bb7a97f72f7a8ce0b8220670", func := "gunny/gunnylaw04.RadixKeeps", spec := "radixKeeps", unfollowed := true, recurses := true, apart := false }
def RadixKeepsSaid : Prop := radixKeepsRow.holds Try.pinned (OpenSpec.ofChange radixKeepsSpec)

/-- ITS FALSE NEIGHBOUR: 'it returns false'. Refute it at one input. -/
def radixKeepsWrong : ChangeSpec := { name := "radixKeeps", fn := fun _ => fun
  | [d1, d2] => { results := [.lit (.bool false)], args := [d1, d2] }
  | _ => none }
def RadixKeepsWrongFalsely : Prop := radixKeepsRow.holds Try.pinned (OpenSpec.ofChange radixKeepsWrong)

/-- 'gunnylaw24.TreeFull': WHATEVER THE INPUT: true; the input reads as it did. -/
def treeFullSpec : ChangeSpec := { name := "treeFull", fn := fun _ => fun
  | [d1, d2] => { results := [.lit (.bool true)], args := [d1, d2] }
  | _ => none }
def treeFullRow : OpenClaim := { program := "yteifdbfaclpcdaar", sum := "4dc214d81ad75f5cfdcf8c9bf6cc328a65f6d559bb7a97f72f7a8ce0b8220670", func := "gunny/gunnylaw24.TreeFull", spec := "treeFull", unfollowed := true, recurses := true, apart := false }
def TreeFullSaid : Prop := treeFullRow.holds Try.pinned (OpenSpec.ofChange treeFullSpec)

/-- ITS FALSE NEIGHBOUR: 'it returns false'. Refute it at one input. -/
def treeFullWrong : ChangeSpec := { name := "treeFull", fn := fun _ => fun
  | [d1, d2] => { results := [.lit (.bool false)], args := [d1, d2] }
  | _ => none }
def TreeFullWrongFalsely : Prop := treeFullRow.holds Try.pinned (OpenSpec.ofChange treeFullWrong)

/-- 'gunnylaw24.TreeKeeps': WHATEVER THE INPUT: true; the input reads as it did. -/
def treeKeepsSpec : ChangeSpec := { name := "treeKeeps", fn := fun _ => fun
  | [d1, d2] => { results := [.lit (.bool true)], args := [d1, d2] }
  | _ => none }
def treeKeepsRow : OpenClaim := { program := "yteifdbfaclpcdaar", sum := "4dc214d81ad75f5cfdcf8c9bf6cc328a65f6d559bb7a97f72f7a8ce0b8220670", func := "gunny/gunnylaw24.TreeKeeps", spec := "treeKeeps", unfollowed := true, recurses := true, apart := false }
def TreeKeepsSaid : Prop := treeKeepsRow.holds Try.pinned (OpenSpec.ofChange treeKeepsSpec)

/-- ITS FALSE NEIGHBOUR: 'it returns false'. Refute it at one input. -/
def treeKeepsWrong : ChangeSpec := { name := "treeKeeps", fn := fun _ => fun
  | [d1, d2] => { results := [.lit (.bool false)], args := [d1, d2] }
  | _ => none }
def TreeKeepsWrongFalsely : Prop := treeKeepsRow.holds Try.pinned (OpenSpec.ofChange treeKeepsWrong)

/- THE SECOND FORM. 'bulk': how many values and letters a reading holds, each counted each time it is reached (what is shared counts as often as it is met; a slice's spare places count too). A statement '..UptoSaid' is the law's where the arguments, and the package variables that the reading takes, are together of bulk at most 1048576: NARROWER than '..Said'. Prove '..Said' where nothing that the law and all that it calls make is longer than what came in: it says more and counts as full. Else prove '..UptoSaid'. A law counts once. -/
mutual
def uptoBulk {H : Type} : DataW H → Nat
  | .lit (.string bytes) => bytes.length + 1
  | .lit _ => 1
  | .nil => 1
  | .ptr d => uptoBulk d + 1
  | .slice elems spare => uptoBulkAll elems + uptoBulkAll spare + 1
  | .agg parts => uptoBulkAll parts + 1
  | .iface _ d => uptoBulk d + 1
  | .map entries => uptoBulkEntries entries + 1
  | .held _ => 1
def uptoBulkAll {H : Type} : List (DataW H) → Nat
  | [] => 0
  | d :: r => uptoBulk d + uptoBulkAll r
def uptoBulkEntries {H : Type} : List (Lit × DataW H) → Nat
  | [] => 0
  | x :: r => uptoBulkEntry x + uptoBulkEntries r
def uptoBulkEntry {H : Type} : Lit × DataW H → Nat
  | (.string bytes, d) => bytes.length + uptoBulk d + 1
  | (_, d) => uptoBulk d + 1
 end
def uptoSmall : (H : Type) → List (DataW H) → Bool := fun _ ds => decide (uptoBulkAll ds ≤ 1048576)
def OpenSpec.upto (s : _root_.Go.ChangeSpec) : _root_.Go.OpenSpec := { _root_.Go.OpenSpec.ofChange s with cond := some uptoSmall }

/-- 'gunnylaw27.CountPlays', WHERE WHAT IT READS IS OF BULK AT MOST 1048576: true; the input reads as it did. -/
def countPlaysUptoRow : OpenClaim := { program := "yteifdbfaclpcdaar", sum := "4dc214d81ad75f5cfdcf8c9bf6cc328a65f6d559bb7a97f72f7a8ce0b8220670", func := "gunny/gunnylaw27.CountPlays", spec := "countPlays", apart := false, narrowed := true }
def CountPlaysUptoSaid : Prop := countPlaysUptoRow.holds Try.pinned (OpenSpec.upto countPlaysSpec)

/-- 'gunnylaw27.CountSums', WHERE WHAT IT READS IS OF BULK AT MOST 1048576: true; the input reads as it did. -/
def countSumsUptoRow : OpenClaim := { program := "yteifdbfaclpcdaar", sum := "4dc214d81ad75f5cfdcf8c9bf6cc328a65f6d559bb7a97f72f7a8ce0b8220670", func := "gunny/gunnylaw27.CountSums", spec := "countSums", apart := false, narrowed := true }
def CountSumsUptoSaid : Prop := countSumsUptoRow.holds Try.pinned (OpenSpec.upto countSumsSpec)

/-- 'gunnylaw27.CountBack', WHERE WHAT IT READS IS OF BULK AT MOST 1048576: true; the input reads as it did. -/
def countBackUptoRow : OpenClaim := { program := "yteifdbfaclpcdaar", sum := "4dc214d81ad75f5cfdcf8c9bf6cc328a65f6d559bb7a97f72f7a8ce0b8220670", func := "gunny/gunnylaw27.CountBack", spec := "countBack", apart := false, narrowed := true }
def CountBackUptoSaid : Prop := countBackUptoRow.holds Try.pinned (OpenSpec.upto countBackSpec)

/-- 'gunnylaw04.RadixStops', WHERE WHAT IT READS IS OF BULK AT MOST 1048576: true; the input reads as it did. -/
def radixStopsUptoRow : OpenClaim := { program := "yteifdbfaclpcdaar", sum := "4dc214d81ad75f5cfdcf8c9bf6cc328a65f6d559bb7a97f72f7a8ce0b8220670", func := "gunny/gunnylaw04.RadixStops", spec := "radixStops", unfollowed := true, recurses := true, apart := false, narrowed := true }
def RadixStopsUptoSaid : Prop := radixStopsUptoRow.holds Try.pinned (OpenSpec.upto radixStopsSpec)

/-- 'gunnylaw22.EntryPlays', WHERE WHAT IT READS IS OF BULK AT MOST 1048576: true; the input reads as it did. -/
def entryPlaysUptoRow : OpenClaim := { program := "yteifdbfaclpcdaar", sum := "4dc214d81ad75f5cfdcf8c9bf6cc328a65f6d559bb7a97f72f7a8ce0b8220670", func := "gunny/gunnylaw22.EntryPlays", spec := "entryPlays", apart := false, narrowed := true }
def EntryPlaysUptoSaid : Prop := entryPlaysUptoRow.holds Try.pinned (OpenSpec.upto entryPlaysSpec)

/-- 'gunnylaw22.EntryRounds', WHERE WHAT IT READS IS OF BULK AT MOST 1048576: true; the input reads as it did. -/
def entryRoundsUptoRow : OpenClaim := { program := "yteifdbfaclpcdaar", sum := "4dc214d81ad75f5cfdcf8c9bf6cc328a65f6d559bb7a97f72f7a8ce0b8220670", func := "gunny/gunnylaw22.EntryRounds", spec := "entryRounds", apart := false, narrowed := true }
def EntryRoundsUptoSaid : Prop := entryRoundsUptoRow.holds Try.pinned (OpenSpec.upto entryRoundsSpec)

/-- 'gunnylaw22.EntryApart', WHERE WHAT IT READS IS OF BULK AT MOST 1048576: true; the input reads as it did. -/
def entryApartUptoRow : OpenClaim := { program := "yteifdbfaclpcdaar", sum := "4dc214d81ad75f5cfdcf8c9bf6cc328a65f6d559bb7a97f72f7a8ce0b8220670", func := "gunny/gunnylaw22.EntryApart", spec := "entryApart", apart := false, narrowed := true }
def EntryApartUptoSaid : Prop := entryApartUptoRow.holds Try.pinned (OpenSpec.upto entryApartSpec)

/-- 'gunnylaw04.RadixPlays', WHERE WHAT IT READS IS OF BULK AT MOST 1048576: true; the input reads as it did. -/
def radixPlaysUptoRow : OpenClaim := { program := "yteifdbfaclpcdaar", sum := "4dc214d81ad75f5cfdcf8c9bf6cc328a65f6d559bb7a97f72f7a8ce0b8220670", func := "gunny/gunnylaw04.RadixPlays", spec := "radixPlays", unfollowed := true, recurses := true, apart := false, narrowed := true }
def RadixPlaysUptoSaid : Prop := radixPlaysUptoRow.holds Try.pinned (OpenSpec.upto radixPlaysSpec)

/-- 'gunnylaw04.RadixKeeps', WHERE WHAT IT READS IS OF BULK AT MOST 1048576: true; the input reads as it did. -/
def radixKeepsUptoRow : OpenClaim := { program := "yteifdbfaclpcdaar", sum := "4dc214d81ad75f5cfdcf8c9bf6cc328a65f6d559bb7a97f72f7a8ce0b8220670", func := "gunny/gunnylaw04.RadixKeeps", spec := "radixKeeps", unfollowed := true, recurses := true, apart := false, narrowed := true }
def RadixKeepsUptoSaid : Prop := radixKeepsUptoRow.holds Try.pinned (OpenSpec.upto radixKeepsSpec)

/-- 'gunnylaw24.TreeFull', WHERE WHAT IT READS IS OF BULK AT MOST 1048576: true; the input reads as it did. -/
def treeFullUptoRow : OpenClaim := { program := "yteifdbfaclpcdaar", sum := "4dc214d81ad75f5cfdcf8c9bf6cc328a65f6d559bb7a97f72f7a8ce0b8220670", func := "gunny/gunnylaw24.TreeFull", spec := "treeFull", unfollowed := true, recurses := true, apart := false, narrowed := true }
def TreeFullUptoSaid : Prop := treeFullUptoRow.holds Try.pinned (OpenSpec.upto treeFullSpec)

/-- 'gunnylaw24.TreeKeeps', WHERE WHAT IT READS IS OF BULK AT MOST 1048576: true; the input reads as it did. -/
def treeKeepsUptoRow : OpenClaim := { program := "yteifdbfaclpcdaar", sum := "4dc214d81ad75f5cfdcf8c9bf6cc328a65f6d559bb7a97f72f7a8ce0b8220670", func := "gunny/gunnylaw24.TreeKeeps", spec := "treeKeeps", unfollowed := true, recurses := true, apart := false, narrowed := true }
def TreeKeepsUptoSaid : Prop := treeKeepsUptoRow.holds Try.pinned (OpenSpec.upto treeKeepsSpec)

end Rows
end Go.Proofs.YteifdbfaclpcdaaR
