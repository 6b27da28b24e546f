/-
  No cell of these rows narrows 'for every input' (looked for: loops, veiled, ifaces, maps, wideKeys, modest, calm, conditions, laid).
  DERIVED. THE GIVEN ROWS OF THIS SEAT. 14 by the template 'for every input the law returns true; each argument reads behind the call as it read before'; 0 by the template 'total and deterministic' (their statements: YtckdellcnoojaaaRRRTotals.lean).
  GIVEN WITH THE SEED: the statements are not yours to turn. If you find one false, say at which input.
  Laid BY PROGRAM, IN A SANDBOX (cutbox-rows.mjs): the forced cells as the released guide's own fill.sh prints them over the translation 30e99dcc34a35114… (all of the seat's roots in one cut). By AI agents, Wed Nov 11 2026. No macro, syntax, notation, axiom, sorry.
-/
import Derived.Test.YtckdellcnoojaaaRRRChecked
import GoSem.Claim
import GoSem.ClaimJoined
import GoSem.ClaimMapViews
import Derived.JoinedTies
import Derived.KernelRfl
namespace Go.Proofs.YtckdellcnoojaaaRRR
/- THE CELL 'sum', in the pinned program and in every row, IS THE sha256 OF THE DUMP (.gsa) THAT YtckdellcnoojaaaRRRProg.lean LOADS. Nothing in Lean hashes anything: it is a label: what it is worth is what the hold of that sum in a sandbox is worth. -/
noncomputable def Try.pinned : Pinned := { name := "ytckdellcnoojaaarrr", sum := "30e99dcc34a35114d12de4a3fafd831e227a71fb9c5ab8f720b5e1577ca7f107", checked := Try.checked }
namespace Rows
def none {H : Type} : Left H := { results := [], args := [] }

/-- 'gunnylaw11.TokenGrows': WHATEVER THE INPUT: true; the input reads as it did. -/
def tokenGrowsSpec : ChangeSpec := { name := "tokenGrows", fn := fun _ => fun
  | [d1, d2] => { results := [.lit (.bool true)], args := [d1, d2] }
  | _ => none }
def tokenGrowsRow : OpenClaim := { program := "ytckdellcnoojaaarrr", sum := "30e99dcc34a35114d12de4a3fafd831e227a71fb9c5ab8f720b5e1577ca7f107", func := "gunny/gunnylaw11.TokenGrows", spec := "tokenGrows", apart := false }
def TokenGrowsSaid : Prop := tokenGrowsRow.holds Try.pinned (OpenSpec.ofChange tokenGrowsSpec)

/-- ITS FALSE NEIGHBOUR: 'it returns false'. Refute it at one input. -/
def tokenGrowsWrong : ChangeSpec := { name := "tokenGrows", fn := fun _ => fun
  | [d1, d2] => { results := [.lit (.bool false)], args := [d1, d2] }
  | _ => none }
def TokenGrowsWrongFalsely : Prop := tokenGrowsRow.holds Try.pinned (OpenSpec.ofChange tokenGrowsWrong)

/-- 'gunnylaw12.MatchFinds': WHATEVER THE INPUT: true; the input reads as it did. -/
def matchFindsSpec : ChangeSpec := { name := "matchFinds", fn := fun _ => fun
  | [d1, d2] => { results := [.lit (.bool true)], args := [d1, d2] }
  | _ => none }
def matchFindsRow : OpenClaim := { program := "ytckdellcnoojaaarrr", sum := "30e99dcc34a35114d12de4a3fafd831e227a71fb9c5ab8f720b5e1577ca7f107", func := "gunny/gunnylaw12.MatchFinds", spec := "matchFinds", apart := false }
def MatchFindsSaid : Prop := matchFindsRow.holds Try.pinned (OpenSpec.ofChange matchFindsSpec)

/-- ITS FALSE NEIGHBOUR: 'it returns false'. Refute it at one input. -/
def matchFindsWrong : ChangeSpec := { name := "matchFinds", fn := fun _ => fun
  | [d1, d2] => { results := [.lit (.bool false)], args := [d1, d2] }
  | _ => none }
def MatchFindsWrongFalsely : Prop := matchFindsRow.holds Try.pinned (OpenSpec.ofChange matchFindsWrong)

/-- 'gunnylaw12.MatchWith': WHATEVER THE INPUT: true; the input reads as it did. -/
def matchWithSpec : ChangeSpec := { name := "matchWith", fn := fun _ => fun
  | [d1, d2, d3] => { results := [.lit (.bool true)], args := [d1, d2, d3] }
  | _ => none }
def matchWithRow : OpenClaim := { program := "ytckdellcnoojaaarrr", sum := "30e99dcc34a35114d12de4a3fafd831e227a71fb9c5ab8f720b5e1577ca7f107", func := "gunny/gunnylaw12.MatchWith", spec := "matchWith", apart := false }
def MatchWithSaid : Prop := matchWithRow.holds Try.pinned (OpenSpec.ofChange matchWithSpec)

/-- ITS FALSE NEIGHBOUR: 'it returns false'. Refute it at one input. -/
def matchWithWrong : ChangeSpec := { name := "matchWith", fn := fun _ => fun
  | [d1, d2, d3] => { results := [.lit (.bool false)], args := [d1, d2, d3] }
  | _ => none }
def MatchWithWrongFalsely : Prop := matchWithRow.holds Try.pinned (OpenSpec.ofChange matchWithWrong)

/-- 'gunnylaw12.MatchTrue': WHATEVER THE INPUT: true; the input reads as it did. -/
def matchTrueSpec : ChangeSpec := { name := "matchTrue", fn := fun _ => fun
  | [d1, d2] => { results := [.lit (.bool true)], args := [d1, d2] }
  | _ => none }
def matchTrueRow : OpenClaim := { program := "ytckdellcnoojaaarrr", sum := "30e99dcc34a35114d12de4a3fafd831e227a71fb9c5ab8f720b5e1577ca7f107", func := "gunny/gunnylaw12.MatchTrue", spec := "matchTrue", apart := false }
def MatchTrueSaid : Prop := matchTrueRow.holds Try.pinned (OpenSpec.ofChange matchTrueSpec)

/-- ITS FALSE NEIGHBOUR: 'it returns false'. Refute it at one input. -/
def matchTrueWrong : ChangeSpec := { name := "matchTrue", fn := fun _ => fun
  | [d1, d2] => { results := [.lit (.bool false)], args := [d1, d2] }
  | _ => none }
def MatchTrueWrongFalsely : Prop := matchTrueRow.holds Try.pinned (OpenSpec.ofChange matchTrueWrong)

/-- 'gunnylaw11.TokenPuts': WHATEVER THE INPUT: true; the input reads as it did. -/
def tokenPutsSpec : ChangeSpec := { name := "tokenPuts", fn := fun _ => fun
  | [d] => { results := [.lit (.bool true)], args := [d] }
  | _ => none }
def tokenPutsRow : OpenClaim := { program := "ytckdellcnoojaaarrr", sum := "30e99dcc34a35114d12de4a3fafd831e227a71fb9c5ab8f720b5e1577ca7f107", func := "gunny/gunnylaw11.TokenPuts", spec := "tokenPuts", apart := false }
def TokenPutsSaid : Prop := tokenPutsRow.holds Try.pinned (OpenSpec.ofChange tokenPutsSpec)

/-- ITS FALSE NEIGHBOUR: 'it returns false'. Refute it at one input. -/
def tokenPutsWrong : ChangeSpec := { name := "tokenPuts", fn := fun _ => fun
  | [d] => { results := [.lit (.bool false)], args := [d] }
  | _ => none }
def TokenPutsWrongFalsely : Prop := tokenPutsRow.holds Try.pinned (OpenSpec.ofChange tokenPutsWrong)

/-- 'gunnylaw11.TokenTakes': WHATEVER THE INPUT: true; the input reads as it did. -/
def tokenTakesSpec : ChangeSpec := { name := "tokenTakes", fn := fun _ => fun
  | [d1, d2] => { results := [.lit (.bool true)], args := [d1, d2] }
  | _ => none }
def tokenTakesRow : OpenClaim := { program := "ytckdellcnoojaaarrr", sum := "30e99dcc34a35114d12de4a3fafd831e227a71fb9c5ab8f720b5e1577ca7f107", func := "gunny/gunnylaw11.TokenTakes", spec := "tokenTakes", apart := false }
def TokenTakesSaid : Prop := tokenTakesRow.holds Try.pinned (OpenSpec.ofChange tokenTakesSpec)

/-- ITS FALSE NEIGHBOUR: 'it returns false'. Refute it at one input. -/
def tokenTakesWrong : ChangeSpec := { name := "tokenTakes", fn := fun _ => fun
  | [d1, d2] => { results := [.lit (.bool false)], args := [d1, d2] }
  | _ => none }
def TokenTakesWrongFalsely : Prop := tokenTakesRow.holds Try.pinned (OpenSpec.ofChange tokenTakesWrong)

/-- 'gunnylaw11.TokenBack': WHATEVER THE INPUT: true; the input reads as it did. -/
def tokenBackSpec : ChangeSpec := { name := "tokenBack", fn := fun _ => fun
  | [d1, d2] => { results := [.lit (.bool true)], args := [d1, d2] }
  | _ => none }
def tokenBackRow : OpenClaim := { program := "ytckdellcnoojaaarrr", sum := "30e99dcc34a35114d12de4a3fafd831e227a71fb9c5ab8f720b5e1577ca7f107", func := "gunny/gunnylaw11.TokenBack", spec := "tokenBack", apart := false }
def TokenBackSaid : Prop := tokenBackRow.holds Try.pinned (OpenSpec.ofChange tokenBackSpec)

/-- ITS FALSE NEIGHBOUR: 'it returns false'. Refute it at one input. -/
def tokenBackWrong : ChangeSpec := { name := "tokenBack", fn := fun _ => fun
  | [d1, d2] => { results := [.lit (.bool false)], args := [d1, d2] }
  | _ => none }
def TokenBackWrongFalsely : Prop := tokenBackRow.holds Try.pinned (OpenSpec.ofChange tokenBackWrong)

/-- 'gunnylaw10.SameOf': WHATEVER THE INPUT: true; the input reads as it did. -/
def sameOfSpec : ChangeSpec := { name := "sameOf", fn := fun _ => fun
  | [d1, d2] => { results := [.lit (.bool true)], args := [d1, d2] }
  | _ => none }
def sameOfRow : OpenClaim := { program := "ytckdellcnoojaaarrr", sum := "30e99dcc34a35114d12de4a3fafd831e227a71fb9c5ab8f720b5e1577ca7f107", func := "gunny/gunnylaw10.SameOf", spec := "sameOf", inPlace := ["internal/bytealg.MakeNoZero"], apart := false }
def SameOfSaid : Prop := sameOfRow.holds Try.pinned (OpenSpec.ofChange sameOfSpec)

/-- ITS FALSE NEIGHBOUR: 'it returns false'. Refute it at one input. -/
def sameOfWrong : ChangeSpec := { name := "sameOf", fn := fun _ => fun
  | [d1, d2] => { results := [.lit (.bool false)], args := [d1, d2] }
  | _ => none }
def SameOfWrongFalsely : Prop := sameOfRow.holds Try.pinned (OpenSpec.ofChange sameOfWrong)

/-- 'gunnylaw10.SamePage': WHATEVER THE INPUT: true; the input reads as it did. -/
def samePageSpec : ChangeSpec := { name := "samePage", fn := fun _ => fun
  | [d] => { results := [.lit (.bool true)], args := [d] }
  | _ => none }
def samePageRow : OpenClaim := { program := "ytckdellcnoojaaarrr", sum := "30e99dcc34a35114d12de4a3fafd831e227a71fb9c5ab8f720b5e1577ca7f107", func := "gunny/gunnylaw10.SamePage", spec := "samePage", inPlace := ["internal/bytealg.MakeNoZero"], apart := false }
def SamePageSaid : Prop := samePageRow.holds Try.pinned (OpenSpec.ofChange samePageSpec)

/-- ITS FALSE NEIGHBOUR: 'it returns false'. Refute it at one input. -/
def samePageWrong : ChangeSpec := { name := "samePage", fn := fun _ => fun
  | [d] => { results := [.lit (.bool false)], args := [d] }
  | _ => none }
def SamePageWrongFalsely : Prop := samePageRow.holds Try.pinned (OpenSpec.ofChange samePageWrong)

/-- 'gunnylaw10.SameBack': WHATEVER THE INPUT: true; the input reads as it did. -/
def sameBackSpec : ChangeSpec := { name := "sameBack", fn := fun _ => fun
  | [d1, d2, d3] => { results := [.lit (.bool true)], args := [d1, d2, d3] }
  | _ => none }
def sameBackRow : OpenClaim := { program := "ytckdellcnoojaaarrr", sum := "30e99dcc34a35114d12de4a3fafd831e227a71fb9c5ab8f720b5e1577ca7f107", func := "gunny/gunnylaw10.SameBack", spec := "sameBack", inPlace := ["internal/bytealg.MakeNoZero"], apart := false }
def SameBackSaid : Prop := sameBackRow.holds Try.pinned (OpenSpec.ofChange sameBackSpec)

/-- ITS FALSE NEIGHBOUR: 'it returns false'. Refute it at one input. -/
def sameBackWrong : ChangeSpec := { name := "sameBack", fn := fun _ => fun
  | [d1, d2, d3] => { results := [.lit (.bool false)], args := [d1, d2, d3] }
  | _ => none }
def SameBackWrongFalsely : Prop := sameBackRow.holds Try.pinned (OpenSpec.ofChange sameBackWrong)

/-- 'gunnylaw13.SqueezeUnpacks': WHATEVER THE INPUT: true; the input reads as it did. -/
def squeezeUnpacksSpec : ChangeSpec := { name := "squeezeUnpacks", fn := fun _ => fun
  | [d] => { results := [.lit (.bool true)], args := [d] }
  | _ => none }
def squeezeUnpacksRow : OpenClaim := { program := "ytckdellcnoojaaarrr", sum := "30e99dcc34a35114d12de4a3fafd831e227a71fb9c5ab8f720b5e1577ca7f107", func := "gunny/gunnylaw13.SqueezeUnpacks", spec := "squeezeUnpacks", unfollowed := true, recurses := true, apart := false }
def SqueezeUnpacksSaid : Prop := squeezeUnpacksRow.holds Try.pinned (OpenSpec.ofChange squeezeUnpacksSpec)

/-- ITS FALSE NEIGHBOUR: 'it returns false'. Refute it at one input. -/
def squeezeUnpacksWrong : ChangeSpec := { name := "squeezeUnpacks", fn := fun _ => fun
  | [d] => { results := [.lit (.bool false)], args := [d] }
  | _ => none }
def SqueezeUnpacksWrongFalsely : Prop := squeezeUnpacksRow.holds Try.pinned (OpenSpec.ofChange squeezeUnpacksWrong)

/-- 'gunnylaw13.SqueezeSpoilt': WHATEVER THE INPUT: true; the input reads as it did. -/
def squeezeSpoiltSpec : ChangeSpec := { name := "squeezeSpoilt", fn := fun _ => fun
  | [d1, d2, d3] => { results := [.lit (.bool true)], args := [d1, d2, d3] }
  | _ => none }
def squeezeSpoiltRow : OpenClaim := { program := "ytckdellcnoojaaarrr", sum := "30e99dcc34a35114d12de4a3fafd831e227a71fb9c5ab8f720b5e1577ca7f107", func := "gunny/gunnylaw13.SqueezeSpoilt", spec := "squeezeSpoilt", unfollowed := true, recurses := true, apart := false }
def SqueezeSpoiltSaid : Prop := squeezeSpoiltRow.holds Try.pinned (OpenSpec.ofChange squeezeSpoiltSpec)

/-- ITS FALSE NEIGHBOUR: 'it returns false'. Refute it at one input. -/
def squeezeSpoiltWrong : ChangeSpec := { name := "squeezeSpoilt", fn := fun _ => fun
  | [d1, d2, d3] => { results := [.lit (.bool false)], args := [d1, d2, d3] }
  | _ => none }
def SqueezeSpoiltWrongFalsely : Prop := squeezeSpoiltRow.holds Try.pinned (OpenSpec.ofChange squeezeSpoiltWrong)

/-- 'gunnylaw13.SqueezeBack': WHATEVER THE INPUT: true; the input reads as it did. -/
def squeezeBackSpec : ChangeSpec := { name := "squeezeBack", fn := fun _ => fun
  | [d1, d2] => { results := [.lit (.bool true)], args := [d1, d2] }
  | _ => none }
def squeezeBackRow : OpenClaim := { program := "ytckdellcnoojaaarrr", sum := "30e99dcc34a35114d12de4a3fafd831e227a71fb9c5ab8f720b5e1577ca7f107", func := "gunny/gunnylaw13.SqueezeBack", spec := "squeezeBack", unfollowed := true, recurses := true, apart := false }
def SqueezeBackSaid : Prop := squeezeBackRow.holds Try.pinned (OpenSpec.ofChange squeezeBackSpec)

/-- ITS FALSE NEIGHBOUR: 'it returns false'. Refute it at one input. -/
def squeezeBackWrong : ChangeSpec := { name := "squeezeBack", fn := fun _ => fun
  | [d1, d2] => { results := [.lit (.bool false)], args := [d1, d2] }
  | _ => none }
def SqueezeBackWrongFalsely : Prop := squeezeBackRow.holds Try.pinned (OpenSpec.ofChange squeezeBackWrong)

/-- 'gunnylaw13.SqueezeRuns': WHATEVER THE INPUT: true; the input reads as it did. -/
def squeezeRunsSpec : ChangeSpec := { name := "squeezeRuns", fn := fun _ => fun
  | [d] => { results := [.lit (.bool true)], args := [d] }
  | _ => none }
def squeezeRunsRow : OpenClaim := { program := "ytckdellcnoojaaarrr", sum := "30e99dcc34a35114d12de4a3fafd831e227a71fb9c5ab8f720b5e1577ca7f107", func := "gunny/gunnylaw13.SqueezeRuns", spec := "squeezeRuns", unfollowed := true, recurses := true, apart := false }
def SqueezeRunsSaid : Prop := squeezeRunsRow.holds Try.pinned (OpenSpec.ofChange squeezeRunsSpec)

/-- ITS FALSE NEIGHBOUR: 'it returns false'. Refute it at one input. -/
def squeezeRunsWrong : ChangeSpec := { name := "squeezeRuns", fn := fun _ => fun
  | [d] => { results := [.lit (.bool false)], args := [d] }
  | _ => none }
def SqueezeRunsWrongFalsely : Prop := squeezeRunsRow.holds Try.pinned (OpenSpec.ofChange squeezeRunsWrong)

/- THE SECOND FORM. 'bulk': how many values and letters a reading holds, each counted each time it is reached (what is shared counts as often as it is met; a slice's spare places count too). A statement '..UptoSaid' is the law's where the arguments, and the package variables that the reading takes, are together of bulk at most 1048576: NARROWER than '..Said'. Prove '..Said' where nothing that the law and all that it calls make is longer than what came in: it says more and counts as full. Else prove '..UptoSaid'. A law counts once. -/
mutual
def uptoBulk {H : Type} : DataW H → Nat
  | .lit (.string bytes) => bytes.length + 1
  | .lit _ => 1
  | .nil => 1
  | .ptr d => uptoBulk d + 1
  | .slice elems spare => uptoBulkAll elems + uptoBulkAll spare + 1
  | .agg parts => uptoBulkAll parts + 1
  | .iface _ d => uptoBulk d + 1
  | .map entries => uptoBulkEntries entries + 1
  | .held _ => 1
def uptoBulkAll {H : Type} : List (DataW H) → Nat
  | [] => 0
  | d :: r => uptoBulk d + uptoBulkAll r
def uptoBulkEntries {H : Type} : List (Lit × DataW H) → Nat
  | [] => 0
  | x :: r => uptoBulkEntry x + uptoBulkEntries r
def uptoBulkEntry {H : Type} : Lit × DataW H → Nat
  | (.string bytes, d) => bytes.length + uptoBulk d + 1
  | (_, d) => uptoBulk d + 1
 end
def uptoSmall : (H : Type) → List (DataW H) → Bool := fun _ ds => decide (uptoBulkAll ds ≤ 1048576)
def OpenSpec.upto (s : _root_.Go.ChangeSpec) : _root_.Go.OpenSpec := { _root_.Go.OpenSpec.ofChange s with cond := some uptoSmall }

/-- 'gunnylaw11.TokenGrows', WHERE WHAT IT READS IS OF BULK AT MOST 1048576: true; the input reads as it did. -/
def tokenGrowsUptoRow : OpenClaim := { program := "ytckdellcnoojaaarrr", sum := "30e99dcc34a35114d12de4a3fafd831e227a71fb9c5ab8f720b5e1577ca7f107", func := "gunny/gunnylaw11.TokenGrows", spec := "tokenGrows", apart := false, narrowed := true }
def TokenGrowsUptoSaid : Prop := tokenGrowsUptoRow.holds Try.pinned (OpenSpec.upto tokenGrowsSpec)

/-- 'gunnylaw12.MatchFinds', WHERE WHAT IT READS IS OF BULK AT MOST 1048576: true; the input reads as it did. -/
def matchFindsUptoRow : OpenClaim := { program := "ytckdellcnoojaaarrr", sum := "30e99dcc34a35114d12de4a3fafd831e227a71fb9c5ab8f720b5e1577ca7f107", func := "gunny/gunnylaw12.MatchFinds", spec := "matchFinds", apart := false, narrowed := true }
def MatchFindsUptoSaid : Prop := matchFindsUptoRow.holds Try.pinned (OpenSpec.upto matchFindsSpec)

/-- 'gunnylaw12.MatchWith', WHERE WHAT IT READS IS OF BULK AT MOST 1048576: true; the input reads as it did. -/
def matchWithUptoRow : OpenClaim := { program := "ytckdellcnoojaaarrr", sum := "30e99dcc34a35114d12de4a3fafd831e227a71fb9c5ab8f720b5e1577ca7f107", func := "gunny/gunnylaw12.MatchWith", spec := "matchWith", apart := false, narrowed := true }
def MatchWithUptoSaid : Prop := matchWithUptoRow.holds Try.pinned (OpenSpec.upto matchWithSpec)

/-- 'gunnylaw12.MatchTrue', WHERE WHAT IT READS IS OF BULK AT MOST 1048576: true; the input reads as it did. -/
def matchTrueUptoRow : OpenClaim := { program := "ytckdellcnoojaaarrr", sum := "30e99dcc34a35114d12de4a3fafd831e227a71fb9c5ab8f720b5e1577ca7f107", func := "gunny/gunnylaw12.MatchTrue", spec := "matchTrue", apart := false, narrowed := true }
def MatchTrueUptoSaid : Prop := matchTrueUptoRow.holds Try.pinned (OpenSpec.upto matchTrueSpec)

/-- 'gunnylaw11.TokenPuts', WHERE WHAT IT READS IS OF BULK AT MOST 1048576: true; the input reads as it did. -/
def tokenPutsUptoRow : OpenClaim := { program := "ytckdellcnoojaaarrr", sum := "30e99dcc34a35114d12de4a3fafd831e227a71fb9c5ab8f720b5e1577ca7f107", func := "gunny/gunnylaw11.TokenPuts", spec := "tokenPuts", apart := false, narrowed := true }
def TokenPutsUptoSaid : Prop := tokenPutsUptoRow.holds Try.pinned (OpenSpec.upto tokenPutsSpec)

/-- 'gunnylaw11.TokenTakes', WHERE WHAT IT READS IS OF BULK AT MOST 1048576: true; the input reads as it did. -/
def tokenTakesUptoRow : OpenClaim := { program := "ytckdellcnoojaaarrr", sum := "30e99dcc34a35114d12de4a3fafd831e227a71fb9c5ab8f720b5e1577ca7f107", func := "gunny/gunnylaw11.TokenTakes", spec := "tokenTakes", apart := false, narrowed := true }
def TokenTakesUptoSaid : Prop := tokenTakesUptoRow.holds Try.pinned (OpenSpec.upto tokenTakesSpec)

/-- 'gunnylaw11.TokenBack', WHERE WHAT IT READS IS OF BULK AT MOST 1048576: true; the input reads as it did. -/
def tokenBackUptoRow : OpenClaim := { program := "ytckdellcnoojaaarrr", sum := "30e99dcc34a35114d12de4a3fafd831e227a71fb9c5ab8f720b5e1577ca7f107", func := "gunny/gunnylaw11.TokenBack", spec := "tokenBack", apart := false, narrowed := true }
def TokenBackUptoSaid : Prop := tokenBackUptoRow.holds Try.pinned (OpenSpec.upto tokenBackSpec)

/-- 'gunnylaw10.SameOf', WHERE WHAT IT READS IS OF BULK AT MOST 1048576: true; the input reads as it did. -/
def sameOfUptoRow : OpenClaim := { program := "ytckdellcnoojaaarrr", sum := "30e99dcc34a35114d12de4a3fafd831e227a71fb9c5ab8f720b5e1577ca7f107", func := "gunny/gunnylaw10.SameOf", spec := "sameOf", inPlace := ["internal/bytealg.MakeNoZero"], apart := false, narrowed := true }
def SameOfUptoSaid : Prop := sameOfUptoRow.holds Try.pinned (OpenSpec.upto sameOfSpec)

/-- 'gunnylaw10.SamePage', WHERE WHAT IT READS IS OF BULK AT MOST 1048576: true; the input reads as it did. -/
def samePageUptoRow : OpenClaim := { program := "ytckdellcnoojaaarrr", sum := "30e99dcc34a35114d12de4a3fafd831e227a71fb9c5ab8f720b5e1577ca7f107", func := "gunny/gunnylaw10.SamePage", spec := "samePage", inPlace := ["internal/bytealg.MakeNoZero"], apart := false, narrowed := true }
def SamePageUptoSaid : Prop := samePageUptoRow.holds Try.pinned (OpenSpec.upto samePageSpec)

/-- 'gunnylaw10.SameBack', WHERE WHAT IT READS IS OF BULK AT MOST 1048576: true; the input reads as it did. -/
def sameBackUptoRow : OpenClaim := { program := "ytckdellcnoojaaarrr", sum := "30e99dcc34a35114d12de4a3fafd831e227a71fb9c5ab8f720b5e1577ca7f107", func := "gunny/gunnylaw10.SameBack", spec := "sameBack", inPlace := ["internal/bytealg.MakeNoZero"], apart := false, narrowed := true }
def SameBackUptoSaid : Prop := sameBackUptoRow.holds Try.pinned (OpenSpec.upto sameBackSpec)

/-- 'gunnylaw13.SqueezeUnpacks', WHERE WHAT IT READS IS OF BULK AT MOST 1048576: true; the input reads as it did. -/
def squeezeUnpacksUptoRow : OpenClaim := { program := "ytckdellcnoojaaarrr", sum := "30e99dcc34a35114d12de4a3fafd831e227a71fb9c5ab8f720b5e1577ca7f107", func := "gunny/gunnylaw13.SqueezeUnpacks", spec := "squeezeUnpacks", unfollowed := true, recurses := true, apart := false, narrowed := true }
def SqueezeUnpacksUptoSaid : Prop := squeezeUnpacksUptoRow.holds Try.pinned (OpenSpec.upto squeezeUnpacksSpec)

/-- 'gunnylaw13.SqueezeSpoilt', WHERE WHAT IT READS IS OF BULK AT MOST 1048576: true; the input reads as it did. -/
def squeezeSpoiltUptoRow : OpenClaim := { program := "ytckdellcnoojaaarrr", sum := "30e99dcc34a35114d12de4a3fafd831e227a71fb9c5ab8f720b5e1577ca7f107", func := "gunny/gunnylaw13.SqueezeSpoilt", spec := "squeezeSpoilt", unfollowed := true, recurses := true, apart := false, narrowed := true }
def SqueezeSpoiltUptoSaid : Prop := squeezeSpoiltUptoRow.holds Try.pinned (OpenSpec.upto squeezeSpoiltSpec)

/-- 'gunnylaw13.SqueezeBack', WHERE WHAT IT READS IS OF BULK AT MOST 1048576: true; the input reads as it did. -/
def squeezeBackUptoRow : OpenClaim := { program := "ytckdellcnoojaaarrr", sum := "30e99dcc34a35114d12de4a3fafd831e227a71fb9c5ab8f720b5e1577ca7f107", func := "gunny/gunnylaw13.SqueezeBack", spec := "squeezeBack", unfollowed := true, recurses := true, apart := false, narrowed := true }
def SqueezeBackUptoSaid : Prop := squeezeBackUptoRow.holds Try.pinned (OpenSpec.upto squeezeBackSpec)

/-- 'gunnylaw13.SqueezeRuns', WHERE WHAT IT READS IS OF BULK AT MOST 1048576: true; the input reads as it did. -/
def squeezeRunsUptoRow : OpenClaim := { program := "ytckdellcnoojaaarrr", sum := "30e99dcc34a35114d12de4a3fafd831e227a71fb9c5ab8f720b5e1577ca7f107", func := "gunny/gunnylaw13.SqueezeRuns", spec := "squeezeRuns", unfollowed := true, recurses := true, apart := false, narrowed := true }
def SqueezeRunsUptoSaid : Prop := squeezeRunsUptoRow.holds Try.pinned (OpenSpec.upto squeezeRunsSpec)

end Rows
end Go.Proofs.YtckdellcnoojaaaRRR
