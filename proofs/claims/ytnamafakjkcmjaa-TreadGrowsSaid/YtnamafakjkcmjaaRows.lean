/-
  No cell of these rows narrows 'for every input' (looked for: loops, veiled, ifaces, maps, wideKeys, modest, calm, conditions, laid).
  DERIVED. THE GIVEN ROWS OF THIS SEAT. 7 by the template 'for every input the law returns true; each argument reads behind the call as it read before'; 0 by the template 'total and deterministic' (their statements: YtnamafakjkcmjaaTotals.lean).
  GIVEN WITH THE SEED: the statements are not yours to turn. If you find one false, say at which input.
  Laid BY PROGRAM, IN A SANDBOX (cutbox-rows.mjs): the forced cells as the released guide's own fill.sh prints them over the translation d0084b784d82efbc… (all of the seat's roots in one cut). By AI agents, Wed Nov 11 2026. No macro, syntax, notation, axiom, sorry.
-/
import Derived.Test.YtnamafakjkcmjaaChecked
import GoSem.Claim
import GoSem.ClaimJoined
import GoSem.ClaimMapViews
import Derived.JoinedTies
import Derived.KernelRfl
namespace Go.Proofs.Ytnamafakjkcmjaa
/- THE CELL 'sum', in the pinned program and in every row, IS THE sha256 OF THE DUMP (.gsa) THAT YtnamafakjkcmjaaProg.lean LOADS. Nothing in Lean hashes anything: it is a label: what it is worth is what the hold of that sum in a sandbox is worth. -/
noncomputable def Try.pinned : Pinned := { name := "ytnamafakjkcmjaa", sum := "d0084b784d82efbc54c9186c8588b5ca40335b3f850518731c30cafa4a9b4e34", checked := Try.checked }
namespace Rows
def none {H : Type} : Left H := { results := [], args := [] }

/-- 'remouldlaw02.TreadGrows': WHATEVER THE INPUT: true; the input reads as it did. -/
def treadGrowsSpec : ChangeSpec := { name := "treadGrows", fn := fun _ => fun
  | [d1, d2] => { results := [.lit (.bool true)], args := [d1, d2] }
  | _ => none }
def treadGrowsRow : OpenClaim := { program := "ytnamafakjkcmjaa", sum := "d0084b784d82efbc54c9186c8588b5ca40335b3f850518731c30cafa4a9b4e34", func := "remould/remouldlaw02.TreadGrows", spec := "treadGrows", inPlace := ["internal/bytealg.IndexByteString", "internal/bytealg.IndexString"], unfollowed := true, recurses := true, named := ["internal/bytealg.MaxLen"], plainKeys := false, apart := false }
def TreadGrowsSaid : Prop := treadGrowsRow.holds Try.pinned (OpenSpec.ofChange treadGrowsSpec)

/-- ITS FALSE NEIGHBOUR: 'it returns false'. Refute it at one input. -/
def treadGrowsWrong : ChangeSpec := { name := "treadGrows", fn := fun _ => fun
  | [d1, d2] => { results := [.lit (.bool false)], args := [d1, d2] }
  | _ => none }
def TreadGrowsWrongFalsely : Prop := treadGrowsRow.holds Try.pinned (OpenSpec.ofChange treadGrowsWrong)

/-- 'remouldlaw02.TreadIndexes': WHATEVER THE INPUT: true; the input reads as it did. -/
def treadIndexesSpec : ChangeSpec := { name := "treadIndexes", fn := fun _ => fun
  | [d1, d2, d3] => { results := [.lit (.bool true)], args := [d1, d2, d3] }
  | _ => none }
def treadIndexesRow : OpenClaim := { program := "ytnamafakjkcmjaa", sum := "d0084b784d82efbc54c9186c8588b5ca40335b3f850518731c30cafa4a9b4e34", func := "remould/remouldlaw02.TreadIndexes", spec := "treadIndexes", inPlace := ["internal/bytealg.IndexByteString", "internal/bytealg.IndexString"], unfollowed := true, recurses := true, named := ["internal/bytealg.MaxLen"], plainKeys := false, apart := false }
def TreadIndexesSaid : Prop := treadIndexesRow.holds Try.pinned (OpenSpec.ofChange treadIndexesSpec)

/-- ITS FALSE NEIGHBOUR: 'it returns false'. Refute it at one input. -/
def treadIndexesWrong : ChangeSpec := { name := "treadIndexes", fn := fun _ => fun
  | [d1, d2, d3] => { results := [.lit (.bool false)], args := [d1, d2, d3] }
  | _ => none }
def TreadIndexesWrongFalsely : Prop := treadIndexesRow.holds Try.pinned (OpenSpec.ofChange treadIndexesWrong)

/-- 'remouldlaw02.TreadItems': WHATEVER THE INPUT: true; the input reads as it did. -/
def treadItemsSpec : ChangeSpec := { name := "treadItems", fn := fun _ => fun
  | [d1, d2, d3] => { results := [.lit (.bool true)], args := [d1, d2, d3] }
  | _ => none }
def treadItemsRow : OpenClaim := { program := "ytnamafakjkcmjaa", sum := "d0084b784d82efbc54c9186c8588b5ca40335b3f850518731c30cafa4a9b4e34", func := "remould/remouldlaw02.TreadItems", spec := "treadItems", inPlace := ["internal/bytealg.IndexByteString", "internal/bytealg.IndexString"], unfollowed := true, recurses := true, named := ["internal/bytealg.MaxLen"], plainKeys := false, apart := false }
def TreadItemsSaid : Prop := treadItemsRow.holds Try.pinned (OpenSpec.ofChange treadItemsSpec)

/-- ITS FALSE NEIGHBOUR: 'it returns false'. Refute it at one input. -/
def treadItemsWrong : ChangeSpec := { name := "treadItems", fn := fun _ => fun
  | [d1, d2, d3] => { results := [.lit (.bool false)], args := [d1, d2, d3] }
  | _ => none }
def TreadItemsWrongFalsely : Prop := treadItemsRow.holds Try.pinned (OpenSpec.ofChange treadItemsWrong)

/-- 'remouldlaw02.TreadRanked': WHATEVER THE INPUT: true; the input reads as it did. -/
def treadRankedSpec : ChangeSpec := { name := "treadRanked", fn := fun _ => fun
  | [d1, d2, d3, d4] => { results := [.lit (.bool true)], args := [d1, d2, d3, d4] }
  | _ => none }
def treadRankedRow : OpenClaim := { program := "ytnamafakjkcmjaa", sum := "d0084b784d82efbc54c9186c8588b5ca40335b3f850518731c30cafa4a9b4e34", func := "remould/remouldlaw02.TreadRanked", spec := "treadRanked", inPlace := ["internal/bytealg.IndexByteString", "internal/bytealg.IndexString"], unfollowed := true, recurses := true, named := ["internal/bytealg.MaxLen"], plainKeys := false, apart := false }
def TreadRankedSaid : Prop := treadRankedRow.holds Try.pinned (OpenSpec.ofChange treadRankedSpec)

/-- ITS FALSE NEIGHBOUR: 'it returns false'. Refute it at one input. -/
def treadRankedWrong : ChangeSpec := { name := "treadRanked", fn := fun _ => fun
  | [d1, d2, d3, d4] => { results := [.lit (.bool false)], args := [d1, d2, d3, d4] }
  | _ => none }
def TreadRankedWrongFalsely : Prop := treadRankedRow.holds Try.pinned (OpenSpec.ofChange treadRankedWrong)

/-- 'remouldlaw02.TreadExtended': WHATEVER THE INPUT: true; the input reads as it did. -/
def treadExtendedSpec : ChangeSpec := { name := "treadExtended", fn := fun _ => fun
  | [d1, d2, d3, d4, d5] => { results := [.lit (.bool true)], args := [d1, d2, d3, d4, d5] }
  | _ => none }
def treadExtendedRow : OpenClaim := { program := "ytnamafakjkcmjaa", sum := "d0084b784d82efbc54c9186c8588b5ca40335b3f850518731c30cafa4a9b4e34", func := "remould/remouldlaw02.TreadExtended", spec := "treadExtended", inPlace := ["internal/bytealg.IndexByteString", "internal/bytealg.IndexString"], unfollowed := true, recurses := true, named := ["internal/bytealg.MaxLen"], plainKeys := false, apart := false }
def TreadExtendedSaid : Prop := treadExtendedRow.holds Try.pinned (OpenSpec.ofChange treadExtendedSpec)

/-- ITS FALSE NEIGHBOUR: 'it returns false'. Refute it at one input. -/
def treadExtendedWrong : ChangeSpec := { name := "treadExtended", fn := fun _ => fun
  | [d1, d2, d3, d4, d5] => { results := [.lit (.bool false)], args := [d1, d2, d3, d4, d5] }
  | _ => none }
def TreadExtendedWrongFalsely : Prop := treadExtendedRow.holds Try.pinned (OpenSpec.ofChange treadExtendedWrong)

/-- 'remouldlaw02.TreadBrute': WHATEVER THE INPUT: true; the input reads as it did. -/
def treadBruteSpec : ChangeSpec := { name := "treadBrute", fn := fun _ => fun
  | [d1, d2, d3, d4] => { results := [.lit (.bool true)], args := [d1, d2, d3, d4] }
  | _ => none }
def treadBruteRow : OpenClaim := { program := "ytnamafakjkcmjaa", sum := "d0084b784d82efbc54c9186c8588b5ca40335b3f850518731c30cafa4a9b4e34", func := "remould/remouldlaw02.TreadBrute", spec := "treadBrute", inPlace := ["internal/bytealg.IndexByteString", "internal/bytealg.IndexString"], unfollowed := true, recurses := true, named := ["internal/bytealg.MaxLen"], plainKeys := false, apart := false }
def TreadBruteSaid : Prop := treadBruteRow.holds Try.pinned (OpenSpec.ofChange treadBruteSpec)

/-- ITS FALSE NEIGHBOUR: 'it returns false'. Refute it at one input. -/
def treadBruteWrong : ChangeSpec := { name := "treadBrute", fn := fun _ => fun
  | [d1, d2, d3, d4] => { results := [.lit (.bool false)], args := [d1, d2, d3, d4] }
  | _ => none }
def TreadBruteWrongFalsely : Prop := treadBruteRow.holds Try.pinned (OpenSpec.ofChange treadBruteWrong)

/-- 'remouldlaw02.TreadLarger': WHATEVER THE INPUT: true; the input reads as it did. -/
def treadLargerSpec : ChangeSpec := { name := "treadLarger", fn := fun _ => fun
  | [d1, d2, d3, d4] => { results := [.lit (.bool true)], args := [d1, d2, d3, d4] }
  | _ => none }
def treadLargerRow : OpenClaim := { program := "ytnamafakjkcmjaa", sum := "d0084b784d82efbc54c9186c8588b5ca40335b3f850518731c30cafa4a9b4e34", func := "remould/remouldlaw02.TreadLarger", spec := "treadLarger", inPlace := ["internal/bytealg.IndexByteString", "internal/bytealg.IndexString", "internal/abi.NoEscape", "internal/bytealg.MakeNoZero"], unfollowed := true, recurses := true, named := ["internal/bytealg.MaxLen"], plainKeys := false, apart := false }
def TreadLargerSaid : Prop := treadLargerRow.holds Try.pinned (OpenSpec.ofChange treadLargerSpec)

/-- ITS FALSE NEIGHBOUR: 'it returns false'. Refute it at one input. -/
def treadLargerWrong : ChangeSpec := { name := "treadLarger", fn := fun _ => fun
  | [d1, d2, d3, d4] => { results := [.lit (.bool false)], args := [d1, d2, d3, d4] }
  | _ => none }
def TreadLargerWrongFalsely : Prop := treadLargerRow.holds Try.pinned (OpenSpec.ofChange treadLargerWrong)

/- THE SECOND FORM. 'bulk': how many values and letters a reading holds, each counted each time it is reached (what is shared counts as often as it is met; a slice's spare places count too). A statement '..UptoSaid' is the law's where the arguments, and the package variables that the reading takes, are together of bulk at most 1048576: NARROWER than '..Said'. Prove '..Said' where nothing that the law and all that it calls make is longer than what came in: it says more and counts as full. Else prove '..UptoSaid'. A law counts once. -/
mutual
def uptoBulk {H : Type} : DataW H → Nat
  | .lit (.string bytes) => bytes.length + 1
  | .lit _ => 1
  | .nil => 1
  | .ptr d => uptoBulk d + 1
  | .slice elems spare => uptoBulkAll elems + uptoBulkAll spare + 1
  | .agg parts => uptoBulkAll parts + 1
  | .iface _ d => uptoBulk d + 1
  | .map entries => uptoBulkEntries entries + 1
  | .held _ => 1
def uptoBulkAll {H : Type} : List (DataW H) → Nat
  | [] => 0
  | d :: r => uptoBulk d + uptoBulkAll r
def uptoBulkEntries {H : Type} : List (Lit × DataW H) → Nat
  | [] => 0
  | x :: r => uptoBulkEntry x + uptoBulkEntries r
def uptoBulkEntry {H : Type} : Lit × DataW H → Nat
  | (.string bytes, d) => bytes.length + uptoBulk d + 1
  | (_, d) => uptoBulk d + 1
 end
def uptoSmall : (H : Type) → List (DataW H) → Bool := fun _ ds => decide (uptoBulkAll ds ≤ 1048576)
def OpenSpec.upto (s : _root_.Go.ChangeSpec) : _root_.Go.OpenSpec := { _root_.Go.OpenSpec.ofChange s with cond := some uptoSmall }

/-- 'remouldlaw02.TreadGrows', WHERE WHAT IT READS IS OF BULK AT MOST 1048576: true; the input reads as it did. -/
def treadGrowsUptoRow : OpenClaim := { program := "ytnamafakjkcmjaa", sum := "d0084b784d82efbc54c9186c8588b5ca40335b3f850518731c30cafa4a9b4e34", func := "remould/remouldlaw02.TreadGrows", spec := "treadGrows", inPlace := ["internal/bytealg.IndexByteString", "internal/bytealg.IndexString"], unfollowed := true, recurses := true, named := ["internal/bytealg.MaxLen"], plainKeys := false, apart := false, narrowed := true }
def TreadGrowsUptoSaid : Prop := treadGrowsUptoRow.holds Try.pinned (OpenSpec.upto treadGrowsSpec)

/-- 'remouldlaw02.TreadIndexes', WHERE WHAT IT READS IS OF BULK AT MOST 1048576: true; the input reads as it did. -/
def treadIndexesUptoRow : OpenClaim := { program := "ytnamafakjkcmjaa", sum := "d0084b784d82efbc54c9186c8588b5ca40335b3f850518731c30cafa4a9b4e34", func := "remould/remouldlaw02.TreadIndexes", spec := "treadIndexes", inPlace := ["internal/bytealg.IndexByteString", "internal/bytealg.IndexString"], unfollowed := true, recurses := true, named := ["internal/bytealg.MaxLen"], plainKeys := false, apart := false, narrowed := true }
def TreadIndexesUptoSaid : Prop := treadIndexesUptoRow.holds Try.pinned (OpenSpec.upto treadIndexesSpec)

/-- 'remouldlaw02.TreadItems', WHERE WHAT IT READS IS OF BULK AT MOST 1048576: true; the input reads as it did. -/
def treadItemsUptoRow : OpenClaim := { program := "ytnamafakjkcmjaa", sum := "d0084b784d82efbc54c9186c8588b5ca40335b3f850518731c30cafa4a9b4e34", func := "remould/remouldlaw02.TreadItems", spec := "treadItems", inPlace := ["internal/bytealg.IndexByteString", "internal/bytealg.IndexString"], unfollowed := true, recurses := true, named := ["internal/bytealg.MaxLen"], plainKeys := false, apart := false, narrowed := true }
def TreadItemsUptoSaid : Prop := treadItemsUptoRow.holds Try.pinned (OpenSpec.upto treadItemsSpec)

/-- 'remouldlaw02.TreadRanked', WHERE WHAT IT READS IS OF BULK AT MOST 1048576: true; the input reads as it did. -/
def treadRankedUptoRow : OpenClaim := { program := "ytnamafakjkcmjaa", sum := "d0084b784d82efbc54c9186c8588b5ca40335b3f850518731c30cafa4a9b4e34", func := "remould/remouldlaw02.TreadRanked", spec := "treadRanked", inPlace := ["internal/bytealg.IndexByteString", "internal/bytealg.IndexString"], unfollowed := true, recurses := true, named := ["internal/bytealg.MaxLen"], plainKeys := false, apart := false, narrowed := true }
def TreadRankedUptoSaid : Prop := treadRankedUptoRow.holds Try.pinned (OpenSpec.upto treadRankedSpec)

/-- 'remouldlaw02.TreadExtended', WHERE WHAT IT READS IS OF BULK AT MOST 1048576: true; the input reads as it did. -/
def treadExtendedUptoRow : OpenClaim := { program := "ytnamafakjkcmjaa", sum := "d0084b784d82efbc54c9186c8588b5ca40335b3f850518731c30cafa4a9b4e34", func := "remould/remouldlaw02.TreadExtended", spec := "treadExtended", inPlace := ["internal/bytealg.IndexByteString", "internal/bytealg.IndexString"], unfollowed := true, recurses := true, named := ["internal/bytealg.MaxLen"], plainKeys := false, apart := false, narrowed := true }
def TreadExtendedUptoSaid : Prop := treadExtendedUptoRow.holds Try.pinned (OpenSpec.upto treadExtendedSpec)

/-- 'remouldlaw02.TreadBrute', WHERE WHAT IT READS IS OF BULK AT MOST 1048576: true; the input reads as it did. -/
def treadBruteUptoRow : OpenClaim := { program := "ytnamafakjkcmjaa", sum := "d0084b784d82efbc54c9186c8588b5ca40335b3f850518731c30cafa4a9b4e34", func := "remould/remouldlaw02.TreadBrute", spec := "treadBrute", inPlace := ["internal/bytealg.IndexByteString", "internal/bytealg.IndexString"], unfollowed := true, recurses := true, named := ["internal/bytealg.MaxLen"], plainKeys := false, apart := false, narrowed := true }
def TreadBruteUptoSaid : Prop := treadBruteUptoRow.holds Try.pinned (OpenSpec.upto treadBruteSpec)

/-- 'remouldlaw02.TreadLarger', WHERE WHAT IT READS IS OF BULK AT MOST 1048576: true; the input reads as it did. -/
def treadLargerUptoRow : OpenClaim := { program := "ytnamafakjkcmjaa", sum := "d0084b784d82efbc54c9186c8588b5ca40335b3f850518731c30cafa4a9b4e34", func := "remould/remouldlaw02.TreadLarger", spec := "treadLarger", inPlace := ["internal/bytealg.IndexByteString", "internal/bytealg.IndexString", "internal/abi.NoEscape", "internal/bytealg.MakeNoZero"], unfollowed := true, recurses := true, named := ["internal/bytealg.MaxLen"], plainKeys := false, apart := false, narrowed := true }
def TreadLargerUptoSaid : Prop := treadLargerUptoRow.holds Try.pinned (OpenSpec.upto treadLargerSpec)

end Rows
end Go.Proofs.Ytnamafakjkcmjaa
