/-
  No cell of these rows narrows 'for every input' (looked for: loops, veiled, ifaces, maps, wideKeys, modest, calm, conditions, laid).
  DERIVED. THE GIVEN ROWS OF THIS SEAT. 11 by the template 'for every input the law returns true; each argument reads behind the call as it read before'; 0 by the template 'total and deterministic' (their statements: YtpclkocfbkjabaaTotals.lean).
  GIVEN WITH THE SEED: the statements are not yours to turn. If you find one false, say at which input.
  Laid BY PROGRAM, IN A SANDBOX (cutbox-rows.mjs): the forced cells as the released guide's own fill.sh prints them over the translation f9ee2041294f14de… (all of the seat's roots in one cut). By AI agents, Wed Nov 11 2026. No macro, syntax, notation, axiom, sorry.
-/
import Derived.Test.YtpclkocfbkjabaaChecked
import GoSem.Claim
import GoSem.ClaimJoined
import GoSem.ClaimMapViews
import Derived.JoinedTies
import Derived.KernelRfl
namespace Go.Proofs.Ytpclkocfbkjabaa
/- THE CELL 'sum', in the pinned program and in every row, IS THE sha256 OF THE DUMP (.gsa) THAT YtpclkocfbkjabaaProg.lean LOADS. Nothing in Lean hashes anything: it is a label: what it is worth is what the hold of that sum in a sandbox is worth. -/
noncomputable def Try.pinned : Pinned := { name := "ytpclkocfbkjabaa", sum := "f9ee2041294f14dedada5a08b24ebe0f4f1bb90d6683c2372465b4824e31b4cb", checked := Try.checked }
namespace Rows
def none {H : Type} : Left H := { results := [], args := [] }

/-- 'remouldlaw02.TreadLongest': WHATEVER THE INPUT: true; the input reads as it did. -/
def treadLongestSpec : ChangeSpec := { name := "treadLongest", fn := fun _ => fun
  | [d1, d2] => { results := [.lit (.bool true)], args := [d1, d2] }
  | _ => none }
def treadLongestRow : OpenClaim := { program := "ytpclkocfbkjabaa", sum := "f9ee2041294f14dedada5a08b24ebe0f4f1bb90d6683c2372465b4824e31b4cb", func := "remould/remouldlaw02.TreadLongest", spec := "treadLongest", inPlace := ["internal/bytealg.IndexByteString", "internal/bytealg.IndexString"], unfollowed := true, recurses := true, named := ["internal/bytealg.MaxLen"], plainKeys := false, apart := false }
def TreadLongestSaid : Prop := treadLongestRow.holds Try.pinned (OpenSpec.ofChange treadLongestSpec)

/-- ITS FALSE NEIGHBOUR: 'it returns false'. Refute it at one input. -/
def treadLongestWrong : ChangeSpec := { name := "treadLongest", fn := fun _ => fun
  | [d1, d2] => { results := [.lit (.bool false)], args := [d1, d2] }
  | _ => none }
def TreadLongestWrongFalsely : Prop := treadLongestRow.holds Try.pinned (OpenSpec.ofChange treadLongestWrong)

/-- 'remouldlaw02.TreadLoops': WHATEVER THE INPUT: true; the input reads as it did. -/
def treadLoopsSpec : ChangeSpec := { name := "treadLoops", fn := fun _ => fun
  | [d1, d2] => { results := [.lit (.bool true)], args := [d1, d2] }
  | _ => none }
def treadLoopsRow : OpenClaim := { program := "ytpclkocfbkjabaa", sum := "f9ee2041294f14dedada5a08b24ebe0f4f1bb90d6683c2372465b4824e31b4cb", func := "remould/remouldlaw02.TreadLoops", spec := "treadLoops", inPlace := ["internal/bytealg.IndexByteString", "internal/bytealg.IndexString"], unfollowed := true, recurses := true, named := ["internal/bytealg.MaxLen"], plainKeys := false, apart := false }
def TreadLoopsSaid : Prop := treadLoopsRow.holds Try.pinned (OpenSpec.ofChange treadLoopsSpec)

/-- ITS FALSE NEIGHBOUR: 'it returns false'. Refute it at one input. -/
def treadLoopsWrong : ChangeSpec := { name := "treadLoops", fn := fun _ => fun
  | [d1, d2] => { results := [.lit (.bool false)], args := [d1, d2] }
  | _ => none }
def TreadLoopsWrongFalsely : Prop := treadLoopsRow.holds Try.pinned (OpenSpec.ofChange treadLoopsWrong)

/-- 'remouldlaw02.TreadGrows': WHATEVER THE INPUT: true; the input reads as it did. -/
def treadGrowsSpec : ChangeSpec := { name := "treadGrows", fn := fun _ => fun
  | [d1, d2] => { results := [.lit (.bool true)], args := [d1, d2] }
  | _ => none }
def treadGrowsRow : OpenClaim := { program := "ytpclkocfbkjabaa", sum := "f9ee2041294f14dedada5a08b24ebe0f4f1bb90d6683c2372465b4824e31b4cb", func := "remould/remouldlaw02.TreadGrows", spec := "treadGrows", inPlace := ["internal/bytealg.IndexByteString", "internal/bytealg.IndexString"], unfollowed := true, recurses := true, named := ["internal/bytealg.MaxLen"], plainKeys := false, apart := false }
def TreadGrowsSaid : Prop := treadGrowsRow.holds Try.pinned (OpenSpec.ofChange treadGrowsSpec)

/-- ITS FALSE NEIGHBOUR: 'it returns false'. Refute it at one input. -/
def treadGrowsWrong : ChangeSpec := { name := "treadGrows", fn := fun _ => fun
  | [d1, d2] => { results := [.lit (.bool false)], args := [d1, d2] }
  | _ => none }
def TreadGrowsWrongFalsely : Prop := treadGrowsRow.holds Try.pinned (OpenSpec.ofChange treadGrowsWrong)

/-- 'remouldlaw02.TreadRings': WHATEVER THE INPUT: true; the input reads as it did. -/
def treadRingsSpec : ChangeSpec := { name := "treadRings", fn := fun _ => fun
  | [d1, d2] => { results := [.lit (.bool true)], args := [d1, d2] }
  | _ => none }
def treadRingsRow : OpenClaim := { program := "ytpclkocfbkjabaa", sum := "f9ee2041294f14dedada5a08b24ebe0f4f1bb90d6683c2372465b4824e31b4cb", func := "remould/remouldlaw02.TreadRings", spec := "treadRings", inPlace := ["internal/bytealg.IndexByteString", "internal/bytealg.IndexString"], unfollowed := true, recurses := true, named := ["internal/bytealg.MaxLen"], plainKeys := false, apart := false }
def TreadRingsSaid : Prop := treadRingsRow.holds Try.pinned (OpenSpec.ofChange treadRingsSpec)

/-- ITS FALSE NEIGHBOUR: 'it returns false'. Refute it at one input. -/
def treadRingsWrong : ChangeSpec := { name := "treadRings", fn := fun _ => fun
  | [d1, d2] => { results := [.lit (.bool false)], args := [d1, d2] }
  | _ => none }
def TreadRingsWrongFalsely : Prop := treadRingsRow.holds Try.pinned (OpenSpec.ofChange treadRingsWrong)

/-- 'remouldlaw02.TreadRung': WHATEVER THE INPUT: true; the input reads as it did. -/
def treadRungSpec : ChangeSpec := { name := "treadRung", fn := fun _ => fun
  | [d1, d2] => { results := [.lit (.bool true)], args := [d1, d2] }
  | _ => none }
def treadRungRow : OpenClaim := { program := "ytpclkocfbkjabaa", sum := "f9ee2041294f14dedada5a08b24ebe0f4f1bb90d6683c2372465b4824e31b4cb", func := "remould/remouldlaw02.TreadRung", spec := "treadRung", inPlace := ["internal/bytealg.IndexByteString", "internal/bytealg.IndexString"], unfollowed := true, recurses := true, named := ["internal/bytealg.MaxLen"], plainKeys := false, apart := false }
def TreadRungSaid : Prop := treadRungRow.holds Try.pinned (OpenSpec.ofChange treadRungSpec)

/-- ITS FALSE NEIGHBOUR: 'it returns false'. Refute it at one input. -/
def treadRungWrong : ChangeSpec := { name := "treadRung", fn := fun _ => fun
  | [d1, d2] => { results := [.lit (.bool false)], args := [d1, d2] }
  | _ => none }
def TreadRungWrongFalsely : Prop := treadRungRow.holds Try.pinned (OpenSpec.ofChange treadRungWrong)

/-- 'remouldlaw02.TreadOverlaps': WHATEVER THE INPUT: true; the input reads as it did. -/
def treadOverlapsSpec : ChangeSpec := { name := "treadOverlaps", fn := fun _ => fun
  | [d1, d2] => { results := [.lit (.bool true)], args := [d1, d2] }
  | _ => none }
def treadOverlapsRow : OpenClaim := { program := "ytpclkocfbkjabaa", sum := "f9ee2041294f14dedada5a08b24ebe0f4f1bb90d6683c2372465b4824e31b4cb", func := "remould/remouldlaw02.TreadOverlaps", spec := "treadOverlaps", inPlace := ["internal/bytealg.IndexByteString", "internal/bytealg.IndexString"], unfollowed := true, recurses := true, named := ["internal/bytealg.MaxLen"], plainKeys := false, apart := false }
def TreadOverlapsSaid : Prop := treadOverlapsRow.holds Try.pinned (OpenSpec.ofChange treadOverlapsSpec)

/-- ITS FALSE NEIGHBOUR: 'it returns false'. Refute it at one input. -/
def treadOverlapsWrong : ChangeSpec := { name := "treadOverlaps", fn := fun _ => fun
  | [d1, d2] => { results := [.lit (.bool false)], args := [d1, d2] }
  | _ => none }
def TreadOverlapsWrongFalsely : Prop := treadOverlapsRow.holds Try.pinned (OpenSpec.ofChange treadOverlapsWrong)

/-- 'remouldlaw02.TreadExtends': WHATEVER THE INPUT: true; the input reads as it did. -/
def treadExtendsSpec : ChangeSpec := { name := "treadExtends", fn := fun _ => fun
  | [d1, d2, d3, d4] => { results := [.lit (.bool true)], args := [d1, d2, d3, d4] }
  | _ => none }
def treadExtendsRow : OpenClaim := { program := "ytpclkocfbkjabaa", sum := "f9ee2041294f14dedada5a08b24ebe0f4f1bb90d6683c2372465b4824e31b4cb", func := "remould/remouldlaw02.TreadExtends", spec := "treadExtends", inPlace := ["internal/bytealg.IndexByteString", "internal/bytealg.IndexString"], unfollowed := true, recurses := true, named := ["internal/bytealg.MaxLen"], plainKeys := false, apart := false }
def TreadExtendsSaid : Prop := treadExtendsRow.holds Try.pinned (OpenSpec.ofChange treadExtendsSpec)

/-- ITS FALSE NEIGHBOUR: 'it returns false'. Refute it at one input. -/
def treadExtendsWrong : ChangeSpec := { name := "treadExtends", fn := fun _ => fun
  | [d1, d2, d3, d4] => { results := [.lit (.bool false)], args := [d1, d2, d3, d4] }
  | _ => none }
def TreadExtendsWrongFalsely : Prop := treadExtendsRow.holds Try.pinned (OpenSpec.ofChange treadExtendsWrong)

/-- 'remouldlaw02.TreadNeededs': WHATEVER THE INPUT: true; the input reads as it did. -/
def treadNeededsSpec : ChangeSpec := { name := "treadNeededs", fn := fun _ => fun
  | [d1, d2, d3] => { results := [.lit (.bool true)], args := [d1, d2, d3] }
  | _ => none }
def treadNeededsRow : OpenClaim := { program := "ytpclkocfbkjabaa", sum := "f9ee2041294f14dedada5a08b24ebe0f4f1bb90d6683c2372465b4824e31b4cb", func := "remould/remouldlaw02.TreadNeededs", spec := "treadNeededs", inPlace := ["internal/bytealg.IndexByteString", "internal/bytealg.IndexString"], unfollowed := true, recurses := true, named := ["internal/bytealg.MaxLen"], plainKeys := false, apart := false }
def TreadNeededsSaid : Prop := treadNeededsRow.holds Try.pinned (OpenSpec.ofChange treadNeededsSpec)

/-- ITS FALSE NEIGHBOUR: 'it returns false'. Refute it at one input. -/
def treadNeededsWrong : ChangeSpec := { name := "treadNeededs", fn := fun _ => fun
  | [d1, d2, d3] => { results := [.lit (.bool false)], args := [d1, d2, d3] }
  | _ => none }
def TreadNeededsWrongFalsely : Prop := treadNeededsRow.holds Try.pinned (OpenSpec.ofChange treadNeededsWrong)

/-- 'remouldlaw02.TreadTidies': WHATEVER THE INPUT: true; the input reads as it did. -/
def treadTidiesSpec : ChangeSpec := { name := "treadTidies", fn := fun _ => fun
  | [d1, d2] => { results := [.lit (.bool true)], args := [d1, d2] }
  | _ => none }
def treadTidiesRow : OpenClaim := { program := "ytpclkocfbkjabaa", sum := "f9ee2041294f14dedada5a08b24ebe0f4f1bb90d6683c2372465b4824e31b4cb", func := "remould/remouldlaw02.TreadTidies", spec := "treadTidies", inPlace := ["internal/bytealg.IndexByteString", "internal/bytealg.IndexString"], unfollowed := true, recurses := true, named := ["internal/bytealg.MaxLen"], plainKeys := false, apart := false }
def TreadTidiesSaid : Prop := treadTidiesRow.holds Try.pinned (OpenSpec.ofChange treadTidiesSpec)

/-- ITS FALSE NEIGHBOUR: 'it returns false'. Refute it at one input. -/
def treadTidiesWrong : ChangeSpec := { name := "treadTidies", fn := fun _ => fun
  | [d1, d2] => { results := [.lit (.bool false)], args := [d1, d2] }
  | _ => none }
def TreadTidiesWrongFalsely : Prop := treadTidiesRow.holds Try.pinned (OpenSpec.ofChange treadTidiesWrong)

/-- 'remouldlaw02.TreadOwn': WHATEVER THE INPUT: true; the input reads as it did. -/
def treadOwnSpec : ChangeSpec := { name := "treadOwn", fn := fun _ => fun
  | [d1, d2] => { results := [.lit (.bool true)], args := [d1, d2] }
  | _ => none }
def treadOwnRow : OpenClaim := { program := "ytpclkocfbkjabaa", sum := "f9ee2041294f14dedada5a08b24ebe0f4f1bb90d6683c2372465b4824e31b4cb", func := "remould/remouldlaw02.TreadOwn", spec := "treadOwn", inPlace := ["internal/bytealg.IndexByteString", "internal/bytealg.IndexString"], unfollowed := true, recurses := true, named := ["internal/bytealg.MaxLen"], plainKeys := false, apart := false }
def TreadOwnSaid : Prop := treadOwnRow.holds Try.pinned (OpenSpec.ofChange treadOwnSpec)

/-- ITS FALSE NEIGHBOUR: 'it returns false'. Refute it at one input. -/
def treadOwnWrong : ChangeSpec := { name := "treadOwn", fn := fun _ => fun
  | [d1, d2] => { results := [.lit (.bool false)], args := [d1, d2] }
  | _ => none }
def TreadOwnWrongFalsely : Prop := treadOwnRow.holds Try.pinned (OpenSpec.ofChange treadOwnWrong)

/-- 'remouldlaw02.TreadCounts': WHATEVER THE INPUT: true; the input reads as it did. -/
def treadCountsSpec : ChangeSpec := { name := "treadCounts", fn := fun _ => fun
  | [d1, d2, d3] => { results := [.lit (.bool true)], args := [d1, d2, d3] }
  | _ => none }
def treadCountsRow : OpenClaim := { program := "ytpclkocfbkjabaa", sum := "f9ee2041294f14dedada5a08b24ebe0f4f1bb90d6683c2372465b4824e31b4cb", func := "remould/remouldlaw02.TreadCounts", spec := "treadCounts", inPlace := ["internal/bytealg.IndexByteString", "internal/bytealg.IndexString"], unfollowed := true, recurses := true, named := ["internal/bytealg.MaxLen"], plainKeys := false, apart := false }
def TreadCountsSaid : Prop := treadCountsRow.holds Try.pinned (OpenSpec.ofChange treadCountsSpec)

/-- ITS FALSE NEIGHBOUR: 'it returns false'. Refute it at one input. -/
def treadCountsWrong : ChangeSpec := { name := "treadCounts", fn := fun _ => fun
  | [d1, d2, d3] => { results := [.lit (.bool false)], args := [d1, d2, d3] }
  | _ => none }
def TreadCountsWrongFalsely : Prop := treadCountsRow.holds Try.pinned (OpenSpec.ofChange treadCountsWrong)

/- THE SECOND FORM. 'bulk': how many values and letters a reading holds, each counted each time it is reached (what is shared counts as often as it is met; a slice's spare places count too). A statement '..UptoSaid' is the law's where the arguments, and the package variables that the reading takes, are together of bulk at most 1048576: NARROWER than '..Said'. Prove '..Said' where nothing that the law and all that it calls make is longer than what came in: it says more and counts as full. Else prove '..UptoSaid'. A law counts once. -/
mutual
def uptoBulk {H : Type} : DataW H → Nat
  | .lit (.string bytes) => bytes.length + 1
  | .lit _ => 1
  | .nil => 1
  | .ptr d => uptoBulk d + 1
  | .slice elems spare => uptoBulkAll elems + uptoBulkAll spare + 1
  | .agg parts => uptoBulkAll parts + 1
  | .iface _ d => uptoBulk d + 1
  | .map entries => uptoBulkEntries entries + 1
  | .held _ => 1
def uptoBulkAll {H : Type} : List (DataW H) → Nat
  | [] => 0
  | d :: r => uptoBulk d + uptoBulkAll r
def uptoBulkEntries {H : Type} : List (Lit × DataW H) → Nat
  | [] => 0
  | x :: r => uptoBulkEntry x + uptoBulkEntries r
def uptoBulkEntry {H : Type} : Lit × DataW H → Nat
  | (.string bytes, d) => bytes.length + uptoBulk d + 1
  | (_, d) => uptoBulk d + 1
 end
def uptoSmall : (H : Type) → List (DataW H) → Bool := fun _ ds => decide (uptoBulkAll ds ≤ 1048576)
def OpenSpec.upto (s : _root_.Go.ChangeSpec) : _root_.Go.OpenSpec := { _root_.Go.OpenSpec.ofChange s with cond := some uptoSmall }

/-- 'remouldlaw02.TreadLongest', WHERE WHAT IT READS IS OF BULK AT MOST 1048576: true; the input reads as it did. -/
def treadLongestUptoRow : OpenClaim := { program := "ytpclkocfbkjabaa", sum := "f9ee2041294f14dedada5a08b24ebe0f4f1bb90d6683c2372465b4824e31b4cb", func := "remould/remouldlaw02.TreadLongest", spec := "treadLongest", inPlace := ["internal/bytealg.IndexByteString", "internal/bytealg.IndexString"], unfollowed := true, recurses := true, named := ["internal/bytealg.MaxLen"], plainKeys := false, apart := false, narrowed := true }
def TreadLongestUptoSaid : Prop := treadLongestUptoRow.holds Try.pinned (OpenSpec.upto treadLongestSpec)

/-- 'remouldlaw02.TreadLoops', WHERE WHAT IT READS IS OF BULK AT MOST 1048576: true; the input reads as it did. -/
def treadLoopsUptoRow : OpenClaim := { program := "ytpclkocfbkjabaa", sum := "f9ee2041294f14dedada5a08b24ebe0f4f1bb90d6683c2372465b4824e31b4cb", func := "remould/remouldlaw02.TreadLoops", spec := "treadLoops", inPlace := ["internal/bytealg.IndexByteString", "internal/bytealg.IndexString"], unfollowed := true, recurses := true, named := ["internal/bytealg.MaxLen"], plainKeys := false, apart := false, narrowed := true }
def TreadLoopsUptoSaid : Prop := treadLoopsUptoRow.holds Try.pinned (OpenSpec.upto treadLoopsSpec)

/-- 'remouldlaw02.TreadGrows', WHERE WHAT IT READS IS OF BULK AT MOST 1048576: true; the input reads as it did. -/
def treadGrowsUptoRow : OpenClaim := { program := "ytpclkocfbkjabaa", sum := "f9ee2041294f14dedada5a08b24ebe0f4f1bb90d6683c2372465b4824e31b4cb", func := "remould/remouldlaw02.TreadGrows", spec := "treadGrows", inPlace := ["internal/bytealg.IndexByteString", "internal/bytealg.IndexString"], unfollowed := true, recurses := true, named := ["internal/bytealg.MaxLen"], plainKeys := false, apart := false, narrowed := true }
def TreadGrowsUptoSaid : Prop := treadGrowsUptoRow.holds Try.pinned (OpenSpec.upto treadGrowsSpec)

/-- 'remouldlaw02.TreadRings', WHERE WHAT IT READS IS OF BULK AT MOST 1048576: true; the input reads as it did. -/
def treadRingsUptoRow : OpenClaim := { program := "ytpclkocfbkjabaa", sum := "f9ee2041294f14dedada5a08b24ebe0f4f1bb90d6683c2372465b4824e31b4cb", func := "remould/remouldlaw02.TreadRings", spec := "treadRings", inPlace := ["internal/bytealg.IndexByteString", "internal/bytealg.IndexString"], unfollowed := true, recurses := true, named := ["internal/bytealg.MaxLen"], plainKeys := false, apart := false, narrowed := true }
def TreadRingsUptoSaid : Prop := treadRingsUptoRow.holds Try.pinned (OpenSpec.upto treadRingsSpec)

/-- 'remouldlaw02.TreadRung', WHERE WHAT IT READS IS OF BULK AT MOST 1048576: true; the input reads as it did. -/
def treadRungUptoRow : OpenClaim := { program := "ytpclkocfbkjabaa", sum := "f9ee2041294f14dedada5a08b24ebe0f4f1bb90d6683c2372465b4824e31b4cb", func := "remould/remouldlaw02.TreadRung", spec := "treadRung", inPlace := ["internal/bytealg.IndexByteString", "internal/bytealg.IndexString"], unfollowed := true, recurses := true, named := ["internal/bytealg.MaxLen"], plainKeys := false, apart := false, narrowed := true }
def TreadRungUptoSaid : Prop := treadRungUptoRow.holds Try.pinned (OpenSpec.upto treadRungSpec)

/-- 'remouldlaw02.TreadOverlaps', WHERE WHAT IT READS IS OF BULK AT MOST 1048576: true; the input reads as it did. -/
def treadOverlapsUptoRow : OpenClaim := { program := "ytpclkocfbkjabaa", sum := "f9ee2041294f14dedada5a08b24ebe0f4f1bb90d6683c2372465b4824e31b4cb", func := "remould/remouldlaw02.TreadOverlaps", spec := "treadOverlaps", inPlace := ["internal/bytealg.IndexByteString", "internal/bytealg.IndexString"], unfollowed := true, recurses := true, named := ["internal/bytealg.MaxLen"], plainKeys := false, apart := false, narrowed := true }
def TreadOverlapsUptoSaid : Prop := treadOverlapsUptoRow.holds Try.pinned (OpenSpec.upto treadOverlapsSpec)

/-- 'remouldlaw02.TreadExtends', WHERE WHAT IT READS IS OF BULK AT MOST 1048576: true; the input reads as it did. -/
def treadExtendsUptoRow : OpenClaim := { program := "ytpclkocfbkjabaa", sum := "f9ee2041294f14dedada5a08b24ebe0f4f1bb90d6683c2372465b4824e31b4cb", func := "remould/remouldlaw02.TreadExtends", spec := "treadExtends", inPlace := ["internal/bytealg.IndexByteString", "internal/bytealg.IndexString"], unfollowed := true, recurses := true, named := ["internal/bytealg.MaxLen"], plainKeys := false, apart := false, narrowed := true }
def TreadExtendsUptoSaid : Prop := treadExtendsUptoRow.holds Try.pinned (OpenSpec.upto treadExtendsSpec)

/-- 'remouldlaw02.TreadNeededs', WHERE WHAT IT READS IS OF BULK AT MOST 1048576: true; the input reads as it did. -/
def treadNeededsUptoRow : OpenClaim := { program := "ytpclkocfbkjabaa", sum := "f9ee2041294f14dedada5a08b24ebe0f4f1bb90d6683c2372465b4824e31b4cb", func := "remould/remouldlaw02.TreadNeededs", spec := "treadNeededs", inPlace := ["internal/bytealg.IndexByteString", "internal/bytealg.IndexString"], unfollowed := true, recurses := true, named := ["internal/bytealg.MaxLen"], plainKeys := false, apart := false, narrowed := true }
def TreadNeededsUptoSaid : Prop := treadNeededsUptoRow.holds Try.pinned (OpenSpec.upto treadNeededsSpec)

/-- 'remouldlaw02.TreadTidies', WHERE WHAT IT READS IS OF BULK AT MOST 1048576: true; the input reads as it did. -/
def treadTidiesUptoRow : OpenClaim := { program := "ytpclkocfbkjabaa", sum := "f9ee2041294f14dedada5a08b24ebe0f4f1bb90d6683c2372465b4824e31b4cb", func := "remould/remouldlaw02.TreadTidies", spec := "treadTidies", inPlace := ["internal/bytealg.IndexByteString", "internal/bytealg.IndexString"], unfollowed := true, recurses := true, named := ["internal/bytealg.MaxLen"], plainKeys := false, apart := false, narrowed := true }
def TreadTidiesUptoSaid : Prop := treadTidiesUptoRow.holds Try.pinned (OpenSpec.upto treadTidiesSpec)

/-- 'remouldlaw02.TreadOwn', WHERE WHAT IT READS IS OF BULK AT MOST 1048576: true; the input reads as it did. -/
def treadOwnUptoRow : OpenClaim := { program := "ytpclkocfbkjabaa", sum := "f9ee2041294f14dedada5a08b24ebe0f4f1bb90d6683c2372465b4824e31b4cb", func := "remould/remouldlaw02.TreadOwn", spec := "treadOwn", inPlace := ["internal/bytealg.IndexByteString", "internal/bytealg.IndexString"], unfollowed := true, recurses := true, named := ["internal/bytealg.MaxLen"], plainKeys := false, apart := false, narrowed := true }
def TreadOwnUptoSaid : Prop := treadOwnUptoRow.holds Try.pinned (OpenSpec.upto treadOwnSpec)

/-- 'remouldlaw02.TreadCounts', WHERE WHAT IT READS IS OF BULK AT MOST 1048576: true; the input reads as it did. -/
def treadCountsUptoRow : OpenClaim := { program := "ytpclkocfbkjabaa", sum := "f9ee2041294f14dedada5a08b24ebe0f4f1bb90d6683c2372465b4824e31b4cb", func := "remould/remouldlaw02.TreadCounts", spec := "treadCounts", inPlace := ["internal/bytealg.IndexByteString", "internal/bytealg.IndexString"], unfollowed := true, recurses := true, named := ["internal/bytealg.MaxLen"], plainKeys := false, apart := false, narrowed := true }
def TreadCountsUptoSaid : Prop := treadCountsUptoRow.holds Try.pinned (OpenSpec.upto treadCountsSpec)

end Rows
end Go.Proofs.Ytpclkocfbkjabaa
