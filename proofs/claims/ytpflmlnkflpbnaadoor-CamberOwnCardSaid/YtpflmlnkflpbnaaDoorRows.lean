/-
  NARROWER THAN 'FOR EVERY INPUT', by the rows' own cells (each row's printed sentence says how): CamberOthers: laid · CamberThree: laid · CamberOwn: laid.
  DERIVED. THE GIVEN ROWS OF THIS SEAT. 3 by the template 'for every input the law returns true; each argument reads behind the call as it read before'; 0 by the template 'total and deterministic' (their statements: YtpflmlnkflpbnaaDoorTotals.lean).
  GIVEN WITH THE SEED: the statements are not yours to turn. If you find one false, say at which input.
  Laid BY PROGRAM, IN A SANDBOX (cutbox-rows.mjs): the forced cells as the released guide's own fill.sh prints them over the translation 999d67c4899f8b6c… (all of the seat's roots in one cut). By AI agents, Wed Nov 11 2026. No macro, syntax, notation, axiom, sorry.
-/
import Derived.Test.YtpflmlnkflpbnaaDoorChecked
import GoSem.Claim
import GoSem.ClaimJoined
import GoSem.ClaimMapViews
import Derived.JoinedTies
import Derived.KernelRfl
namespace Go.Proofs.YtpflmlnkflpbnaaDoor
/- THE CELL 'sum', in the pinned program and in every row, IS THE sha256 OF THE DUMP (.gsa) THAT YtpflmlnkflpbnaaDoorProg.lean LOADS. Nothing in Lean hashes anything: it is a label: what it is worth is what the hold of that sum in a sandbox is worth. -/
noncomputable def Tryd.pinned : Pinned := { name := "ytpflmlnkflpbnaadoor", sum := "999d67c4899f8b6c9f7db347e15607bffb2f2c059b1aa3831d660caa650636b0", checked := Tryd.checked }
namespace Rows
def none {H : Type} : Left H := { results := [], args := [] }

/- WHAT THE LISTED PACKAGE-LEVEL VARIABLES READ AS WHEN THE CALL BEGINS. Each datum BY PROGRAM (the guide's laid-datum.mjs) off the statement by which the dump's own 'gosem.cut.vars' lays the variable. In a bare row this is a premise. The card (YtpflmlnkflpbnaaDoorCards.lean) ties it to the program's text. -/
def laid_remould_camber_first {H : Type} : DataW H := .agg [.lit (.int .i64 1), .lit (.int .i64 2), .lit (.int .i64 5)]

/-- 'remouldlaw09.CamberOthers': WHATEVER THE INPUT: true; the input reads as it did. -/
def camberOthersSpec : ChangeSpec := { name := "camberOthers", fn := fun _ => fun
  | [d1, d2] => { results := [.lit (.bool true)], args := [d1, d2] }
  | _ => none }
def camberOthersRow : OpenClaim := { program := "ytpflmlnkflpbnaadoor", sum := "999d67c4899f8b6c9f7db347e15607bffb2f2c059b1aa3831d660caa650636b0", func := "remould/remouldlaw09.CamberOthers", spec := "camberOthers", inPlace := ["internal/bytealg.CountString", "internal/bytealg.IndexByteString", "internal/bytealg.IndexString"], unfollowed := true, recurses := true, named := ["remould/camber.first", "internal/bytealg.MaxLen"], plainKeys := false, apart := false, laid := [("remould/camber.first", laid_remould_camber_first)] }
def CamberOthersSaid : Prop := camberOthersRow.holds Tryd.pinned (OpenSpec.ofChange camberOthersSpec)

/-- ITS FALSE NEIGHBOUR: 'it returns false'. Refute it at one input. -/
def camberOthersWrong : ChangeSpec := { name := "camberOthers", fn := fun _ => fun
  | [d1, d2] => { results := [.lit (.bool false)], args := [d1, d2] }
  | _ => none }
def CamberOthersWrongFalsely : Prop := camberOthersRow.holds Tryd.pinned (OpenSpec.ofChange camberOthersWrong)

/-- 'remouldlaw09.CamberThree': WHATEVER THE INPUT: true; the input reads as it did. -/
def camberThreeSpec : ChangeSpec := { name := "camberThree", fn := fun _ => fun
  | [d1, d2] => { results := [.lit (.bool true)], args := [d1, d2] }
  | _ => none }
def camberThreeRow : OpenClaim := { program := "ytpflmlnkflpbnaadoor", sum := "999d67c4899f8b6c9f7db347e15607bffb2f2c059b1aa3831d660caa650636b0", func := "remould/remouldlaw09.CamberThree", spec := "camberThree", inPlace := ["internal/bytealg.CountString", "internal/bytealg.IndexByteString", "internal/bytealg.IndexString"], unfollowed := true, recurses := true, named := ["remould/camber.first", "internal/bytealg.MaxLen"], plainKeys := false, apart := false, laid := [("remould/camber.first", laid_remould_camber_first)] }
def CamberThreeSaid : Prop := camberThreeRow.holds Tryd.pinned (OpenSpec.ofChange camberThreeSpec)

/-- ITS FALSE NEIGHBOUR: 'it returns false'. Refute it at one input. -/
def camberThreeWrong : ChangeSpec := { name := "camberThree", fn := fun _ => fun
  | [d1, d2] => { results := [.lit (.bool false)], args := [d1, d2] }
  | _ => none }
def CamberThreeWrongFalsely : Prop := camberThreeRow.holds Tryd.pinned (OpenSpec.ofChange camberThreeWrong)

/-- 'remouldlaw09.CamberOwn': WHATEVER THE INPUT: true; the input reads as it did. -/
def camberOwnSpec : ChangeSpec := { name := "camberOwn", fn := fun _ => fun
  | [d] => { results := [.lit (.bool true)], args := [d] }
  | _ => none }
def camberOwnRow : OpenClaim := { program := "ytpflmlnkflpbnaadoor", sum := "999d67c4899f8b6c9f7db347e15607bffb2f2c059b1aa3831d660caa650636b0", func := "remould/remouldlaw09.CamberOwn", spec := "camberOwn", inPlace := ["internal/bytealg.CountString", "internal/bytealg.IndexByteString", "internal/bytealg.IndexString"], unfollowed := true, recurses := true, named := ["remould/camber.first", "internal/bytealg.MaxLen"], plainKeys := false, apart := false, laid := [("remould/camber.first", laid_remould_camber_first)] }
def CamberOwnSaid : Prop := camberOwnRow.holds Tryd.pinned (OpenSpec.ofChange camberOwnSpec)

/-- ITS FALSE NEIGHBOUR: 'it returns false'. Refute it at one input. -/
def camberOwnWrong : ChangeSpec := { name := "camberOwn", fn := fun _ => fun
  | [d] => { results := [.lit (.bool false)], args := [d] }
  | _ => none }
def CamberOwnWrongFalsely : Prop := camberOwnRow.holds Tryd.pinned (OpenSpec.ofChange camberOwnWrong)

/- THE SECOND FORM. 'bulk': how many values and letters a reading holds, each counted each time it is reached (what is shared counts as often as it is met; a slice's spare places count too). A statement '..UptoSaid' is the law's where the arguments, and the package variables that the reading takes, are together of bulk at most 1048576: NARROWER than '..Said'. Prove '..Said' where nothing that the law and all that it calls make is longer than what came in: it says more and counts as full. Else prove '..UptoSaid'. A law counts once. -/
mutual
def uptoBulk {H : Type} : DataW H → Nat
  | .lit (.string bytes) => bytes.length + 1
  | .lit _ => 1
  | .nil => 1
  | .ptr d => uptoBulk d + 1
  | .slice elems spare => uptoBulkAll elems + uptoBulkAll spare + 1
  | .agg parts => uptoBulkAll parts + 1
  | .iface _ d => uptoBulk d + 1
  | .map entries => uptoBulkEntries entries + 1
  | .held _ => 1
def uptoBulkAll {H : Type} : List (DataW H) → Nat
  | [] => 0
  | d :: r => uptoBulk d + uptoBulkAll r
def uptoBulkEntries {H : Type} : List (Lit × DataW H) → Nat
  | [] => 0
  | x :: r => uptoBulkEntry x + uptoBulkEntries r
def uptoBulkEntry {H : Type} : Lit × DataW H → Nat
  | (.string bytes, d) => bytes.length + uptoBulk d + 1
  | (_, d) => uptoBulk d + 1
 end
def uptoSmall : (H : Type) → List (DataW H) → Bool := fun _ ds => decide (uptoBulkAll ds ≤ 1048576)
def OpenSpec.upto (s : _root_.Go.ChangeSpec) : _root_.Go.OpenSpec := { _root_.Go.OpenSpec.ofChange s with cond := some uptoSmall }

/-- 'remouldlaw09.CamberOthers', WHERE WHAT IT READS IS OF BULK AT MOST 1048576: true; the input reads as it did. -/
def camberOthersUptoRow : OpenClaim := { program := "ytpflmlnkflpbnaadoor", sum := "999d67c4899f8b6c9f7db347e15607bffb2f2c059b1aa3831d660caa650636b0", func := "remould/remouldlaw09.CamberOthers", spec := "camberOthers", inPlace := ["internal/bytealg.CountString", "internal/bytealg.IndexByteString", "internal/bytealg.IndexString"], unfollowed := true, recurses := true, named := ["remould/camber.first", "internal/bytealg.MaxLen"], plainKeys := false, apart := false, laid := [("remould/camber.first", laid_remould_camber_first)], narrowed := true }
def CamberOthersUptoSaid : Prop := camberOthersUptoRow.holds Tryd.pinned (OpenSpec.upto camberOthersSpec)

/-- 'remouldlaw09.CamberThree', WHERE WHAT IT READS IS OF BULK AT MOST 1048576: true; the input reads as it did. -/
def camberThreeUptoRow : OpenClaim := { program := "ytpflmlnkflpbnaadoor", sum := "999d67c4899f8b6c9f7db347e15607bffb2f2c059b1aa3831d660caa650636b0", func := "remould/remouldlaw09.CamberThree", spec := "camberThree", inPlace := ["internal/bytealg.CountString", "internal/bytealg.IndexByteString", "internal/bytealg.IndexString"], unfollowed := true, recurses := true, named := ["remould/camber.first", "internal/bytealg.MaxLen"], plainKeys := false, apart := false, laid := [("remould/camber.first", laid_remould_camber_first)], narrowed := true }
def CamberThreeUptoSaid : Prop := camberThreeUptoRow.holds Tryd.pinned (OpenSpec.upto camberThreeSpec)

/-- 'remouldlaw09.CamberOwn', WHERE WHAT IT READS IS OF BULK AT MOST 1048576: true; the input reads as it did. -/
def camberOwnUptoRow : OpenClaim := { program := "ytpflmlnkflpbnaadoor", sum := "999d67c4899f8b6c9f7db347e15607bffb2f2c059b1aa3831d660caa650636b0", func := "remould/remouldlaw09.CamberOwn", spec := "camberOwn", inPlace := ["internal/bytealg.CountString", "internal/bytealg.IndexByteString", "internal/bytealg.IndexString"], unfollowed := true, recurses := true, named := ["remould/camber.first", "internal/bytealg.MaxLen"], plainKeys := false, apart := false, laid := [("remould/camber.first", laid_remould_camber_first)], narrowed := true }
def CamberOwnUptoSaid : Prop := camberOwnUptoRow.holds Tryd.pinned (OpenSpec.upto camberOwnSpec)

end Rows
end Go.Proofs.YtpflmlnkflpbnaaDoor
