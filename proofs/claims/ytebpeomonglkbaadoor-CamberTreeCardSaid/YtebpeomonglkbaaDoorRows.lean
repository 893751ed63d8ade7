/-
  NARROWER THAN 'FOR EVERY INPUT', by the rows' own cells (each row's printed sentence says how): CamberPaths: laid · CamberRoots: laid · CamberMatrices: laid · CamberRooted: laid · CamberForms: laid · CamberCohn: laid · CamberDet: laid · CamberTriples: laid · CamberExchanges: laid · CamberParents: laid · CamberWords: laid · CamberVieta: laid · CamberLetters: laid · CamberFollows: laid · CamberCoprime: laid · CamberTree: laid.
  DERIVED. THE GIVEN ROWS OF THIS SEAT. 16 by the template 'for every input the law returns true; each argument reads behind the call as it read before'; 0 by the template 'total and deterministic' (their statements: YtebpeomonglkbaaDoorTotals.lean).
  GIVEN WITH THE SEED: the statements are not yours to turn. If you find one false, say at which input.
  Laid BY PROGRAM, IN A SANDBOX (cutbox-rows.mjs): the forced cells as the released guide's own fill.sh prints them over the translation 02056a4df9e06821… (all of the seat's roots in one cut). By AI agents, Wed Nov 11 2026. No macro, syntax, notation, axiom, sorry.
-/
import Derived.Test.YtebpeomonglkbaaDoorChecked
import GoSem.Claim
import GoSem.ClaimJoined
import GoSem.ClaimMapViews
import Derived.JoinedTies
import Derived.KernelRfl
namespace Go.Proofs.YtebpeomonglkbaaDoor
/- THE CELL 'sum', in the pinned program and in every row, IS THE sha256 OF THE DUMP (.gsa) THAT YtebpeomonglkbaaDoorProg.lean LOADS. Nothing in Lean hashes anything: it is a label: what it is worth is what the hold of that sum in a sandbox is worth. -/
noncomputable def Tryd.pinned : Pinned := { name := "ytebpeomonglkbaadoor", sum := "02056a4df9e068217da199a491eda5efa32a4d2909a390ad08c8b97f4c5d596c", checked := Tryd.checked }
namespace Rows
def none {H : Type} : Left H := { results := [], args := [] }

/- WHAT THE LISTED PACKAGE-LEVEL VARIABLES READ AS WHEN THE CALL BEGINS. Each datum BY PROGRAM (the guide's laid-datum.mjs) off the statement by which the dump's own 'gosem.cut.vars' lays the variable. In a bare row this is a premise. The card (YtebpeomonglkbaaDoorCards.lean) ties it to the program's text. -/
def laid_remould_camber_first {H : Type} : DataW H := .agg [.lit (.int .i64 1), .lit (.int .i64 2), .lit (.int .i64 5)]

/-- 'remouldlaw09.CamberPaths': WHATEVER THE INPUT: true; the input reads as it did. -/
def camberPathsSpec : ChangeSpec := { name := "camberPaths", fn := fun _ => fun
  | [d] => { results := [.lit (.bool true)], args := [d] }
  | _ => none }
def camberPathsRow : OpenClaim := { program := "ytebpeomonglkbaadoor", sum := "02056a4df9e068217da199a491eda5efa32a4d2909a390ad08c8b97f4c5d596c", func := "remould/remouldlaw09.CamberPaths", spec := "camberPaths", inPlace := ["internal/bytealg.CountString", "internal/bytealg.IndexByteString", "internal/bytealg.IndexString"], unfollowed := true, recurses := true, named := ["remould/camber.first", "internal/bytealg.MaxLen"], apart := false, laid := [("remould/camber.first", laid_remould_camber_first)] }
def CamberPathsSaid : Prop := camberPathsRow.holds Tryd.pinned (OpenSpec.ofChange camberPathsSpec)

/-- ITS FALSE NEIGHBOUR: 'it returns false'. Refute it at one input. -/
def camberPathsWrong : ChangeSpec := { name := "camberPaths", fn := fun _ => fun
  | [d] => { results := [.lit (.bool false)], args := [d] }
  | _ => none }
def CamberPathsWrongFalsely : Prop := camberPathsRow.holds Tryd.pinned (OpenSpec.ofChange camberPathsWrong)

/-- 'remouldlaw09.CamberRoots': WHATEVER THE INPUT: true; the input reads as it did. -/
def camberRootsSpec : ChangeSpec := { name := "camberRoots", fn := fun _ => fun
  | [d] => { results := [.lit (.bool true)], args := [d] }
  | _ => none }
def camberRootsRow : OpenClaim := { program := "ytebpeomonglkbaadoor", sum := "02056a4df9e068217da199a491eda5efa32a4d2909a390ad08c8b97f4c5d596c", func := "remould/remouldlaw09.CamberRoots", spec := "camberRoots", inPlace := ["internal/bytealg.CountString", "internal/bytealg.IndexByteString", "internal/bytealg.IndexString"], unfollowed := true, recurses := true, named := ["remould/camber.first", "internal/bytealg.MaxLen"], apart := false, laid := [("remould/camber.first", laid_remould_camber_first)] }
def CamberRootsSaid : Prop := camberRootsRow.holds Tryd.pinned (OpenSpec.ofChange camberRootsSpec)

/-- ITS FALSE NEIGHBOUR: 'it returns false'. Refute it at one input. -/
def camberRootsWrong : ChangeSpec := { name := "camberRoots", fn := fun _ => fun
  | [d] => { results := [.lit (.bool false)], args := [d] }
  | _ => none }
def CamberRootsWrongFalsely : Prop := camberRootsRow.holds Tryd.pinned (OpenSpec.ofChange camberRootsWrong)

/-- 'remouldlaw09.CamberMatrices': WHATEVER THE INPUT: true; the input reads as it did. -/
def camberMatricesSpec : ChangeSpec := { name := "camberMatrices", fn := fun _ => fun
  | [d] => { results := [.lit (.bool true)], args := [d] }
  | _ => none }
def camberMatricesRow : OpenClaim := { program := "ytebpeomonglkbaadoor", sum := "02056a4df9e068217da199a491eda5efa32a4d2909a390ad08c8b97f4c5d596c", func := "remould/remouldlaw09.CamberMatrices", spec := "camberMatrices", inPlace := ["internal/bytealg.CountString", "internal/bytealg.IndexByteString", "internal/bytealg.IndexString"], unfollowed := true, recurses := true, named := ["internal/bytealg.MaxLen", "remould/camber.first"], apart := false, laid := [("remould/camber.first", laid_remould_camber_first)] }
def CamberMatricesSaid : Prop := camberMatricesRow.holds Tryd.pinned (OpenSpec.ofChange camberMatricesSpec)

/-- ITS FALSE NEIGHBOUR: 'it returns false'. Refute it at one input. -/
def camberMatricesWrong : ChangeSpec := { name := "camberMatrices", fn := fun _ => fun
  | [d] => { results := [.lit (.bool false)], args := [d] }
  | _ => none }
def CamberMatricesWrongFalsely : Prop := camberMatricesRow.holds Tryd.pinned (OpenSpec.ofChange camberMatricesWrong)

/-- 'remouldlaw09.CamberRooted': WHATEVER THE INPUT: true; the input reads as it did. -/
def camberRootedSpec : ChangeSpec := { name := "camberRooted", fn := fun _ => fun
  | [d] => { results := [.lit (.bool true)], args := [d] }
  | _ => none }
def camberRootedRow : OpenClaim := { program := "ytebpeomonglkbaadoor", sum := "02056a4df9e068217da199a491eda5efa32a4d2909a390ad08c8b97f4c5d596c", func := "remould/remouldlaw09.CamberRooted", spec := "camberRooted", inPlace := ["internal/bytealg.CountString", "internal/bytealg.IndexByteString", "internal/bytealg.IndexString"], unfollowed := true, recurses := true, named := ["remould/camber.first", "internal/bytealg.MaxLen"], apart := false, laid := [("remould/camber.first", laid_remould_camber_first)] }
def CamberRootedSaid : Prop := camberRootedRow.holds Tryd.pinned (OpenSpec.ofChange camberRootedSpec)

/-- ITS FALSE NEIGHBOUR: 'it returns false'. Refute it at one input. -/
def camberRootedWrong : ChangeSpec := { name := "camberRooted", fn := fun _ => fun
  | [d] => { results := [.lit (.bool false)], args := [d] }
  | _ => none }
def CamberRootedWrongFalsely : Prop := camberRootedRow.holds Tryd.pinned (OpenSpec.ofChange camberRootedWrong)

/-- 'remouldlaw09.CamberForms': WHATEVER THE INPUT: true; the input reads as it did. -/
def camberFormsSpec : ChangeSpec := { name := "camberForms", fn := fun _ => fun
  | [d] => { results := [.lit (.bool true)], args := [d] }
  | _ => none }
def camberFormsRow : OpenClaim := { program := "ytebpeomonglkbaadoor", sum := "02056a4df9e068217da199a491eda5efa32a4d2909a390ad08c8b97f4c5d596c", func := "remould/remouldlaw09.CamberForms", spec := "camberForms", inPlace := ["internal/bytealg.CountString", "internal/bytealg.IndexByteString", "internal/bytealg.IndexString"], unfollowed := true, recurses := true, named := ["remould/camber.first", "internal/bytealg.MaxLen"], apart := false, laid := [("remould/camber.first", laid_remould_camber_first)] }
def CamberFormsSaid : Prop := camberFormsRow.holds Tryd.pinned (OpenSpec.ofChange camberFormsSpec)

/-- ITS FALSE NEIGHBOUR: 'it returns false'. Refute it at one input. -/
def camberFormsWrong : ChangeSpec := { name := "camberForms", fn := fun _ => fun
  | [d] => { results := [.lit (.bool false)], args := [d] }
  | _ => none }
def CamberFormsWrongFalsely : Prop := camberFormsRow.holds Tryd.pinned (OpenSpec.ofChange camberFormsWrong)

/-- 'remouldlaw09.CamberCohn': WHATEVER THE INPUT: true; the input reads as it did. -/
def camberCohnSpec : ChangeSpec := { name := "camberCohn", fn := fun _ => fun
  | [d] => { results := [.lit (.bool true)], args := [d] }
  | _ => none }
def camberCohnRow : OpenClaim := { program := "ytebpeomonglkbaadoor", sum := "02056a4df9e068217da199a491eda5efa32a4d2909a390ad08c8b97f4c5d596c", func := "remould/remouldlaw09.CamberCohn", spec := "camberCohn", inPlace := ["internal/bytealg.CountString", "internal/bytealg.IndexByteString", "internal/bytealg.IndexString"], unfollowed := true, recurses := true, named := ["internal/bytealg.MaxLen", "remould/camber.first"], apart := false, laid := [("remould/camber.first", laid_remould_camber_first)] }
def CamberCohnSaid : Prop := camberCohnRow.holds Tryd.pinned (OpenSpec.ofChange camberCohnSpec)

/-- ITS FALSE NEIGHBOUR: 'it returns false'. Refute it at one input. -/
def camberCohnWrong : ChangeSpec := { name := "camberCohn", fn := fun _ => fun
  | [d] => { results := [.lit (.bool false)], args := [d] }
  | _ => none }
def CamberCohnWrongFalsely : Prop := camberCohnRow.holds Tryd.pinned (OpenSpec.ofChange camberCohnWrong)

/-- 'remouldlaw09.CamberDet': WHATEVER THE INPUT: true; the input reads as it did. -/
def camberDetSpec : ChangeSpec := { name := "camberDet", fn := fun _ => fun
  | [d1, d2] => { results := [.lit (.bool true)], args := [d1, d2] }
  | _ => none }
def camberDetRow : OpenClaim := { program := "ytebpeomonglkbaadoor", sum := "02056a4df9e068217da199a491eda5efa32a4d2909a390ad08c8b97f4c5d596c", func := "remould/remouldlaw09.CamberDet", spec := "camberDet", inPlace := ["internal/bytealg.CountString", "internal/bytealg.IndexByteString", "internal/bytealg.IndexString"], unfollowed := true, recurses := true, named := ["internal/bytealg.MaxLen", "remould/camber.first"], apart := false, laid := [("remould/camber.first", laid_remould_camber_first)] }
def CamberDetSaid : Prop := camberDetRow.holds Tryd.pinned (OpenSpec.ofChange camberDetSpec)

/-- ITS FALSE NEIGHBOUR: 'it returns false'. Refute it at one input. -/
def camberDetWrong : ChangeSpec := { name := "camberDet", fn := fun _ => fun
  | [d1, d2] => { results := [.lit (.bool false)], args := [d1, d2] }
  | _ => none }
def CamberDetWrongFalsely : Prop := camberDetRow.holds Tryd.pinned (OpenSpec.ofChange camberDetWrong)

/-- 'remouldlaw09.CamberTriples': WHATEVER THE INPUT: true; the input reads as it did. -/
def camberTriplesSpec : ChangeSpec := { name := "camberTriples", fn := fun _ => fun
  | [d] => { results := [.lit (.bool true)], args := [d] }
  | _ => none }
def camberTriplesRow : OpenClaim := { program := "ytebpeomonglkbaadoor", sum := "02056a4df9e068217da199a491eda5efa32a4d2909a390ad08c8b97f4c5d596c", func := "remould/remouldlaw09.CamberTriples", spec := "camberTriples", inPlace := ["internal/bytealg.CountString", "internal/bytealg.IndexByteString", "internal/bytealg.IndexString"], unfollowed := true, recurses := true, named := ["remould/camber.first", "internal/bytealg.MaxLen"], apart := false, laid := [("remould/camber.first", laid_remould_camber_first)] }
def CamberTriplesSaid : Prop := camberTriplesRow.holds Tryd.pinned (OpenSpec.ofChange camberTriplesSpec)

/-- ITS FALSE NEIGHBOUR: 'it returns false'. Refute it at one input. -/
def camberTriplesWrong : ChangeSpec := { name := "camberTriples", fn := fun _ => fun
  | [d] => { results := [.lit (.bool false)], args := [d] }
  | _ => none }
def CamberTriplesWrongFalsely : Prop := camberTriplesRow.holds Tryd.pinned (OpenSpec.ofChange camberTriplesWrong)

/-- 'remouldlaw09.CamberExchanges': WHATEVER THE INPUT: true; the input reads as it did. -/
def camberExchangesSpec : ChangeSpec := { name := "camberExchanges", fn := fun _ => fun
  | [d1, d2] => { results := [.lit (.bool true)], args := [d1, d2] }
  | _ => none }
def camberExchangesRow : OpenClaim := { program := "ytebpeomonglkbaadoor", sum := "02056a4df9e068217da199a491eda5efa32a4d2909a390ad08c8b97f4c5d596c", func := "remould/remouldlaw09.CamberExchanges", spec := "camberExchanges", inPlace := ["internal/bytealg.CountString", "internal/bytealg.IndexByteString", "internal/bytealg.IndexString"], unfollowed := true, recurses := true, named := ["remould/camber.first", "internal/bytealg.MaxLen"], apart := false, laid := [("remould/camber.first", laid_remould_camber_first)] }
def CamberExchangesSaid : Prop := camberExchangesRow.holds Tryd.pinned (OpenSpec.ofChange camberExchangesSpec)

/-- ITS FALSE NEIGHBOUR: 'it returns false'. Refute it at one input. -/
def camberExchangesWrong : ChangeSpec := { name := "camberExchanges", fn := fun _ => fun
  | [d1, d2] => { results := [.lit (.bool false)], args := [d1, d2] }
  | _ => none }
def CamberExchangesWrongFalsely : Prop := camberExchangesRow.holds Tryd.pinned (OpenSpec.ofChange camberExchangesWrong)

/-- 'remouldlaw09.CamberParents': WHATEVER THE INPUT: true; the input reads as it did. -/
def camberParentsSpec : ChangeSpec := { name := "camberParents", fn := fun _ => fun
  | [d] => { results := [.lit (.bool true)], args := [d] }
  | _ => none }
def camberParentsRow : OpenClaim := { program := "ytebpeomonglkbaadoor", sum := "02056a4df9e068217da199a491eda5efa32a4d2909a390ad08c8b97f4c5d596c", func := "remould/remouldlaw09.CamberParents", spec := "camberParents", inPlace := ["internal/bytealg.CountString", "internal/bytealg.IndexByteString", "internal/bytealg.IndexString"], unfollowed := true, recurses := true, named := ["remould/camber.first", "internal/bytealg.MaxLen"], apart := false, laid := [("remould/camber.first", laid_remould_camber_first)] }
def CamberParentsSaid : Prop := camberParentsRow.holds Tryd.pinned (OpenSpec.ofChange camberParentsSpec)

/-- ITS FALSE NEIGHBOUR: 'it returns false'. Refute it at one input. -/
def camberParentsWrong : ChangeSpec := { name := "camberParents", fn := fun _ => fun
  | [d] => { results := [.lit (.bool false)], args := [d] }
  | _ => none }
def CamberParentsWrongFalsely : Prop := camberParentsRow.holds Tryd.pinned (OpenSpec.ofChange camberParentsWrong)

/-- 'remouldlaw09.CamberWords': WHATEVER THE INPUT: true; the input reads as it did. -/
def camberWordsSpec : ChangeSpec := { name := "camberWords", fn := fun _ => fun
  | [d] => { results := [.lit (.bool true)], args := [d] }
  | _ => none }
def camberWordsRow : OpenClaim := { program := "ytebpeomonglkbaadoor", sum := "02056a4df9e068217da199a491eda5efa32a4d2909a390ad08c8b97f4c5d596c", func := "remould/remouldlaw09.CamberWords", spec := "camberWords", inPlace := ["internal/bytealg.CountString", "internal/bytealg.IndexByteString", "internal/bytealg.IndexString"], unfollowed := true, recurses := true, named := ["internal/bytealg.MaxLen", "remould/camber.first"], apart := false, laid := [("remould/camber.first", laid_remould_camber_first)] }
def CamberWordsSaid : Prop := camberWordsRow.holds Tryd.pinned (OpenSpec.ofChange camberWordsSpec)

/-- ITS FALSE NEIGHBOUR: 'it returns false'. Refute it at one input. -/
def camberWordsWrong : ChangeSpec := { name := "camberWords", fn := fun _ => fun
  | [d] => { results := [.lit (.bool false)], args := [d] }
  | _ => none }
def CamberWordsWrongFalsely : Prop := camberWordsRow.holds Tryd.pinned (OpenSpec.ofChange camberWordsWrong)

/-- 'remouldlaw09.CamberVieta': WHATEVER THE INPUT: true; the input reads as it did. -/
def camberVietaSpec : ChangeSpec := { name := "camberVieta", fn := fun _ => fun
  | [d1, d2] => { results := [.lit (.bool true)], args := [d1, d2] }
  | _ => none }
def camberVietaRow : OpenClaim := { program := "ytebpeomonglkbaadoor", sum := "02056a4df9e068217da199a491eda5efa32a4d2909a390ad08c8b97f4c5d596c", func := "remould/remouldlaw09.CamberVieta", spec := "camberVieta", inPlace := ["internal/bytealg.CountString", "internal/bytealg.IndexByteString", "internal/bytealg.IndexString"], unfollowed := true, recurses := true, named := ["remould/camber.first", "internal/bytealg.MaxLen"], apart := false, laid := [("remould/camber.first", laid_remould_camber_first)] }
def CamberVietaSaid : Prop := camberVietaRow.holds Tryd.pinned (OpenSpec.ofChange camberVietaSpec)

/-- ITS FALSE NEIGHBOUR: 'it returns false'. Refute it at one input. -/
def camberVietaWrong : ChangeSpec := { name := "camberVieta", fn := fun _ => fun
  | [d1, d2] => { results := [.lit (.bool false)], args := [d1, d2] }
  | _ => none }
def CamberVietaWrongFalsely : Prop := camberVietaRow.holds Tryd.pinned (OpenSpec.ofChange camberVietaWrong)

/-- 'remouldlaw09.CamberLetters': WHATEVER THE INPUT: true; the input reads as it did. -/
def camberLettersSpec : ChangeSpec := { name := "camberLetters", fn := fun _ => fun
  | [d] => { results := [.lit (.bool true)], args := [d] }
  | _ => none }
def camberLettersRow : OpenClaim := { program := "ytebpeomonglkbaadoor", sum := "02056a4df9e068217da199a491eda5efa32a4d2909a390ad08c8b97f4c5d596c", func := "remould/remouldlaw09.CamberLetters", spec := "camberLetters", inPlace := ["internal/bytealg.CountString", "internal/bytealg.IndexByteString", "internal/bytealg.IndexString"], unfollowed := true, recurses := true, named := ["internal/bytealg.MaxLen", "remould/camber.first"], apart := false, laid := [("remould/camber.first", laid_remould_camber_first)] }
def CamberLettersSaid : Prop := camberLettersRow.holds Tryd.pinned (OpenSpec.ofChange camberLettersSpec)

/-- ITS FALSE NEIGHBOUR: 'it returns false'. Refute it at one input. -/
def camberLettersWrong : ChangeSpec := { name := "camberLetters", fn := fun _ => fun
  | [d] => { results := [.lit (.bool false)], args := [d] }
  | _ => none }
def CamberLettersWrongFalsely : Prop := camberLettersRow.holds Tryd.pinned (OpenSpec.ofChange camberLettersWrong)

/-- 'remouldlaw09.CamberFollows': WHATEVER THE INPUT: true; the input reads as it did. -/
def camberFollowsSpec : ChangeSpec := { name := "camberFollows", fn := fun _ => fun
  | [d] => { results := [.lit (.bool true)], args := [d] }
  | _ => none }
def camberFollowsRow : OpenClaim := { program := "ytebpeomonglkbaadoor", sum := "02056a4df9e068217da199a491eda5efa32a4d2909a390ad08c8b97f4c5d596c", func := "remould/remouldlaw09.CamberFollows", spec := "camberFollows", inPlace := ["internal/bytealg.CountString", "internal/bytealg.IndexByteString", "internal/bytealg.IndexString"], unfollowed := true, recurses := true, named := ["remould/camber.first", "internal/bytealg.MaxLen"], apart := false, laid := [("remould/camber.first", laid_remould_camber_first)] }
def CamberFollowsSaid : Prop := camberFollowsRow.holds Tryd.pinned (OpenSpec.ofChange camberFollowsSpec)

/-- ITS FALSE NEIGHBOUR: 'it returns false'. Refute it at one input. -/
def camberFollowsWrong : ChangeSpec := { name := "camberFollows", fn := fun _ => fun
  | [d] => { results := [.lit (.bool false)], args := [d] }
  | _ => none }
def CamberFollowsWrongFalsely : Prop := camberFollowsRow.holds Tryd.pinned (OpenSpec.ofChange camberFollowsWrong)

/-- 'remouldlaw09.CamberCoprime': WHATEVER THE INPUT: true; the input reads as it did. -/
def camberCoprimeSpec : ChangeSpec := { name := "camberCoprime", fn := fun _ => fun
  | [d] => { results := [.lit (.bool true)], args := [d] }
  | _ => none }
def camberCoprimeRow : OpenClaim := { program := "ytebpeomonglkbaadoor", sum := "02056a4df9e068217da199a491eda5efa32a4d2909a390ad08c8b97f4c5d596c", func := "remould/remouldlaw09.CamberCoprime", spec := "camberCoprime", inPlace := ["internal/bytealg.CountString", "internal/bytealg.IndexByteString", "internal/bytealg.IndexString"], unfollowed := true, recurses := true, named := ["remould/camber.first", "internal/bytealg.MaxLen"], apart := false, laid := [("remould/camber.first", laid_remould_camber_first)] }
def CamberCoprimeSaid : Prop := camberCoprimeRow.holds Tryd.pinned (OpenSpec.ofChange camberCoprimeSpec)

/-- ITS FALSE NEIGHBOUR: 'it returns false'. Refute it at one input. -/
def camberCoprimeWrong : ChangeSpec := { name := "camberCoprime", fn := fun _ => fun
  | [d] => { results := [.lit (.bool false)], args := [d] }
  | _ => none }
def CamberCoprimeWrongFalsely : Prop := camberCoprimeRow.holds Tryd.pinned (OpenSpec.ofChange camberCoprimeWrong)

/-- 'remouldlaw09.CamberTree': WHATEVER THE INPUT: true; the input reads as it did. -/
def camberTreeSpec : ChangeSpec := { name := "camberTree", fn := fun _ => fun
  | [d] => { results := [.lit (.bool true)], args := [d] }
  | _ => none }
def camberTreeRow : OpenClaim := { program := "ytebpeomonglkbaadoor", sum := "02056a4df9e068217da199a491eda5efa32a4d2909a390ad08c8b97f4c5d596c", func := "remould/remouldlaw09.CamberTree", spec := "camberTree", inPlace := ["internal/bytealg.CountString", "internal/bytealg.IndexByteString", "internal/bytealg.IndexString"], unfollowed := true, recurses := true, named := ["remould/camber.first", "internal/bytealg.MaxLen"], apart := false, laid := [("remould/camber.first", laid_remould_camber_first)] }
def CamberTreeSaid : Prop := camberTreeRow.holds Tryd.pinned (OpenSpec.ofChange camberTreeSpec)

/-- ITS FALSE NEIGHBOUR: 'it returns false'. Refute it at one input. -/
def camberTreeWrong : ChangeSpec := { name := "camberTree", fn := fun _ => fun
  | [d] => { results := [.lit (.bool false)], args := [d] }
  | _ => none }
def CamberTreeWrongFalsely : Prop := camberTreeRow.holds Tryd.pinned (OpenSpec.ofChange camberTreeWrong)

/- THE SECOND FORM. 'bulk': how many values and letters a reading holds, each counted each time it is reached (what is shared counts as often as it is met; a slice's spare places count too). A statement '..UptoSaid' is the law's where the arguments, and the package variables that the reading takes, are together of bulk at most 1048576: NARROWER than '..Said'. Prove '..Said' where nothing that the law and all that it calls make is longer than what came in: it says more and counts as full. Else prove '..UptoSaid'. A law counts once. -/
mutual
def uptoBulk {H : Type} : DataW H → Nat
  | .lit (.string bytes) => bytes.length + 1
  | .lit _ => 1
  | .nil => 1
  | .ptr d => uptoBulk d + 1
  | .slice elems spare => uptoBulkAll elems + uptoBulkAll spare + 1
  | .agg parts => uptoBulkAll parts + 1
  | .iface _ d => uptoBulk d + 1
  | .map entries => uptoBulkEntries entries + 1
  | .held _ => 1
def uptoBulkAll {H : Type} : List (DataW H) → Nat
  | [] => 0
  | d :: r => uptoBulk d + uptoBulkAll r
def uptoBulkEntries {H : Type} : List (Lit × DataW H) → Nat
  | [] => 0
  | x :: r => uptoBulkEntry x + uptoBulkEntries r
def uptoBulkEntry {H : Type} : Lit × DataW H → Nat
  | (.string bytes, d) => bytes.length + uptoBulk d + 1
  | (_, d) => uptoBulk d + 1
 end
def uptoSmall : (H : Type) → List (DataW H) → Bool := fun _ ds => decide (uptoBulkAll ds ≤ 1048576)
def OpenSpec.upto (s : _root_.Go.ChangeSpec) : _root_.Go.OpenSpec := { _root_.Go.OpenSpec.ofChange s with cond := some uptoSmall }

/-- 'remouldlaw09.CamberPaths', WHERE WHAT IT READS IS OF BULK AT MOST 1048576: true; the input reads as it did. -/
def camberPathsUptoRow : OpenClaim := { program := "ytebpeomonglkbaadoor", sum := "02056a4df9e068217da199a491eda5efa32a4d2909a390ad08c8b97f4c5d596c", func := "remould/remouldlaw09.CamberPaths", spec := "camberPaths", inPlace := ["internal/bytealg.CountString", "internal/bytealg.IndexByteString", "internal/bytealg.IndexString"], unfollowed := true, recurses := true, named := ["remould/camber.first", "internal/bytealg.MaxLen"], apart := false, laid := [("remould/camber.first", laid_remould_camber_first)], narrowed := true }
def CamberPathsUptoSaid : Prop := camberPathsUptoRow.holds Tryd.pinned (OpenSpec.upto camberPathsSpec)

/-- 'remouldlaw09.CamberRoots', WHERE WHAT IT READS IS OF BULK AT MOST 1048576: true; the input reads as it did. -/
def camberRootsUptoRow : OpenClaim := { program := "ytebpeomonglkbaadoor", sum := "02056a4df9e068217da199a491eda5efa32a4d2909a390ad08c8b97f4c5d596c", func := "remould/remouldlaw09.CamberRoots", spec := "camberRoots", inPlace := ["internal/bytealg.CountString", "internal/bytealg.IndexByteString", "internal/bytealg.IndexString"], unfollowed := true, recurses := true, named := ["remould/camber.first", "internal/bytealg.MaxLen"], apart := false, laid := [("remould/camber.first", laid_remould_camber_first)], narrowed := true }
def CamberRootsUptoSaid : Prop := camberRootsUptoRow.holds Tryd.pinned (OpenSpec.upto camberRootsSpec)

/-- 'remouldlaw09.CamberMatrices', WHERE WHAT IT READS IS OF BULK AT MOST 1048576: true; the input reads as it did. -/
def camberMatricesUptoRow : OpenClaim := { program := "ytebpeomonglkbaadoor", sum := "02056a4df9e068217da199a491eda5efa32a4d2909a390ad08c8b97f4c5d596c", func := "remould/remouldlaw09.CamberMatrices", spec := "camberMatrices", inPlace := ["internal/bytealg.CountString", "internal/bytealg.IndexByteString", "internal/bytealg.IndexString"], unfollowed := true, recurses := true, named := ["internal/bytealg.MaxLen", "remould/camber.first"], apart := false, laid := [("remould/camber.first", laid_remould_camber_first)], narrowed := true }
def CamberMatricesUptoSaid : Prop := camberMatricesUptoRow.holds Tryd.pinned (OpenSpec.upto camberMatricesSpec)

/-- 'remouldlaw09.CamberRooted', WHERE WHAT IT READS IS OF BULK AT MOST 1048576: true; the input reads as it did. -/
def camberRootedUptoRow : OpenClaim := { program := "ytebpeomonglkbaadoor", sum := "02056a4df9e068217da199a491eda5efa32a4d2909a390ad08c8b97f4c5d596c", func := "remould/remouldlaw09.CamberRooted", spec := "camberRooted", inPlace := ["internal/bytealg.CountString", "internal/bytealg.IndexByteString", "internal/bytealg.IndexString"], unfollowed := true, recurses := true, named := ["remould/camber.first", "internal/bytealg.MaxLen"], apart := false, laid := [("remould/camber.first", laid_remould_camber_first)], narrowed := true }
def CamberRootedUptoSaid : Prop := camberRootedUptoRow.holds Tryd.pinned (OpenSpec.upto camberRootedSpec)

/-- 'remouldlaw09.CamberForms', WHERE WHAT IT READS IS OF BULK AT MOST 1048576: true; the input reads as it did. -/
def camberFormsUptoRow : OpenClaim := { program := "ytebpeomonglkbaadoor", sum := "02056a4df9e068217da199a491eda5efa32a4d2909a390ad08c8b97f4c5d596c", func := "remould/remouldlaw09.CamberForms", spec := "camberForms", inPlace := ["internal/bytealg.CountString", "internal/bytealg.IndexByteString", "internal/bytealg.IndexString"], unfollowed := true, recurses := true, named := ["remould/camber.first", "internal/bytealg.MaxLen"], apart := false, laid := [("remould/camber.first", laid_remould_camber_first)], narrowed := true }
def CamberFormsUptoSaid : Prop := camberFormsUptoRow.holds Tryd.pinned (OpenSpec.upto camberFormsSpec)

/-- 'remouldlaw09.CamberCohn', WHERE WHAT IT READS IS OF BULK AT MOST 1048576: true; the input reads as it did. -/
def camberCohnUptoRow : OpenClaim := { program := "ytebpeomonglkbaadoor", sum := "02056a4df9e068217da199a491eda5efa32a4d2909a390ad08c8b97f4c5d596c", func := "remould/remouldlaw09.CamberCohn", spec := "camberCohn", inPlace := ["internal/bytealg.CountString", "internal/bytealg.IndexByteString", "internal/bytealg.IndexString"], unfollowed := true, recurses := true, named := ["internal/bytealg.MaxLen", "remould/camber.first"], apart := false, laid := [("remould/camber.first", laid_remould_camber_first)], narrowed := true }
def CamberCohnUptoSaid : Prop := camberCohnUptoRow.holds Tryd.pinned (OpenSpec.upto camberCohnSpec)

/-- 'remouldlaw09.CamberDet', WHERE WHAT IT READS IS OF BULK AT MOST 1048576: true; the input reads as it did. -/
def camberDetUptoRow : OpenClaim := { program := "ytebpeomonglkbaadoor", sum := "02056a4df9e068217da199a491eda5efa32a4d2909a390ad08c8b97f4c5d596c", func := "remould/remouldlaw09.CamberDet", spec := "camberDet", inPlace := ["internal/bytealg.CountString", "internal/bytealg.IndexByteString", "internal/bytealg.IndexString"], unfollowed := true, recurses := true, named := ["internal/bytealg.MaxLen", "remould/camber.first"], apart := false, laid := [("remould/camber.first", laid_remould_camber_first)], narrowed := true }
def CamberDetUptoSaid : Prop := camberDetUptoRow.holds Tryd.pinned (OpenSpec.upto camberDetSpec)

/-- 'remouldlaw09.CamberTriples', WHERE WHAT IT READS IS OF BULK AT MOST 1048576: true; the input reads as it did. -/
def camberTriplesUptoRow : OpenClaim := { program := "ytebpeomonglkbaadoor", sum := "02056a4df9e068217da199a491eda5efa32a4d2909a390ad08c8b97f4c5d596c", func := "remould/remouldlaw09.CamberTriples", spec := "camberTriples", inPlace := ["internal/bytealg.CountString", "internal/bytealg.IndexByteString", "internal/bytealg.IndexString"], unfollowed := true, recurses := true, named := ["remould/camber.first", "internal/bytealg.MaxLen"], apart := false, laid := [("remould/camber.first", laid_remould_camber_first)], narrowed := true }
def CamberTriplesUptoSaid : Prop := camberTriplesUptoRow.holds Tryd.pinned (OpenSpec.upto camberTriplesSpec)

/-- 'remouldlaw09.CamberExchanges', WHERE WHAT IT READS IS OF BULK AT MOST 1048576: true; the input reads as it did. -/
def camberExchangesUptoRow : OpenClaim := { program := "ytebpeomonglkbaadoor", sum := "02056a4df9e068217da199a491eda5efa32a4d2909a390ad08c8b97f4c5d596c", func := "remould/remouldlaw09.CamberExchanges", spec := "camberExchanges", inPlace := ["internal/bytealg.CountString", "internal/bytealg.IndexByteString", "internal/bytealg.IndexString"], unfollowed := true, recurses := true, named := ["remould/camber.first", "internal/bytealg.MaxLen"], apart := false, laid := [("remould/camber.first", laid_remould_camber_first)], narrowed := true }
def CamberExchangesUptoSaid : Prop := camberExchangesUptoRow.holds Tryd.pinned (OpenSpec.upto camberExchangesSpec)

/-- 'remouldlaw09.CamberParents', WHERE WHAT IT READS IS OF BULK AT MOST 1048576: true; the input reads as it did. -/
def camberParentsUptoRow : OpenClaim := { program := "ytebpeomonglkbaadoor", sum := "02056a4df9e068217da199a491eda5efa32a4d2909a390ad08c8b97f4c5d596c", func := "remould/remouldlaw09.CamberParents", spec := "camberParents", inPlace := ["internal/bytealg.CountString", "internal/bytealg.IndexByteString", "internal/bytealg.IndexString"], unfollowed := true, recurses := true, named := ["remould/camber.first", "internal/bytealg.MaxLen"], apart := false, laid := [("remould/camber.first", laid_remould_camber_first)], narrowed := true }
def CamberParentsUptoSaid : Prop := camberParentsUptoRow.holds Tryd.pinned (OpenSpec.upto camberParentsSpec)

/-- 'remouldlaw09.CamberWords', WHERE WHAT IT READS IS OF BULK AT MOST 1048576: true; the input reads as it did. -/
def camberWordsUptoRow : OpenClaim := { program := "ytebpeomonglkbaadoor", sum := "02056a4df9e068217da199a491eda5efa32a4d2909a390ad08c8b97f4c5d596c", func := "remould/remouldlaw09.CamberWords", spec := "camberWords", inPlace := ["internal/bytealg.CountString", "internal/bytealg.IndexByteString", "internal/bytealg.IndexString"], unfollowed := true, recurses := true, named := ["internal/bytealg.MaxLen", "remould/camber.first"], apart := false, laid := [("remould/camber.first", laid_remould_camber_first)], narrowed := true }
def CamberWordsUptoSaid : Prop := camberWordsUptoRow.holds Tryd.pinned (OpenSpec.upto camberWordsSpec)

/-- 'remouldlaw09.CamberVieta', WHERE WHAT IT READS IS OF BULK AT MOST 1048576: true; the input reads as it did. -/
def camberVietaUptoRow : OpenClaim := { program := "ytebpeomonglkbaadoor", sum := "02056a4df9e068217da199a491eda5efa32a4d2909a390ad08c8b97f4c5d596c", func := "remould/remouldlaw09.CamberVieta", spec := "camberVieta", inPlace := ["internal/bytealg.CountString", "internal/bytealg.IndexByteString", "internal/bytealg.IndexString"], unfollowed := true, recurses := true, named := ["remould/camber.first", "internal/bytealg.MaxLen"], apart := false, laid := [("remould/camber.first", laid_remould_camber_first)], narrowed := true }
def CamberVietaUptoSaid : Prop := camberVietaUptoRow.holds Tryd.pinned (OpenSpec.upto camberVietaSpec)

/-- 'remouldlaw09.CamberLetters', WHERE WHAT IT READS IS OF BULK AT MOST 1048576: true; the input reads as it did. -/
def camberLettersUptoRow : OpenClaim := { program := "ytebpeomonglkbaadoor", sum := "02056a4df9e068217da199a491eda5efa32a4d2909a390ad08c8b97f4c5d596c", func := "remould/remouldlaw09.CamberLetters", spec := "camberLetters", inPlace := ["internal/bytealg.CountString", "internal/bytealg.IndexByteString", "internal/bytealg.IndexString"], unfollowed := true, recurses := true, named := ["internal/bytealg.MaxLen", "remould/camber.first"], apart := false, laid := [("remould/camber.first", laid_remould_camber_first)], narrowed := true }
def CamberLettersUptoSaid : Prop := camberLettersUptoRow.holds Tryd.pinned (OpenSpec.upto camberLettersSpec)

/-- 'remouldlaw09.CamberFollows', WHERE WHAT IT READS IS OF BULK AT MOST 1048576: true; the input reads as it did. -/
def camberFollowsUptoRow : OpenClaim := { program := "ytebpeomonglkbaadoor", sum := "02056a4df9e068217da199a491eda5efa32a4d2909a390ad08c8b97f4c5d596c", func := "remould/remouldlaw09.CamberFollows", spec := "camberFollows", inPlace := ["internal/bytealg.CountString", "internal/bytealg.IndexByteString", "internal/bytealg.IndexString"], unfollowed := true, recurses := true, named := ["remould/camber.first", "internal/bytealg.MaxLen"], apart := false, laid := [("remould/camber.first", laid_remould_camber_first)], narrowed := true }
def CamberFollowsUptoSaid : Prop := camberFollowsUptoRow.holds Tryd.pinned (OpenSpec.upto camberFollowsSpec)

/-- 'remouldlaw09.CamberCoprime', WHERE WHAT IT READS IS OF BULK AT MOST 1048576: true; the input reads as it did. -/
def camberCoprimeUptoRow : OpenClaim := { program := "ytebpeomonglkbaadoor", sum := "02056a4df9e068217da199a491eda5efa32a4d2909a390ad08c8b97f4c5d596c", func := "remould/remouldlaw09.CamberCoprime", spec := "camberCoprime", inPlace := ["internal/bytealg.CountString", "internal/bytealg.IndexByteString", "internal/bytealg.IndexString"], unfollowed := true, recurses := true, named := ["remould/camber.first", "internal/bytealg.MaxLen"], apart := false, laid := [("remould/camber.first", laid_remould_camber_first)], narrowed := true }
def CamberCoprimeUptoSaid : Prop := camberCoprimeUptoRow.holds Tryd.pinned (OpenSpec.upto camberCoprimeSpec)

/-- 'remouldlaw09.CamberTree', WHERE WHAT IT READS IS OF BULK AT MOST 1048576: true; the input reads as it did. -/
def camberTreeUptoRow : OpenClaim := { program := "ytebpeomonglkbaadoor", sum := "02056a4df9e068217da199a491eda5efa32a4d2909a390ad08c8b97f4c5d596c", func := "remould/remouldlaw09.CamberTree", spec := "camberTree", inPlace := ["internal/bytealg.CountString", "internal/bytealg.IndexByteString", "internal/bytealg.IndexString"], unfollowed := true, recurses := true, named := ["remould/camber.first", "internal/bytealg.MaxLen"], apart := false, laid := [("remould/camber.first", laid_remould_camber_first)], narrowed := true }
def CamberTreeUptoSaid : Prop := camberTreeUptoRow.holds Tryd.pinned (OpenSpec.upto camberTreeSpec)

end Rows
end Go.Proofs.YtebpeomonglkbaaDoor
