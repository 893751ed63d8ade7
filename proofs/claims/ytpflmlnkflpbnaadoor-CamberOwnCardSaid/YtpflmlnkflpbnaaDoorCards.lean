/-
  DERIVED. GIVEN WITH THE SEED: THE CARDS: each row of YtpflmlnkflpbnaaDoorRows.lean that lists a variable, with what it lists TIED to the program's text (the seventh form; the later family's looks); each row that meets fmt, with fmt's text TOLD by the authors' own Lean function (tested against real Go, not proved from fmt's source: count such statements apart). THE CARD IS WHAT COUNTS. Prove the row's statement (the work); the ties are given (YtpflmlnkflpbnaaDoorTie.lean); close each card by the builder's one call (the guide's Derived/Test/ToyasCard.lean, 'card_holds'). Laid BY PROGRAM, IN A SANDBOX (cutbox-door.mjs). By AI agents, Wed Nov 11 2026. No macro, syntax, notation, axiom, sorry.
-/
import Derived.Test.YtpflmlnkflpbnaaDoorRows
import GoSem.ClaimSeven
namespace Go.Proofs.YtpflmlnkflpbnaaDoor
namespace Rows

/-- THE TIED CARD OF 'remouldlaw09.CamberOthers'. -/
def camberOthersCard : Claim7 := { stood := { row := camberOthersRow, standIns := [], harness := (true, "bf6042916b370f55f9362f8968d26900c362cd263897432d794ee2d6a8260935"), looks := false }, kinds := [], alts := [], laidByText := true, laidKinds := [.data], laidTests := true, laidLooks := .later }
def CamberOthersCardSaid : Prop := Claim7.holds Tryd.pinned (.plain (OpenSpec.ofChange camberOthersSpec)) camberOthersCard

/-- THE TIED CARD OF 'remouldlaw09.CamberThree'. -/
def camberThreeCard : Claim7 := { stood := { row := camberThreeRow, standIns := [], harness := (true, "bf6042916b370f55f9362f8968d26900c362cd263897432d794ee2d6a8260935"), looks := false }, kinds := [], alts := [], laidByText := true, laidKinds := [.data], laidTests := true, laidLooks := .later }
def CamberThreeCardSaid : Prop := Claim7.holds Tryd.pinned (.plain (OpenSpec.ofChange camberThreeSpec)) camberThreeCard

/-- THE TIED CARD OF 'remouldlaw09.CamberOwn'. -/
def camberOwnCard : Claim7 := { stood := { row := camberOwnRow, standIns := [], harness := (true, "bf6042916b370f55f9362f8968d26900c362cd263897432d794ee2d6a8260935"), looks := false }, kinds := [], alts := [], laidByText := true, laidKinds := [.data], laidTests := true, laidLooks := .later }
def CamberOwnCardSaid : Prop := Claim7.holds Tryd.pinned (.plain (OpenSpec.ofChange camberOwnSpec)) camberOwnCard

/-- THE SECOND FORM's CARD OF 'remouldlaw09.CamberOthers'. -/
def camberOthersUptoCard : Claim7 := { stood := { row := camberOthersUptoRow, standIns := [], harness := (true, "bf6042916b370f55f9362f8968d26900c362cd263897432d794ee2d6a8260935"), looks := false }, kinds := [], alts := [], laidByText := true, laidKinds := [.data], laidTests := true, laidLooks := .later }
def CamberOthersUptoCardSaid : Prop := Claim7.holds Tryd.pinned (.plain (OpenSpec.upto camberOthersSpec)) camberOthersUptoCard

/-- THE SECOND FORM's CARD OF 'remouldlaw09.CamberThree'. -/
def camberThreeUptoCard : Claim7 := { stood := { row := camberThreeUptoRow, standIns := [], harness := (true, "bf6042916b370f55f9362f8968d26900c362cd263897432d794ee2d6a8260935"), looks := false }, kinds := [], alts := [], laidByText := true, laidKinds := [.data], laidTests := true, laidLooks := .later }
def CamberThreeUptoCardSaid : Prop := Claim7.holds Tryd.pinned (.plain (OpenSpec.upto camberThreeSpec)) camberThreeUptoCard

/-- THE SECOND FORM's CARD OF 'remouldlaw09.CamberOwn'. -/
def camberOwnUptoCard : Claim7 := { stood := { row := camberOwnUptoRow, standIns := [], harness := (true, "bf6042916b370f55f9362f8968d26900c362cd263897432d794ee2d6a8260935"), looks := false }, kinds := [], alts := [], laidByText := true, laidKinds := [.data], laidTests := true, laidLooks := .later }
def CamberOwnUptoCardSaid : Prop := Claim7.holds Tryd.pinned (.plain (OpenSpec.upto camberOwnSpec)) camberOwnUptoCard
end Rows
end Go.Proofs.YtpflmlnkflpbnaaDoor
