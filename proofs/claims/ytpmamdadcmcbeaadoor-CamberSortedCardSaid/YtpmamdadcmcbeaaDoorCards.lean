/-
  DERIVED. GIVEN WITH THE SEED: THE CARDS: each row of YtpmamdadcmcbeaaDoorRows.lean that lists a variable, with what it lists TIED to the program's text (the seventh form; the later family's looks); each row that meets fmt, with fmt's text TOLD by the authors' own Lean function (tested against real Go, not proved from fmt's source: count such statements apart). THE CARD IS WHAT COUNTS. Prove the row's statement (the work); the ties are given (YtpmamdadcmcbeaaDoorTie.lean); close each card by the builder's one call (the guide's Derived/Test/ToyasCard.lean, 'card_holds'). Laid BY PROGRAM, IN A SANDBOX (cutbox-door.mjs). By AI agents, Wed Nov 11 2026. No macro, syntax, notation, axiom, sorry.
-/
import Derived.Test.YtpmamdadcmcbeaaDoorRows
import GoSem.ClaimSeven
namespace Go.Proofs.YtpmamdadcmcbeaaDoor
namespace Rows

/-- THE TIED CARD OF 'remouldlaw09.CamberOthers'. -/
def camberOthersCard : Claim7 := { stood := { row := camberOthersRow, standIns := [], harness := (true, "d365a893f9e2f0c035524f928b88c84a0468950310d9a6f3dcd0a682d98a1a6f"), looks := false }, kinds := [], alts := [], laidByText := true, laidKinds := [.data], laidTests := true, laidLooks := .later }
def CamberOthersCardSaid : Prop := Claim7.holds Tryd.pinned (.plain (OpenSpec.ofChange camberOthersSpec)) camberOthersCard

/-- THE TIED CARD OF 'remouldlaw09.CamberAlls'. -/
def camberAllsCard : Claim7 := { stood := { row := camberAllsRow, standIns := [], harness := (true, "d365a893f9e2f0c035524f928b88c84a0468950310d9a6f3dcd0a682d98a1a6f"), looks := false }, kinds := [], alts := [], laidByText := true, laidKinds := [.data], laidTests := true, laidLooks := .later }
def CamberAllsCardSaid : Prop := Claim7.holds Tryd.pinned (.plain (OpenSpec.ofChange camberAllsSpec)) camberAllsCard

/-- THE TIED CARD OF 'remouldlaw09.CamberBound'. -/
def camberBoundCard : Claim7 := { stood := { row := camberBoundRow, standIns := [], harness := (true, "d365a893f9e2f0c035524f928b88c84a0468950310d9a6f3dcd0a682d98a1a6f"), looks := false }, kinds := [], alts := [], laidByText := true, laidKinds := [.data], laidTests := true, laidLooks := .later }
def CamberBoundCardSaid : Prop := Claim7.holds Tryd.pinned (.plain (OpenSpec.ofChange camberBoundSpec)) camberBoundCard

/-- THE TIED CARD OF 'remouldlaw09.CamberPropers'. -/
def camberPropersCard : Claim7 := { stood := { row := camberPropersRow, standIns := [], harness := (true, "d365a893f9e2f0c035524f928b88c84a0468950310d9a6f3dcd0a682d98a1a6f"), looks := false }, kinds := [], alts := [], laidByText := true, laidKinds := [.data], laidTests := true, laidLooks := .later }
def CamberPropersCardSaid : Prop := Claim7.holds Tryd.pinned (.plain (OpenSpec.ofChange camberPropersSpec)) camberPropersCard

/-- THE TIED CARD OF 'remouldlaw09.CamberSorted'. -/
def camberSortedCard : Claim7 := { stood := { row := camberSortedRow, standIns := [], harness := (true, "d365a893f9e2f0c035524f928b88c84a0468950310d9a6f3dcd0a682d98a1a6f"), looks := false }, kinds := [], alts := [], laidByText := true, laidKinds := [.data], laidTests := true, laidLooks := .later }
def CamberSortedCardSaid : Prop := Claim7.holds Tryd.pinned (.plain (OpenSpec.ofChange camberSortedSpec)) camberSortedCard

/-- THE TIED CARD OF 'remouldlaw09.CamberThree'. -/
def camberThreeCard : Claim7 := { stood := { row := camberThreeRow, standIns := [], harness := (true, "d365a893f9e2f0c035524f928b88c84a0468950310d9a6f3dcd0a682d98a1a6f"), looks := false }, kinds := [], alts := [], laidByText := true, laidKinds := [.data], laidTests := true, laidLooks := .later }
def CamberThreeCardSaid : Prop := Claim7.holds Tryd.pinned (.plain (OpenSpec.ofChange camberThreeSpec)) camberThreeCard

/-- THE TIED CARD OF 'remouldlaw09.CamberOwn'. -/
def camberOwnCard : Claim7 := { stood := { row := camberOwnRow, standIns := [], harness := (true, "d365a893f9e2f0c035524f928b88c84a0468950310d9a6f3dcd0a682d98a1a6f"), looks := false }, kinds := [], alts := [], laidByText := true, laidKinds := [.data], laidTests := true, laidLooks := .later }
def CamberOwnCardSaid : Prop := Claim7.holds Tryd.pinned (.plain (OpenSpec.ofChange camberOwnSpec)) camberOwnCard

/-- THE SECOND FORM's CARD OF 'remouldlaw09.CamberOthers'. -/
def camberOthersUptoCard : Claim7 := { stood := { row := camberOthersUptoRow, standIns := [], harness := (true, "d365a893f9e2f0c035524f928b88c84a0468950310d9a6f3dcd0a682d98a1a6f"), looks := false }, kinds := [], alts := [], laidByText := true, laidKinds := [.data], laidTests := true, laidLooks := .later }
def CamberOthersUptoCardSaid : Prop := Claim7.holds Tryd.pinned (.plain (OpenSpec.upto camberOthersSpec)) camberOthersUptoCard

/-- THE SECOND FORM's CARD OF 'remouldlaw09.CamberAlls'. -/
def camberAllsUptoCard : Claim7 := { stood := { row := camberAllsUptoRow, standIns := [], harness := (true, "d365a893f9e2f0c035524f928b88c84a0468950310d9a6f3dcd0a682d98a1a6f"), looks := false }, kinds := [], alts := [], laidByText := true, laidKinds := [.data], laidTests := true, laidLooks := .later }
def CamberAllsUptoCardSaid : Prop := Claim7.holds Tryd.pinned (.plain (OpenSpec.upto camberAllsSpec)) camberAllsUptoCard

/-- THE SECOND FORM's CARD OF 'remouldlaw09.CamberBound'. -/
def camberBoundUptoCard : Claim7 := { stood := { row := camberBoundUptoRow, standIns := [], harness := (true, "d365a893f9e2f0c035524f928b88c84a0468950310d9a6f3dcd0a682d98a1a6f"), looks := false }, kinds := [], alts := [], laidByText := true, laidKinds := [.data], laidTests := true, laidLooks := .later }
def CamberBoundUptoCardSaid : Prop := Claim7.holds Tryd.pinned (.plain (OpenSpec.upto camberBoundSpec)) camberBoundUptoCard

/-- THE SECOND FORM's CARD OF 'remouldlaw09.CamberPropers'. -/
def camberPropersUptoCard : Claim7 := { stood := { row := camberPropersUptoRow, standIns := [], harness := (true, "d365a893f9e2f0c035524f928b88c84a0468950310d9a6f3dcd0a682d98a1a6f"), looks := false }, kinds := [], alts := [], laidByText := true, laidKinds := [.data], laidTests := true, laidLooks := .later }
def CamberPropersUptoCardSaid : Prop := Claim7.holds Tryd.pinned (.plain (OpenSpec.upto camberPropersSpec)) camberPropersUptoCard

/-- THE SECOND FORM's CARD OF 'remouldlaw09.CamberSorted'. -/
def camberSortedUptoCard : Claim7 := { stood := { row := camberSortedUptoRow, standIns := [], harness := (true, "d365a893f9e2f0c035524f928b88c84a0468950310d9a6f3dcd0a682d98a1a6f"), looks := false }, kinds := [], alts := [], laidByText := true, laidKinds := [.data], laidTests := true, laidLooks := .later }
def CamberSortedUptoCardSaid : Prop := Claim7.holds Tryd.pinned (.plain (OpenSpec.upto camberSortedSpec)) camberSortedUptoCard

/-- THE SECOND FORM's CARD OF 'remouldlaw09.CamberThree'. -/
def camberThreeUptoCard : Claim7 := { stood := { row := camberThreeUptoRow, standIns := [], harness := (true, "d365a893f9e2f0c035524f928b88c84a0468950310d9a6f3dcd0a682d98a1a6f"), looks := false }, kinds := [], alts := [], laidByText := true, laidKinds := [.data], laidTests := true, laidLooks := .later }
def CamberThreeUptoCardSaid : Prop := Claim7.holds Tryd.pinned (.plain (OpenSpec.upto camberThreeSpec)) camberThreeUptoCard

/-- THE SECOND FORM's CARD OF 'remouldlaw09.CamberOwn'. -/
def camberOwnUptoCard : Claim7 := { stood := { row := camberOwnUptoRow, standIns := [], harness := (true, "d365a893f9e2f0c035524f928b88c84a0468950310d9a6f3dcd0a682d98a1a6f"), looks := false }, kinds := [], alts := [], laidByText := true, laidKinds := [.data], laidTests := true, laidLooks := .later }
def CamberOwnUptoCardSaid : Prop := Claim7.holds Tryd.pinned (.plain (OpenSpec.upto camberOwnSpec)) camberOwnUptoCard
end Rows
end Go.Proofs.YtpmamdadcmcbeaaDoor
