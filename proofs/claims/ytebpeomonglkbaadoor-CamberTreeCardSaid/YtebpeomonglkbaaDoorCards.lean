/-
  DERIVED. GIVEN WITH THE SEED: THE CARDS: each row of YtebpeomonglkbaaDoorRows.lean that lists a variable, with what it lists TIED to the program's text (the seventh form; the later family's looks); each row that meets fmt, with fmt's text TOLD by the authors' own Lean function (tested against real Go, not proved from fmt's source: count such statements apart). THE CARD IS WHAT COUNTS. Prove the row's statement (the work); the ties are given (YtebpeomonglkbaaDoorTie.lean); close each card by the builder's one call (the guide's Derived/Test/ToyasCard.lean, 'card_holds'). Laid BY PROGRAM, IN A SANDBOX (cutbox-door.mjs). By AI agents, Wed Nov 11 2026. No macro, syntax, notation, axiom, sorry.
-/
import Derived.Test.YtebpeomonglkbaaDoorRows
import GoSem.ClaimSeven
namespace Go.Proofs.YtebpeomonglkbaaDoor
namespace Rows

/-- THE TIED CARD OF 'remouldlaw09.CamberPaths'. -/
def camberPathsCard : Claim7 := { stood := { row := camberPathsRow, standIns := [], harness := (true, "92090dee593a4acc38212db6de944c0840cb630d7a120e66aacb578e87531fde"), looks := false }, kinds := [], alts := [], laidByText := true, laidKinds := [.data], laidTests := true, laidLooks := .later }
def CamberPathsCardSaid : Prop := Claim7.holds Tryd.pinned (.plain (OpenSpec.ofChange camberPathsSpec)) camberPathsCard

/-- THE TIED CARD OF 'remouldlaw09.CamberRoots'. -/
def camberRootsCard : Claim7 := { stood := { row := camberRootsRow, standIns := [], harness := (true, "92090dee593a4acc38212db6de944c0840cb630d7a120e66aacb578e87531fde"), looks := false }, kinds := [], alts := [], laidByText := true, laidKinds := [.data], laidTests := true, laidLooks := .later }
def CamberRootsCardSaid : Prop := Claim7.holds Tryd.pinned (.plain (OpenSpec.ofChange camberRootsSpec)) camberRootsCard

/-- THE TIED CARD OF 'remouldlaw09.CamberMatrices'. -/
def camberMatricesCard : Claim7 := { stood := { row := camberMatricesRow, standIns := [], harness := (true, "92090dee593a4acc38212db6de944c0840cb630d7a120e66aacb578e87531fde"), looks := false }, kinds := [], alts := [], laidByText := true, laidKinds := [.data], laidTests := true, laidLooks := .later }
def CamberMatricesCardSaid : Prop := Claim7.holds Tryd.pinned (.plain (OpenSpec.ofChange camberMatricesSpec)) camberMatricesCard

/-- THE TIED CARD OF 'remouldlaw09.CamberRooted'. -/
def camberRootedCard : Claim7 := { stood := { row := camberRootedRow, standIns := [], harness := (true, "92090dee593a4acc38212db6de944c0840cb630d7a120e66aacb578e87531fde"), looks := false }, kinds := [], alts := [], laidByText := true, laidKinds := [.data], laidTests := true, laidLooks := .later }
def CamberRootedCardSaid : Prop := Claim7.holds Tryd.pinned (.plain (OpenSpec.ofChange camberRootedSpec)) camberRootedCard

/-- THE TIED CARD OF 'remouldlaw09.CamberForms'. -/
def camberFormsCard : Claim7 := { stood := { row := camberFormsRow, standIns := [], harness := (true, "92090dee593a4acc38212db6de944c0840cb630d7a120e66aacb578e87531fde"), looks := false }, kinds := [], alts := [], laidByText := true, laidKinds := [.data], laidTests := true, laidLooks := .later }
def CamberFormsCardSaid : Prop := Claim7.holds Tryd.pinned (.plain (OpenSpec.ofChange camberFormsSpec)) camberFormsCard

/-- THE TIED CARD OF 'remouldlaw09.CamberCohn'. -/
def camberCohnCard : Claim7 := { stood := { row := camberCohnRow, standIns := [], harness := (true, "92090dee593a4acc38212db6de944c0840cb630d7a120e66aacb578e87531fde"), looks := false }, kinds := [], alts := [], laidByText := true, laidKinds := [.data], laidTests := true, laidLooks := .later }
def CamberCohnCardSaid : Prop := Claim7.holds Tryd.pinned (.plain (OpenSpec.ofChange camberCohnSpec)) camberCohnCard

/-- THE TIED CARD OF 'remouldlaw09.CamberDet'. -/
def camberDetCard : Claim7 := { stood := { row := camberDetRow, standIns := [], harness := (true, "92090dee593a4acc38212db6de944c0840cb630d7a120e66aacb578e87531fde"), looks := false }, kinds := [], alts := [], laidByText := true, laidKinds := [.data], laidTests := true, laidLooks := .later }
def CamberDetCardSaid : Prop := Claim7.holds Tryd.pinned (.plain (OpenSpec.ofChange camberDetSpec)) camberDetCard

/-- THE TIED CARD OF 'remouldlaw09.CamberTriples'. -/
def camberTriplesCard : Claim7 := { stood := { row := camberTriplesRow, standIns := [], harness := (true, "92090dee593a4acc38212db6de944c0840cb630d7a120e66aacb578e87531fde"), looks := false }, kinds := [], alts := [], laidByText := true, laidKinds := [.data], laidTests := true, laidLooks := .later }
def CamberTriplesCardSaid : Prop := Claim7.holds Tryd.pinned (.plain (OpenSpec.ofChange camberTriplesSpec)) camberTriplesCard

/-- THE TIED CARD OF 'remouldlaw09.CamberExchanges'. -/
def camberExchangesCard : Claim7 := { stood := { row := camberExchangesRow, standIns := [], harness := (true, "92090dee593a4acc38212db6de944c0840cb630d7a120e66aacb578e87531fde"), looks := false }, kinds := [], alts := [], laidByText := true, laidKinds := [.data], laidTests := true, laidLooks := .later }
def CamberExchangesCardSaid : Prop := Claim7.holds Tryd.pinned (.plain (OpenSpec.ofChange camberExchangesSpec)) camberExchangesCard

/-- THE TIED CARD OF 'remouldlaw09.CamberParents'. -/
def camberParentsCard : Claim7 := { stood := { row := camberParentsRow, standIns := [], harness := (true, "92090dee593a4acc38212db6de944c0840cb630d7a120e66aacb578e87531fde"), looks := false }, kinds := [], alts := [], laidByText := true, laidKinds := [.data], laidTests := true, laidLooks := .later }
def CamberParentsCardSaid : Prop := Claim7.holds Tryd.pinned (.plain (OpenSpec.ofChange camberParentsSpec)) camberParentsCard

/-- THE TIED CARD OF 'remouldlaw09.CamberWords'. -/
def camberWordsCard : Claim7 := { stood := { row := camberWordsRow, standIns := [], harness := (true, "92090dee593a4acc38212db6de944c0840cb630d7a120e66aacb578e87531fde"), looks := false }, kinds := [], alts := [], laidByText := true, laidKinds := [.data], laidTests := true, laidLooks := .later }
def CamberWordsCardSaid : Prop := Claim7.holds Tryd.pinned (.plain (OpenSpec.ofChange camberWordsSpec)) camberWordsCard

/-- THE TIED CARD OF 'remouldlaw09.CamberVieta'. -/
def camberVietaCard : Claim7 := { stood := { row := camberVietaRow, standIns := [], harness := (true, "92090dee593a4acc38212db6de944c0840cb630d7a120e66aacb578e87531fde"), looks := false }, kinds := [], alts := [], laidByText := true, laidKinds := [.data], laidTests := true, laidLooks := .later }
def CamberVietaCardSaid : Prop := Claim7.holds Tryd.pinned (.plain (OpenSpec.ofChange camberVietaSpec)) camberVietaCard

/-- THE TIED CARD OF 'remouldlaw09.CamberLetters'. -/
def camberLettersCard : Claim7 := { stood := { row := camberLettersRow, standIns := [], harness := (true, "92090dee593a4acc38212db6de944c0840cb630d7a120e66aacb578e87531fde"), looks := false }, kinds := [], alts := [], laidByText := true, laidKinds := [.data], laidTests := true, laidLooks := .later }
def CamberLettersCardSaid : Prop := Claim7.holds Tryd.pinned (.plain (OpenSpec.ofChange camberLettersSpec)) camberLettersCard

/-- THE TIED CARD OF 'remouldlaw09.CamberFollows'. -/
def camberFollowsCard : Claim7 := { stood := { row := camberFollowsRow, standIns := [], harness := (true, "92090dee593a4acc38212db6de944c0840cb630d7a120e66aacb578e87531fde"), looks := false }, kinds := [], alts := [], laidByText := true, laidKinds := [.data], laidTests := true, laidLooks := .later }
def CamberFollowsCardSaid : Prop := Claim7.holds Tryd.pinned (.plain (OpenSpec.ofChange camberFollowsSpec)) camberFollowsCard

/-- THE TIED CARD OF 'remouldlaw09.CamberCoprime'. -/
def camberCoprimeCard : Claim7 := { stood := { row := camberCoprimeRow, standIns := [], harness := (true, "92090dee593a4acc38212db6de944c0840cb630d7a120e66aacb578e87531fde"), looks := false }, kinds := [], alts := [], laidByText := true, laidKinds := [.data], laidTests := true, laidLooks := .later }
def CamberCoprimeCardSaid : Prop := Claim7.holds Tryd.pinned (.plain (OpenSpec.ofChange camberCoprimeSpec)) camberCoprimeCard

/-- THE TIED CARD OF 'remouldlaw09.CamberTree'. -/
def camberTreeCard : Claim7 := { stood := { row := camberTreeRow, standIns := [], harness := (true, "92090dee593a4acc38212db6de944c0840cb630d7a120e66aacb578e87531fde"), looks := false }, kinds := [], alts := [], laidByText := true, laidKinds := [.data], laidTests := true, laidLooks := .later }
def CamberTreeCardSaid : Prop := Claim7.holds Tryd.pinned (.plain (OpenSpec.ofChange camberTreeSpec)) camberTreeCard

/-- THE SECOND FORM's CARD OF 'remouldlaw09.CamberPaths'. -/
def camberPathsUptoCard : Claim7 := { stood := { row := camberPathsUptoRow, standIns := [], harness := (true, "92090dee593a4acc38212db6de944c0840cb630d7a120e66aacb578e87531fde"), looks := false }, kinds := [], alts := [], laidByText := true, laidKinds := [.data], laidTests := true, laidLooks := .later }
def CamberPathsUptoCardSaid : Prop := Claim7.holds Tryd.pinned (.plain (OpenSpec.upto camberPathsSpec)) camberPathsUptoCard

/-- THE SECOND FORM's CARD OF 'remouldlaw09.CamberRoots'. -/
def camberRootsUptoCard : Claim7 := { stood := { row := camberRootsUptoRow, standIns := [], harness := (true, "92090dee593a4acc38212db6de944c0840cb630d7a120e66aacb578e87531fde"), looks := false }, kinds := [], alts := [], laidByText := true, laidKinds := [.data], laidTests := true, laidLooks := .later }
def CamberRootsUptoCardSaid : Prop := Claim7.holds Tryd.pinned (.plain (OpenSpec.upto camberRootsSpec)) camberRootsUptoCard

/-- THE SECOND FORM's CARD OF 'remouldlaw09.CamberMatrices'. -/
def camberMatricesUptoCard : Claim7 := { stood := { row := camberMatricesUptoRow, standIns := [], harness := (true, "92090dee593a4acc38212db6de944c0840cb630d7a120e66aacb578e87531fde"), looks := false }, kinds := [], alts := [], laidByText := true, laidKinds := [.data], laidTests := true, laidLooks := .later }
def CamberMatricesUptoCardSaid : Prop := Claim7.holds Tryd.pinned (.plain (OpenSpec.upto camberMatricesSpec)) camberMatricesUptoCard

/-- THE SECOND FORM's CARD OF 'remouldlaw09.CamberRooted'. -/
def camberRootedUptoCard : Claim7 := { stood := { row := camberRootedUptoRow, standIns := [], harness := (true, "92090dee593a4acc38212db6de944c0840cb630d7a120e66aacb578e87531fde"), looks := false }, kinds := [], alts := [], laidByText := true, laidKinds := [.data], laidTests := true, laidLooks := .later }
def CamberRootedUptoCardSaid : Prop := Claim7.holds Tryd.pinned (.plain (OpenSpec.upto camberRootedSpec)) camberRootedUptoCard

/-- THE SECOND FORM's CARD OF 'remouldlaw09.CamberForms'. -/
def camberFormsUptoCard : Claim7 := { stood := { row := camberFormsUptoRow, standIns := [], harness := (true, "92090dee593a4acc38212db6de944c0840cb630d7a120e66aacb578e87531fde"), looks := false }, kinds := [], alts := [], laidByText := true, laidKinds := [.data], laidTests := true, laidLooks := .later }
def CamberFormsUptoCardSaid : Prop := Claim7.holds Tryd.pinned (.plain (OpenSpec.upto camberFormsSpec)) camberFormsUptoCard

/-- THE SECOND FORM's CARD OF 'remouldlaw09.CamberCohn'. -/
def camberCohnUptoCard : Claim7 := { stood := { row := camberCohnUptoRow, standIns := [], harness := (true, "92090dee593a4acc38212db6de944c0840cb630d7a120e66aacb578e87531fde"), looks := false }, kinds := [], alts := [], laidByText := true, laidKinds := [.data], laidTests := true, laidLooks := .later }
def CamberCohnUptoCardSaid : Prop := Claim7.holds Tryd.pinned (.plain (OpenSpec.upto camberCohnSpec)) camberCohnUptoCard

/-- THE SECOND FORM's CARD OF 'remouldlaw09.CamberDet'. -/
def camberDetUptoCard : Claim7 := { stood := { row := camberDetUptoRow, standIns := [], harness := (true, "92090dee593a4acc38212db6de944c0840cb630d7a120e66aacb578e87531fde"), looks := false }, kinds := [], alts := [], laidByText := true, laidKinds := [.data], laidTests := true, laidLooks := .later }
def CamberDetUptoCardSaid : Prop := Claim7.holds Tryd.pinned (.plain (OpenSpec.upto camberDetSpec)) camberDetUptoCard

/-- THE SECOND FORM's CARD OF 'remouldlaw09.CamberTriples'. -/
def camberTriplesUptoCard : Claim7 := { stood := { row := camberTriplesUptoRow, standIns := [], harness := (true, "92090dee593a4acc38212db6de944c0840cb630d7a120e66aacb578e87531fde"), looks := false }, kinds := [], alts := [], laidByText := true, laidKinds := [.data], laidTests := true, laidLooks := .later }
def CamberTriplesUptoCardSaid : Prop := Claim7.holds Tryd.pinned (.plain (OpenSpec.upto camberTriplesSpec)) camberTriplesUptoCard

/-- THE SECOND FORM's CARD OF 'remouldlaw09.CamberExchanges'. -/
def camberExchangesUptoCard : Claim7 := { stood := { row := camberExchangesUptoRow, standIns := [], harness := (true, "92090dee593a4acc38212db6de944c0840cb630d7a120e66aacb578e87531fde"), looks := false }, kinds := [], alts := [], laidByText := true, laidKinds := [.data], laidTests := true, laidLooks := .later }
def CamberExchangesUptoCardSaid : Prop := Claim7.holds Tryd.pinned (.plain (OpenSpec.upto camberExchangesSpec)) camberExchangesUptoCard

/-- THE SECOND FORM's CARD OF 'remouldlaw09.CamberParents'. -/
def camberParentsUptoCard : Claim7 := { stood := { row := camberParentsUptoRow, standIns := [], harness := (true, "92090dee593a4acc38212db6de944c0840cb630d7a120e66aacb578e87531fde"), looks := false }, kinds := [], alts := [], laidByText := true, laidKinds := [.data], laidTests := true, laidLooks := .later }
def CamberParentsUptoCardSaid : Prop := Claim7.holds Tryd.pinned (.plain (OpenSpec.upto camberParentsSpec)) camberParentsUptoCard

/-- THE SECOND FORM's CARD OF 'remouldlaw09.CamberWords'. -/
def camberWordsUptoCard : Claim7 := { stood := { row := camberWordsUptoRow, standIns := [], harness := (true, "92090dee593a4acc38212db6de944c0840cb630d7a120e66aacb578e87531fde"), looks := false }, kinds := [], alts := [], laidByText := true, laidKinds := [.data], laidTests := true, laidLooks := .later }
def CamberWordsUptoCardSaid : Prop := Claim7.holds Tryd.pinned (.plain (OpenSpec.upto camberWordsSpec)) camberWordsUptoCard

/-- THE SECOND FORM's CARD OF 'remouldlaw09.CamberVieta'. -/
def camberVietaUptoCard : Claim7 := { stood := { row := camberVietaUptoRow, standIns := [], harness := (true, "92090dee593a4acc38212db6de944c0840cb630d7a120e66aacb578e87531fde"), looks := false }, kinds := [], alts := [], laidByText := true, laidKinds := [.data], laidTests := true, laidLooks := .later }
def CamberVietaUptoCardSaid : Prop := Claim7.holds Tryd.pinned (.plain (OpenSpec.upto camberVietaSpec)) camberVietaUptoCard

/-- THE SECOND FORM's CARD OF 'remouldlaw09.CamberLetters'. -/
def camberLettersUptoCard : Claim7 := { stood := { row := camberLettersUptoRow, standIns := [], harness := (true, "92090dee593a4acc38212db6de944c0840cb630d7a120e66aacb578e87531fde"), looks := false }, kinds := [], alts := [], laidByText := true, laidKinds := [.data], laidTests := true, laidLooks := .later }
def CamberLettersUptoCardSaid : Prop := Claim7.holds Tryd.pinned (.plain (OpenSpec.upto camberLettersSpec)) camberLettersUptoCard

/-- THE SECOND FORM's CARD OF 'remouldlaw09.CamberFollows'. -/
def camberFollowsUptoCard : Claim7 := { stood := { row := camberFollowsUptoRow, standIns := [], harness := (true, "92090dee593a4acc38212db6de944c0840cb630d7a120e66aacb578e87531fde"), looks := false }, kinds := [], alts := [], laidByText := true, laidKinds := [.data], laidTests := true, laidLooks := .later }
def CamberFollowsUptoCardSaid : Prop := Claim7.holds Tryd.pinned (.plain (OpenSpec.upto camberFollowsSpec)) camberFollowsUptoCard

/-- THE SECOND FORM's CARD OF 'remouldlaw09.CamberCoprime'. -/
def camberCoprimeUptoCard : Claim7 := { stood := { row := camberCoprimeUptoRow, standIns := [], harness := (true, "92090dee593a4acc38212db6de944c0840cb630d7a120e66aacb578e87531fde"), looks := false }, kinds := [], alts := [], laidByText := true, laidKinds := [.data], laidTests := true, laidLooks := .later }
def CamberCoprimeUptoCardSaid : Prop := Claim7.holds Tryd.pinned (.plain (OpenSpec.upto camberCoprimeSpec)) camberCoprimeUptoCard

/-- THE SECOND FORM's CARD OF 'remouldlaw09.CamberTree'. -/
def camberTreeUptoCard : Claim7 := { stood := { row := camberTreeUptoRow, standIns := [], harness := (true, "92090dee593a4acc38212db6de944c0840cb630d7a120e66aacb578e87531fde"), looks := false }, kinds := [], alts := [], laidByText := true, laidKinds := [.data], laidTests := true, laidLooks := .later }
def CamberTreeUptoCardSaid : Prop := Claim7.holds Tryd.pinned (.plain (OpenSpec.upto camberTreeSpec)) camberTreeUptoCard
end Rows
end Go.Proofs.YtebpeomonglkbaaDoor
