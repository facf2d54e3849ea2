/-
  DERIVED. GIVEN WITH THE SEED: THE CARDS: each row of YtbphdmnomakeoaaDoorRows.lean that lists a variable, with what it lists TIED to the program's text (the seventh form; the later family's looks); each row that meets fmt, with fmt's text TOLD by the authors' own Lean function (tested against real Go, not proved from fmt's source: count such statements apart). THE CARD IS WHAT COUNTS. Prove the row's statement (the work); the ties are given (YtbphdmnomakeoaaDoorTie.lean); close each card by the builder's one call (the guide's Derived/Test/ToyasCard.lean, 'card_holds'). Laid BY PROGRAM, IN A SANDBOX (cutbox-door.mjs). By AI agents, Wed Nov 11 2026. No macro, syntax, notation, axiom, sorry.
-/
import Derived.Test.YtbphdmnomakeoaaDoorRows
import GoSem.ClaimSeven
namespace Go.Proofs.YtbphdmnomakeoaaDoor
namespace Rows

/-- THE TIED CARD OF 'gantkeep4.TypesWide'. -/
def typesWideCard : Claim7 := { stood := { row := typesWideRow, standIns := [], harness := (true, "3ce901d9b7c224909734660251a553f63004097cf88a8782a8aac10a077efb6d"), looks := false }, kinds := [], alts := [], laidByText := true, laidKinds := [.data], laidTests := true, laidLooks := .later }
def TypesWideCardSaid : Prop := Claim7.holds Tryd.pinned (.plain (OpenSpec.ofChange typesWideSpec)) typesWideCard

/-- THE TIED CARD OF 'gantkeep4.TypesFit'. -/
def typesFitCard : Claim7 := { stood := { row := typesFitRow, standIns := [], harness := (true, "3ce901d9b7c224909734660251a553f63004097cf88a8782a8aac10a077efb6d"), looks := false }, kinds := [], alts := [], laidByText := true, laidKinds := [.data], laidTests := true, laidLooks := .later }
def TypesFitCardSaid : Prop := Claim7.holds Tryd.pinned (.plain (OpenSpec.ofChange typesFitSpec)) typesFitCard

/-- THE TIED CARD OF 'gantkeep4.ParseWeighs'. -/
def parseWeighsCard : Claim7 := { stood := { row := parseWeighsRow, standIns := [], harness := (true, "3ce901d9b7c224909734660251a553f63004097cf88a8782a8aac10a077efb6d"), looks := false }, kinds := [], alts := [], laidByText := true, laidKinds := [.data, .data, .data], laidTests := true, laidLooks := .later }
def ParseWeighsCardSaid : Prop := Claim7.holds Tryd.pinned (.plain (OpenSpec.ofChange parseWeighsSpec)) parseWeighsCard

/-- THE SECOND FORM's CARD OF 'gantkeep4.TypesWide'. -/
def typesWideUptoCard : Claim7 := { stood := { row := typesWideUptoRow, standIns := [], harness := (true, "3ce901d9b7c224909734660251a553f63004097cf88a8782a8aac10a077efb6d"), looks := false }, kinds := [], alts := [], laidByText := true, laidKinds := [.data], laidTests := true, laidLooks := .later }
def TypesWideUptoCardSaid : Prop := Claim7.holds Tryd.pinned (.plain (OpenSpec.upto typesWideSpec)) typesWideUptoCard

/-- THE SECOND FORM's CARD OF 'gantkeep4.TypesFit'. -/
def typesFitUptoCard : Claim7 := { stood := { row := typesFitUptoRow, standIns := [], harness := (true, "3ce901d9b7c224909734660251a553f63004097cf88a8782a8aac10a077efb6d"), looks := false }, kinds := [], alts := [], laidByText := true, laidKinds := [.data], laidTests := true, laidLooks := .later }
def TypesFitUptoCardSaid : Prop := Claim7.holds Tryd.pinned (.plain (OpenSpec.upto typesFitSpec)) typesFitUptoCard

/-- THE SECOND FORM's CARD OF 'gantkeep4.ParseWeighs'. -/
def parseWeighsUptoCard : Claim7 := { stood := { row := parseWeighsUptoRow, standIns := [], harness := (true, "3ce901d9b7c224909734660251a553f63004097cf88a8782a8aac10a077efb6d"), looks := false }, kinds := [], alts := [], laidByText := true, laidKinds := [.data, .data, .data], laidTests := true, laidLooks := .later }
def ParseWeighsUptoCardSaid : Prop := Claim7.holds Tryd.pinned (.plain (OpenSpec.upto parseWeighsSpec)) parseWeighsUptoCard
end Rows
end Go.Proofs.YtbphdmnomakeoaaDoor
