/-
  DERIVED. GIVEN WITH THE SEED: THE CARDS: each row of YtmfejdikfpckdaaGreatDoorRows.lean that lists a variable, with what it lists TIED to the program's text (the seventh form; the later family's looks); each row that meets fmt, with fmt's text TOLD by the authors' own Lean function (tested against real Go, not proved from fmt's source: count such statements apart). THE CARD IS WHAT COUNTS. Prove the row's statement (the work); the ties are given (YtmfejdikfpckdaaGreatDoorTie.lean); close each card by the builder's one call (the guide's Derived/Test/ToyasCard.lean, 'card_holds'). Laid BY PROGRAM, IN A SANDBOX (cutbox-door.mjs). By AI agents, Wed Nov 11 2026. No macro, syntax, notation, axiom, sorry.
-/
import Derived.Test.YtmfejdikfpckdaaGreatDoorRows
import GoSem.ClaimSeven
namespace Go.Proofs.YtmfejdikfpckdaaGreatDoor
namespace Rows

/-- THE TIED CARD OF 'gantkeep4.FitBoth'. -/
def fitBothCard : Claim7 := { stood := { row := fitBothRow, standIns := [], harness := (true, "40f0fa65225f315ed9b4eb4516ff7785ebbed1f7998cb9baa5757f194d47f429"), looks := false }, kinds := [], alts := [], laidByText := true, laidKinds := [.data], laidTests := true, laidLooks := .later }
def FitBothCardSaid : Prop := Claim7.holds Tryz.pinned (.plain (OpenSpec.ofChange fitBothSpec)) fitBothCard

/-- THE TIED CARD OF 'gantkeep4.FitInside'. -/
def fitInsideCard : Claim7 := { stood := { row := fitInsideRow, standIns := [], harness := (true, "40f0fa65225f315ed9b4eb4516ff7785ebbed1f7998cb9baa5757f194d47f429"), looks := false }, kinds := [], alts := [], laidByText := true, laidKinds := [.data], laidTests := true, laidLooks := .later }
def FitInsideCardSaid : Prop := Claim7.holds Tryz.pinned (.plain (OpenSpec.ofChange fitInsideSpec)) fitInsideCard

/-- THE TIED CARD OF 'gantkeep4.FitClear'. -/
def fitClearCard : Claim7 := { stood := { row := fitClearRow, standIns := [], harness := (true, "40f0fa65225f315ed9b4eb4516ff7785ebbed1f7998cb9baa5757f194d47f429"), looks := false }, kinds := [], alts := [], laidByText := true, laidKinds := [.data], laidTests := true, laidLooks := .later }
def FitClearCardSaid : Prop := Claim7.holds Tryz.pinned (.plain (OpenSpec.ofChange fitClearSpec)) fitClearCard

/-- THE SECOND FORM's CARD OF 'gantkeep4.FitBoth'. -/
def fitBothUptoCard : Claim7 := { stood := { row := fitBothUptoRow, standIns := [], harness := (true, "40f0fa65225f315ed9b4eb4516ff7785ebbed1f7998cb9baa5757f194d47f429"), looks := false }, kinds := [], alts := [], laidByText := true, laidKinds := [.data], laidTests := true, laidLooks := .later }
def FitBothUptoCardSaid : Prop := Claim7.holds Tryz.pinned (.plain (OpenSpec.upto fitBothSpec)) fitBothUptoCard

/-- THE SECOND FORM's CARD OF 'gantkeep4.FitInside'. -/
def fitInsideUptoCard : Claim7 := { stood := { row := fitInsideUptoRow, standIns := [], harness := (true, "40f0fa65225f315ed9b4eb4516ff7785ebbed1f7998cb9baa5757f194d47f429"), looks := false }, kinds := [], alts := [], laidByText := true, laidKinds := [.data], laidTests := true, laidLooks := .later }
def FitInsideUptoCardSaid : Prop := Claim7.holds Tryz.pinned (.plain (OpenSpec.upto fitInsideSpec)) fitInsideUptoCard

/-- THE SECOND FORM's CARD OF 'gantkeep4.FitClear'. -/
def fitClearUptoCard : Claim7 := { stood := { row := fitClearUptoRow, standIns := [], harness := (true, "40f0fa65225f315ed9b4eb4516ff7785ebbed1f7998cb9baa5757f194d47f429"), looks := false }, kinds := [], alts := [], laidByText := true, laidKinds := [.data], laidTests := true, laidLooks := .later }
def FitClearUptoCardSaid : Prop := Claim7.holds Tryz.pinned (.plain (OpenSpec.upto fitClearSpec)) fitClearUptoCard
end Rows
end Go.Proofs.YtmfejdikfpckdaaGreatDoor
