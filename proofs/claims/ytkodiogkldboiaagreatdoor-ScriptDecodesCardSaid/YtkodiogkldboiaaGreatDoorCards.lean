/-
  DERIVED. GIVEN WITH THE SEED: THE CARDS: each row of YtkodiogkldboiaaGreatDoorRows.lean that lists a variable, with what it lists TIED to the program's text (the seventh form; the later family's looks); each row that meets fmt, with fmt's text TOLD by the authors' own Lean function (tested against real Go, not proved from fmt's source: count such statements apart). THE CARD IS WHAT COUNTS. Prove the row's statement (the work); the ties are given (YtkodiogkldboiaaGreatDoorTie.lean); close each card by the builder's one call (the guide's Derived/Test/ToyasCard.lean, 'card_holds'). Laid BY PROGRAM, IN A SANDBOX (cutbox-door.mjs). By AI agents, Wed Nov 11 2026. No macro, syntax, notation, axiom, sorry.
-/
import Derived.Test.YtkodiogkldboiaaGreatDoorRows
import GoSem.ClaimSeven
namespace Go.Proofs.YtkodiogkldboiaaGreatDoor
namespace Rows

/-- THE TIED CARD OF 'commissarylaw30.ScriptCodes'. -/
def scriptCodesCard : Claim7 := { stood := { row := scriptCodesRow, standIns := [], harness := (true, "2695d0378c519829d91df562a1832a17f009eee53f771675c7c87b6a0b619854"), looks := false }, kinds := [], alts := [], laidByText := true, laidKinds := [.data, .pinned], laidTests := true, laidLooks := .later }
def ScriptCodesCardSaid : Prop := Claim7.holds Tryz.pinned (.plain (OpenSpec.ofChange scriptCodesSpec)) scriptCodesCard

/-- THE TIED CARD OF 'commissarylaw30.ScriptDecodes'. -/
def scriptDecodesCard : Claim7 := { stood := { row := scriptDecodesRow, standIns := [], harness := (true, "2695d0378c519829d91df562a1832a17f009eee53f771675c7c87b6a0b619854"), looks := false }, kinds := [], alts := [], laidByText := true, laidKinds := [.data, .pinned], laidTests := true, laidLooks := .later }
def ScriptDecodesCardSaid : Prop := Claim7.holds Tryz.pinned (.plain (OpenSpec.ofChange scriptDecodesSpec)) scriptDecodesCard

/-- THE SECOND FORM's CARD OF 'commissarylaw30.ScriptCodes'. -/
def scriptCodesUptoCard : Claim7 := { stood := { row := scriptCodesUptoRow, standIns := [], harness := (true, "2695d0378c519829d91df562a1832a17f009eee53f771675c7c87b6a0b619854"), looks := false }, kinds := [], alts := [], laidByText := true, laidKinds := [.data, .pinned], laidTests := true, laidLooks := .later }
def ScriptCodesUptoCardSaid : Prop := Claim7.holds Tryz.pinned (.plain (OpenSpec.upto scriptCodesSpec)) scriptCodesUptoCard

/-- THE SECOND FORM's CARD OF 'commissarylaw30.ScriptDecodes'. -/
def scriptDecodesUptoCard : Claim7 := { stood := { row := scriptDecodesUptoRow, standIns := [], harness := (true, "2695d0378c519829d91df562a1832a17f009eee53f771675c7c87b6a0b619854"), looks := false }, kinds := [], alts := [], laidByText := true, laidKinds := [.data, .pinned], laidTests := true, laidLooks := .later }
def ScriptDecodesUptoCardSaid : Prop := Claim7.holds Tryz.pinned (.plain (OpenSpec.upto scriptDecodesSpec)) scriptDecodesUptoCard
end Rows
end Go.Proofs.YtkodiogkldboiaaGreatDoor
