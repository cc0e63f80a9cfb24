/-
  DERIVED. GIVEN WITH THE SEED: THE CARDS: each row of YtnfdbbjemlehnaaDoorRows.lean that lists a variable, with what it lists TIED to the program's text (the seventh form; the later family's looks); each row that meets fmt, with fmt's text TOLD by the authors' own Lean function (tested against real Go, not proved from fmt's source: count such statements apart). THE CARD IS WHAT COUNTS. Prove the row's statement (the work); the ties are given (YtnfdbbjemlehnaaDoorTie.lean); close each card by the builder's one call (the guide's Derived/Test/ToyasCard.lean, 'card_holds'). Laid BY PROGRAM, IN A SANDBOX (cutbox-door.mjs). By AI agents, Wed Nov 11 2026. No macro, syntax, notation, axiom, sorry.
-/
import Derived.Test.YtnfdbbjemlehnaaDoorRows
import GoSem.ClaimSeven
namespace Go.Proofs.YtnfdbbjemlehnaaDoor
namespace Rows

/-- THE TIED CARD OF 'commissarylaw27.OrderLeast'. -/
def orderLeastCard : Claim7 := { stood := { row := orderLeastRow, standIns := [], harness := (true, "50701b8972fd789f67b04b8b5e0c30dc56583b98c784bb26942d21866fbd6e0b"), looks := false }, kinds := [], alts := [], laidByText := true, laidKinds := [.data, .data], laidTests := true, laidLooks := .later }
def OrderLeastCardSaid : Prop := Claim7.holds Tryd.pinned (.plain (OpenSpec.ofChange orderLeastSpec)) orderLeastCard

/-- THE TIED CARD OF 'commissarylaw27.OrderAll'. -/
def orderAllCard : Claim7 := { stood := { row := orderAllRow, standIns := [], harness := (true, "50701b8972fd789f67b04b8b5e0c30dc56583b98c784bb26942d21866fbd6e0b"), looks := false }, kinds := [], alts := [], laidByText := true, laidKinds := [.data, .data], laidTests := true, laidLooks := .later }
def OrderAllCardSaid : Prop := Claim7.holds Tryd.pinned (.plain (OpenSpec.ofChange orderAllSpec)) orderAllCard

/-- THE TIED CARD OF 'commissarylaw27.OrderEdges'. -/
def orderEdgesCard : Claim7 := { stood := { row := orderEdgesRow, standIns := [], harness := (true, "50701b8972fd789f67b04b8b5e0c30dc56583b98c784bb26942d21866fbd6e0b"), looks := false }, kinds := [], alts := [], laidByText := true, laidKinds := [.data, .data], laidTests := true, laidLooks := .later }
def OrderEdgesCardSaid : Prop := Claim7.holds Tryd.pinned (.plain (OpenSpec.ofChange orderEdgesSpec)) orderEdgesCard

/-- THE SECOND FORM's CARD OF 'commissarylaw27.OrderLeast'. -/
def orderLeastUptoCard : Claim7 := { stood := { row := orderLeastUptoRow, standIns := [], harness := (true, "50701b8972fd789f67b04b8b5e0c30dc56583b98c784bb26942d21866fbd6e0b"), looks := false }, kinds := [], alts := [], laidByText := true, laidKinds := [.data, .data], laidTests := true, laidLooks := .later }
def OrderLeastUptoCardSaid : Prop := Claim7.holds Tryd.pinned (.plain (OpenSpec.upto orderLeastSpec)) orderLeastUptoCard

/-- THE SECOND FORM's CARD OF 'commissarylaw27.OrderAll'. -/
def orderAllUptoCard : Claim7 := { stood := { row := orderAllUptoRow, standIns := [], harness := (true, "50701b8972fd789f67b04b8b5e0c30dc56583b98c784bb26942d21866fbd6e0b"), looks := false }, kinds := [], alts := [], laidByText := true, laidKinds := [.data, .data], laidTests := true, laidLooks := .later }
def OrderAllUptoCardSaid : Prop := Claim7.holds Tryd.pinned (.plain (OpenSpec.upto orderAllSpec)) orderAllUptoCard

/-- THE SECOND FORM's CARD OF 'commissarylaw27.OrderEdges'. -/
def orderEdgesUptoCard : Claim7 := { stood := { row := orderEdgesUptoRow, standIns := [], harness := (true, "50701b8972fd789f67b04b8b5e0c30dc56583b98c784bb26942d21866fbd6e0b"), looks := false }, kinds := [], alts := [], laidByText := true, laidKinds := [.data, .data], laidTests := true, laidLooks := .later }
def OrderEdgesUptoCardSaid : Prop := Claim7.holds Tryd.pinned (.plain (OpenSpec.upto orderEdgesSpec)) orderEdgesUptoCard
end Rows
end Go.Proofs.YtnfdbbjemlehnaaDoor
