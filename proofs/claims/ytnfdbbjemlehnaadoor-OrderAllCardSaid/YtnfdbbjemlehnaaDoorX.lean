/- The data of the living example. -/
import Derived.Test.YtnfdbbjemlehnaaDoorV
namespace Go.Proofs.YtnfdbbjemlehnaaDoor
open Go.RowKit

def lG : List Pr := [⟨100, 10⟩, ⟨50, 5⟩, ⟨1000, 90⟩]
def lE : List Pr := [⟨0, 1⟩, ⟨1, 2⟩]
def lB : Sh := buildF (bestT lG lE) 63 7
def lC : Int := ((bestT lG lE)[7]?.getD default).t
def lS1 : Sh := .node (-1) [.node (-1) [.node 0 [], .node 2 []], .node 1 []]
def lS2 : Sh := .node (-1) [.node (-1) [.node 0 [], .node 1 []], .node 2 []]
theorem l_ok : okF lG lE = true := by decide +kernel
theorem l_no : okF [] [] = false := by decide +kernel
theorem l_k : costF lG lE lB = (lC, 0) := by decide +kernel
theorem l_1 : costF lG lE lS1 = (0, 4) := by decide +kernel
theorem l_2 : costF lG lE lS2 = ((costF lG lE lS2).1, 0) ∧ lC ≤ (costF lG lE lS2).1 := by decide +kernel
theorem l_r : rowsF lG lE 3 = 50 := by decide +kernel
theorem l_j : joinedF lE 7 = true ∧ joinedF lE 5 = false := by decide +kernel
theorem l_l : (leavesF lB).length = 3 := by decide +kernel
end Go.Proofs.YtnfdbbjemlehnaaDoor
