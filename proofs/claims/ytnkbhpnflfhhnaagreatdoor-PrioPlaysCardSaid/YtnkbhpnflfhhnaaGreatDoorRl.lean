import Derived.Test.YtnkbhpnflfhhnaaGreatDoorRj
import Derived.Test.YtnkbhpnflfhhnaaGreatDoorTa
namespace Go.Proofs.YtnkbhpnflfhhnaaGreatDoor
open Go.ChangeShapes Go.WideShapes Go.ChangeAt Go.RowKit

theorem prioPlays_walk (w : World) (_ : laidMetH Tryz.prog Rows.prioPlaysRow.laid w) (v0 : Value) (h0 : DosArg w v0) : Calls Tryz.prog 5 #[v0] w (fun e w' => e = .returned (.bool true) ∧ Below w.heap.size w w') := by
  obtain ⟨oa, l, cap, rfl, a1, a2, -⟩ := h0
  exact plays_any oa l cap w a2 a1
end Go.Proofs.YtnkbhpnflfhhnaaGreatDoor
