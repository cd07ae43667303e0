import Derived.Test.YtnkbhpnflfhhnaaGreatDoorSf
import Derived.Test.YtnkbhpnflfhhnaaGreatDoorTa
namespace Go.Proofs.YtnkbhpnflfhhnaaGreatDoor
open Go.ChangeShapes Go.WideShapes Go.ChangeAt Go.RowKit

theorem prioFirst_walk (w : World) (_ : laidMetH Tryz.prog Rows.prioFirstRow.laid w) (v0 : Value) (h0 : DosArg w v0) : Calls Tryz.prog 6 #[v0] w (fun e w' => e = .returned (.bool true) ∧ Below w.heap.size w w') := by
  obtain ⟨oa, l, cap, rfl, a1, a2, a3⟩ := h0
  exact first_any oa l cap w a2 a1 a3
end Go.Proofs.YtnkbhpnflfhhnaaGreatDoor
