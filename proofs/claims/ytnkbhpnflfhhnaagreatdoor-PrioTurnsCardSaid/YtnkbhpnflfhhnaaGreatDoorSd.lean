import Derived.Test.YtnkbhpnflfhhnaaGreatDoorSc
import Derived.Test.YtnkbhpnflfhhnaaGreatDoorTa
namespace Go.Proofs.YtnkbhpnflfhhnaaGreatDoor
open Go.ChangeShapes Go.WideShapes Go.ChangeAt Go.RowKit

theorem prioTurns_walk (w : World) (_ : laidMetH Tryz.prog Rows.prioTurnsRow.laid w) (v0 : Value) (h0 : U64sArg w v0) (v1 : Value) (h1 : U64sArg w v1) (u : Int) (hu : (Lit.int .u8 u).wf = true) (r : Int) (hr : (Lit.int .u8 r).wf = true) :
    Calls Tryz.prog 7 #[v0, v1, .int .u8 u, .int .u8 r] w (fun e w' => e = .returned (.bool true) ∧ Below w.heap.size w w') := by
  obtain ⟨oa, ids, cap, rfl, a1, a2, a3, -⟩ := h0
  obtain ⟨ob, others, cap', rfl, b1, b2, -, -⟩ := h1
  have hu' := bounds_u8 hu
  have hr' := bounds_u8 hr
  exact turns_any oa ob ids others cap cap' u r w a2 b2 a3 hu'.1 hu'.2 hr'.1 hr'.2 (by omega) (by omega)
end Go.Proofs.YtnkbhpnflfhhnaaGreatDoor
