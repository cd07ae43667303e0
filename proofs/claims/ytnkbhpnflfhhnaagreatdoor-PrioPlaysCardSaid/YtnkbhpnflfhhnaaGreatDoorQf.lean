import Derived.Test.YtnkbhpnflfhhnaaGreatDoorQe
import Derived.RangeFuncNested
import Derived.RangeFuncBound
import Derived.RangeFuncCalls
import Derived.RangeFuncLeaves
import Derived.Shelf.Abstract
import Derived.Shelf.RegionOpen
import Derived.OwnWalkIn
import Derived.TacticsInMore
import Derived.LoopNIn
import Derived.LoopIn
namespace Go.Proofs.YtnkbhpnflfhhnaaGreatDoor
open Go.ChangeShapes Go.WideShapes Go.ChangeAt Go.RowKit Go.Shelf

/-- A text parted at its commas. -/
def SplitsTo : ByteArray → List ByteArray → Prop
  | _, [] => False
  | t, [x] => t = x ∧ Lib.indexByte t.data.toList 44 = -1
  | t, x :: y :: r => ∃ i : Nat, Lib.indexByte t.data.toList 44 = i ∧ i + 1 ≤ t.size ∧ t.extract 0 i = x ∧ SplitsTo (t.extract (i + 1) t.size) (y :: r)

theorem splitSeq_makes (s sep : ByteArray) (w : World) : Calls Tryz.prog 83 #[.string s, .string sep, .int .i64 0] w fun e w' =>
    e = .returned (.func (.func 120) #[] #[.pointer (some ⟨w.heap.size + 1, 0, none⟩), .pointer (some ⟨w.heap.size, 0, none⟩), .pointer (some ⟨w.heap.size + 2, 0, none⟩)]) ∧
    w' = ((w.alloc (.cells #[.string s] 9)).alloc (.cells #[.string sep] 9)).alloc (.cells #[.int .i64 0] 3) := by
  go_enter Tryz.func83, Tryz.ntmps83
  go_wp2
  go_ret
  exact ⟨rfl, rfl⟩

theorem SplitSeq_makes (s sep : ByteArray) (w : World) : Calls Tryz.prog 47 #[.string s, .string sep] w fun e w' =>
    e = .returned (.func (.func 120) #[] #[.pointer (some ⟨w.heap.size + 1, 0, none⟩), .pointer (some ⟨w.heap.size, 0, none⟩), .pointer (some ⟨w.heap.size + 2, 0, none⟩)]) ∧
    w' = ((w.alloc (.cells #[.string s] 9)).alloc (.cells #[.string sep] 9)).alloc (.cells #[.int .i64 0] 3) := by
  go_enter Tryz.func47, Tryz.ntmps47
  go_wp2_with fail
  refine (splitSeq_makes s sep w).mono ?_
  rintro e w1 ⟨rfl, rfl⟩
  go_wp2_with fail
  go_ret
  exact ⟨rfl, rfl⟩

theorem indexS_one (s : ByteArray) (c : UInt8) (w : World) : Calls Tryz.prog 95 #[.string s, .string ⟨#[c]⟩] w fun e w' => e = .returned (.int .i64 (Lib.indexByte s.data.toList c)) ∧ w' = w :=
  Tryz.strings_Index_one s c w
end Go.Proofs.YtnkbhpnflfhhnaaGreatDoor
