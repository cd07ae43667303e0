import Derived.Test.YtnkbhpnflfhhnaaGreatDoorRb
import Derived.Test.YtnkbhpnflfhhnaaGreatDoorRc
namespace Go.Proofs.YtnkbhpnflfhhnaaGreatDoor
open Go.ChangeShapes Go.WideShapes Go.ChangeAt Go.RowKit

def PlaceRel (r : List St) (id : Int) (w : World) (i : Value) (wr : World) : Prop := ∃ k : Nat, k ≤ r.length ∧ i = .int .i64 k ∧ plc id (r.drop k) k = plc id r 0 ∧ Below w.heap.size w wr

set_option maxHeartbeats 1000000 in
set_option maxRecDepth 100000 in
theorem place_any (oa : Option Addr) (r : List St) (cap : Nat) (id : Int) (w : World) (hx : RefRow w oa r) (hl : r.length ≤ 4611686018427387904) :
    Calls Tryz.prog 27 #[.slice oa r.length cap, .int .u64 id] w (Gives w (.int .i64 (plc id r 0))) := by
  have HX := Lib.hid hx
  clear hx
  go_enter Tryz.func27, Tryz.ntmps27
  go_wp2_with fail
  go_loopw [9] (fun i wr => PlaceRel r id w i wr) (fun i _ => r.length - (intOf i).toNat)
  case atStart => exact ⟨0, by omega, rfl, rfl, Below.refl _ _⟩
  case round =>
    obtain ⟨k, hk, rfl, hr, hbel⟩ := hrel
    have HR := Lib.hid hr
    have HBEL := Lib.hid hbel
    clear hr hbel
    by_cases hlt : k < r.length
    · obtain ⟨g, off, rfl, x0, x1, x2, x3, x4⟩ := HX.out.below HBEL.out k hlt
      have HD : Hid (plc id (r.drop k) k = if r[k].id = id then (k : Int) else plc id (r.drop (k + 1)) (k + 1)) := Lib.hid (by rw [List.drop_eq_getElem_cons hlt, plc])
      obtain ⟨x, hxk⟩ : ∃ x, x = r[k] := ⟨_, rfl⟩
      have HXK := Lib.hid hxk
      rw [← hxk] at x0 x1 x2 x3 x4
      clear hxk
      by_cases he : x.id = id
      · go_wp2_with fail
        go_ret
        refine ⟨?_, HBEL.out.alloc HBEL.out.size _⟩
        have h1 := HR.out
        rw [HD.out, ← HXK.out, if_pos he] at h1
        rw [← h1]
        rfl
      · go_wp2_with fail
        go_roundw
        case rel => exact ⟨k + 1, by omega, by go_num, by have h1 := HR.out; rw [HD.out, ← HXK.out, if_neg he] at h1; exact h1, HBEL.out.alloc HBEL.out.size _⟩
        case measure => simp [intOf]; omega
    · obtain rfl : k = r.length := by omega
      go_wp2_with fail
      go_ret
      refine ⟨?_, HBEL.out⟩
      have h1 := HR.out
      rw [List.drop_length] at h1
      rw [← h1]
      rfl
end Go.Proofs.YtnkbhpnflfhhnaaGreatDoor
