import Derived.Test.YtbmfjffccfmhmaaClA
import Derived.Deep.Cut
import Derived.Deep.CutRange
import Derived.Deep.DeepCutAuto
import Derived.Deep.CutBlock
namespace Go.Proofs.Ytbmfjffccfmhmaa
open Go.ChangeShapes Go.WideShapes Go.ChangeAt Go.RowKit

theorem built80 (parts : List (Nat × Value)) (C : Array Value) (h : Try.prog.built 80 parts = some C) (w : World) : (Instr.build 80 parts.toArray).run Try.prog w = .ok (.agg C) w := run_build w 80 _ _ (by simpa using h)
def UpDoes (w : World) (e : Ending) (w' : World) : Prop := ∃ b, w.heap.size ≤ b ∧ e = .returned (.agg (upB b)) ∧ Below w.heap.size w w' ∧ w'.heap[b]? = some (.cells #[.int .u64 0, .int .u64 1000, .int .u64 0, .bool true, .int .u64 0, .slice none 0 0] 92 (0, 0))
theorem U80 : Try.prog.underlying 80 = some (.struct (match Try.prog.underlying 80 with | some (.struct fs) => fs | _ => #[])) := by kernel_rfl
set_option maxHeartbeats 1000000 in
theorem up_any (w : World) : Calls Try.prog 11 #[] w (UpDoes w) := by
  have q0 : upA[687]? = some (.bool false) := by kernel_rfl
  go_enter Try.func11, Try.ntmps11
  go_upto_region 2 with (first
    | (with_reducible refine at_alloc 80 Z80 alloc80 ?_)
    | ((with_reducible refine at_build 80 upA ?_ ?_); (· kernel_rfl))
    | ((with_reducible refine at_store_new 80 Z80 upA 80 (by rw [size80, upA_size]) (by rw [Z80_size, upA_size]) upA_ones ?_ ?_ ?_); (· rfl); (· rfl)))
  go_upto_region 3 with (fail)
  have hW := Lib.hid (show Below w.heap.size w ((w.alloc (.cells Z80 80)).alloc (.cells (upA.setIfInBounds 687 (.bool true)) 80)) from ((Below.refl _ _).alloc (Nat.le_refl _) _).alloc (by simp) _)
  have h0 := Lib.hid (show ((w.alloc (.cells Z80 80)).alloc (.cells (upA.setIfInBounds 687 (.bool true)) 80)).heap[w.heap.size]? = some (.cells Z80 80 (0, 0)) from heap_alloc2_old w _ _)
  have h1 := Lib.hid (show ((w.alloc (.cells Z80 80)).alloc (.cells (upA.setIfInBounds 687 (.bool true)) 80)).heap[w.heap.size + 1]? = some (.cells (upA.setIfInBounds 687 (.bool true)) 80 (0, 0)) from heap_alloc2_new w _ _)
  have hz := Lib.hid (show ((w.alloc (.cells Z80 80)).alloc (.cells (upA.setIfInBounds 687 (.bool true)) 80)).heap.size = w.heap.size + 2 from by simp)
  generalize ((w.alloc (.cells Z80 80)).alloc (.cells (upA.setIfInBounds 687 (.bool true)) 80)) = W at hW h0 h1 hz ⊢
  have h1' := Lib.hid (show (W.alloc (.cells #[.int .u64 0, .int .u64 1000, .int .u64 0, .bool true, .int .u64 0, .slice none 0 0] 92)).heap[w.heap.size + 1]? = _ from (heap_alloc_old W _ (by have := hz.out; omega)).trans h1.out)
  go_upto_region 4 with ((with_reducible refine at_store_mid 57 (w.heap.size + 1) 695 #[.slice (some ⟨W.heap.size, 0, none⟩) 1 1, .bool false, .int .u64 0, .int .u64 0, .int .u64 1000, .int .u64 1] 80 (upA.setIfInBounds 687 (.bool true)) h1'.out ?_ ?_ ?_ ?_ ?_ ?_); (· kernel_rfl); (· rw [Array.size_setIfInBounds, upA_size]; simp); (· rfl); (· rfl); (· rfl))
  have hL : Hid (((W.alloc (.cells #[.int .u64 0, .int .u64 1000, .int .u64 0, .bool true, .int .u64 0, .slice none 0 0] 92)).setCells (w.heap.size + 1) 695 [.slice (some ⟨W.heap.size, 0, none⟩) 1 1, .bool false, .int .u64 0, .int .u64 0, .int .u64 1000, .int .u64 1]).heap[W.heap.size]? = some (.cells #[.int .u64 0, .int .u64 1000, .int .u64 0, .bool true, .int .u64 0, .slice none 0 0] 92 (0, 0))) :=
    Lib.hid ((heap_setCells_other _ _ (by have := hz.out; omega) _ _ _).trans (heap_alloc_last _ _))
  have h02 : Hid (((W.alloc (.cells #[.int .u64 0, .int .u64 1000, .int .u64 0, .bool true, .int .u64 0, .slice none 0 0] 92)).setCells (w.heap.size + 1) 695 [.slice (some ⟨W.heap.size, 0, none⟩) 1 1, .bool false, .int .u64 0, .int .u64 0, .int .u64 1000, .int .u64 1]).heap[w.heap.size]? = some (.cells Z80 80 (0, 0))) :=
    Lib.hid ((heap_setCells_other _ _ (by omega) _ _ _).trans ((heap_alloc_old W _ (by have := hz.out; omega)).trans h0.out))
  have hW2 := Lib.hid (Below.setCells (b := w.heap.size + 1) [.slice (some ⟨W.heap.size, 0, none⟩) 1 1, .bool false, .int .u64 0, .int .u64 0, .int .u64 1000, .int .u64 1] 695 (hW.out.alloc (by have := hz.out; omega) (.cells #[.int .u64 0, .int .u64 1000, .int .u64 0, .bool true, .int .u64 0, .slice none 0 0] 92)) (by omega))
  have hp2 := Lib.hid (heap_setCells (w.heap.size + 1) 80 [.slice (some ⟨W.heap.size, 0, none⟩) 1 1, .bool false, .int .u64 0, .int .u64 0, .int .u64 1000, .int .u64 1] 695 _ _ h1'.out (by rw [Array.size_setIfInBounds, upA_size]; simp))
  generalize ((W.alloc (.cells #[.int .u64 0, .int .u64 1000, .int .u64 0, .bool true, .int .u64 0, .slice none 0 0] 92)).setCells (w.heap.size + 1) 695 [.slice (some ⟨W.heap.size, 0, none⟩) 1 1, .bool false, .int .u64 0, .int .u64 0, .int .u64 1000, .int .u64 1]) = W2 at hW2 hp2 hL h02 ⊢
  have hbL := Lib.hid (show w.heap.size + 2 ≤ W.heap.size by have := hz.out; omega)
  generalize W.heap.size = bL at hL hp2 hbL ⊢
  have hp3 : Hid (W2.heap[w.heap.size + 1]? = some (.cells (upB bL) 80 (0, 0))) := hp2
  clear hp2 h1 h1' h0 q0
  go_wp2_with (first
    | ((with_reducible refine at_load_row 80 (w.heap.size + 1) 80 (upB bL) hp3.out _ U80 ?_ ?_ ?_ ?_); (· rfl); (· rw [size80, upB_size]); (· rfl))
    | ((with_reducible refine at_store_row 80 w.heap.size Z80 (upB bL) 80 h02.out ?_ ?_ ?_ ?_ ?_ ?_); (· rw [size80, upB_size]); (· rw [Z80_size, upB_size]); (· exact upB_ones bL); (· rfl); (· rfl)))
  have hr := setRow_heap W2 w.heap.size Z80 (upB bL) 80 (0, 0) h02.out
  exact bodyPost_ret (v := .agg (upB bL)) (results_cell_row rfl _ _ w.heap.size 80 (upB bL) (0, 0) _ rfl hr U80 rfl (by rw [size80, upB_size])) rfl ⟨bL, by have := hbL.out; omega, rfl, Below.setRow _ hW2.out (Nat.le_refl _), (setRow_other _ _ _ _ (by have := hbL.out; omega)).trans hL.out⟩
end Go.Proofs.Ytbmfjffccfmhmaa
