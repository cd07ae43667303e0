import Derived.Test.YtbmfjffccfmhmaaClN
namespace Go.Proofs.Ytbmfjffccfmhmaa
open Go.ChangeShapes Go.WideShapes Go.ChangeAt Go.RowKit
theorem at_guarded_load_row {P : Program} {a : Act} {w : World} {K : Act → World → Prop} {Q : Exit → Act → World → Prop} {d : Option Tmp} {ty : TypeId} {pos : String} {af : Array Edge} {gd : Option (Nat × Bool)} (t0 : TypeId) {x : Operand} (b : Nat) (t : TypeId) (C : Array Value) (hg : w.heap[b]? = some (.cells C t (0, 0))) (dd : TypeDesc)
    (hu : P.underlying t0 = some dd) (hd : dd.isRow = true) (hi : (P.info? t0).map (·.size) = some C.size) (hx : a.eval x = .pointer (some ⟨b, 0, none⟩))
    (h : K (a.put d (.agg C)) w) : Oper.wp P ⟨d, .load t0 x, ty, pos, af, gd⟩ a w K Q :=
  wp_load_row t0 x rfl b hx t C (0, 0) dd hg hu (by cases dd <;> simp_all [TypeDesc.isRow]) hi h
set_option maxHeartbeats 4000000 in
set_option maxRecDepth 100000 in
theorem clock_works (w : World) : Calls Try.prog 13 #[] w (Gives w (.bool true)) := by
  go_enter Try.func13, Try.ntmps13
  go_upto_region 1 with (fail)
  go_wp2_with fail
  refine (up_any _).mono ?_
  rintro e w1 ⟨b, hbb, rfl, hb1, hL⟩
  have L1 := Lib.hid hL
  have B1 := Lib.hid hb1
  have BB := Lib.hid hbb
  have hlt := lt_of_block hL
  have hbg : Hid (b < w1.heap.size) := Lib.hid hlt
  clear hL hb1 hbb
  go_upto_region 2 with (first
    | (with_reducible refine at_alloc 80 Z80 alloc80 ?_)
    | ((with_reducible refine at_store_new 80 Z80 (upB b) 80 (by rw [size80, upB_size]) (by rw [Z80_size, upB_size]) (upB_ones b) ?_ ?_ ?_); (· rfl); (· rfl)))
  have P2 : Hid ((w1.alloc (.cells (upB b) 80)).heap[w1.heap.size]? = some (.cells (upB b) 80 (0, 0))) := Lib.hid (heap_alloc_last w1 _)
  have L2 : Hid ((w1.alloc (.cells (upB b) 80)).heap[b]? = _) := Lib.hid ((heap_alloc_old w1 _ hlt).trans L1.out)
  have B2 : Hid (Below w.heap.size w (w1.alloc (.cells (upB b) 80))) := Lib.hid (B1.out.alloc B1.out.size _)
  have Z2 : Hid ((w1.alloc (.cells (upB b) 80)).heap.size = w1.heap.size + 1) := Lib.hid (by simp)
  have H2 : Hid (w1.heap.size < (w1.alloc (.cells (upB b) 80)).heap.size) := Lib.hid (by simp)
  have S2 : Hid (w.heap.size ≤ w1.heap.size) := Lib.hid B1.out.size
  generalize w1.alloc (.cells (upB b) 80) = w2 at P2 L2 B2 Z2 H2 ⊢
  generalize w1.heap.size = g at P2 Z2 H2 S2 hbg ⊢
  go_upto_region 4 with (first
    | ((with_reducible refine at_load_row 80 g 80 (upB b) P2.out _ U80 rfl ?_ ?_ ?_); (· rw [size80, upB_size]); (· rfl))
    | (go_at_call 14; refine (is_any (upB b) (stUp 2 0 b 0 0) ⟨1000000, 4, 2⟩ _ (asked_up (up_at b) L2.out) (next_up b)).mono ?_; rintro e w3 ⟨rfl, hb3⟩))
  have P3 := Lib.hid ((hb3.block _ (lt_of_block P2.out)).trans P2.out)
  have L3 := Lib.hid ((hb3.block _ (lt_of_block L2.out)).trans L2.out)
  have B3 := Lib.hid (B2.out.trans (hb3.mono B2.out.size))
  clear hb3
  have c3 : w3.cell? ⟨g, 693, none⟩ = some (.int .u64 0) := (cell_of_row _ _ _ _ _ _ P3.out).trans (upB_693 b)
  have f3 : w3.frozen? ⟨g, 693, none⟩ = false := frozen_of_row _ _ _ _ _ P3.out
  go_upto_region 5 with (fail)
  have P4 : Hid ((w3.setCell ⟨g, 693, none⟩ (.int .u64 5000)).heap[g]? = some (.cells (upD b) 80 (0, 0))) := Lib.hid (heap_setCell_same w3 g 693 _ _ _ P3.out)
  have L4 : Hid ((w3.setCell ⟨g, 693, none⟩ (.int .u64 5000)).heap[b]? = _) := Lib.hid ((heap_setCell_other w3 _ b _ (by have := hbg.out; show b ≠ g; omega)).trans L3.out)
  have B4 : Hid (Below w.heap.size w (w3.setCell ⟨g, 693, none⟩ (.int .u64 5000))) := Lib.hid (B3.out.setCell S2.out _)
  clear c3 f3
  generalize w3.setCell ⟨g, 693, none⟩ (.int .u64 5000) = w4 at P4 L4 B4 ⊢
  go_upto_region 6 with (first
    | ((with_reducible refine at_load_row 80 g 80 (upD b) P4.out _ U80 rfl ?_ ?_ ?_); (· rw [size80, (upD_at b).size]); (· rfl))
    | (go_at_call 14; refine (is_any (upD b) (stUp 2 0 b 5000 0) ⟨5000, 5, 2⟩ _ (asked_up (upD_at b) L4.out) (next_upD b)).mono ?_; rintro e w5 ⟨rfl, hb5⟩))
  have P5 := Lib.hid ((hb5.block _ (lt_of_block P4.out)).trans P4.out)
  have L5 := Lib.hid ((hb5.block _ (lt_of_block L4.out)).trans L4.out)
  have B5 := Lib.hid (B4.out.trans (hb5.mono B4.out.size))
  clear hb5
  have c5 : w5.cell? ⟨g, 698, none⟩ = some (.int .u64 0) := (cell_of_row _ _ _ _ _ _ P5.out).trans (upD_698 b)
  have f5 : w5.frozen? ⟨g, 698, none⟩ = false := frozen_of_row _ _ _ _ _ P5.out
  go_upto_region 7 with (fail)
  have P6 : Hid ((w5.setCell ⟨g, 698, none⟩ (.int .u64 3000)).heap[g]? = some (.cells (upE b) 80 (0, 0))) := Lib.hid (heap_setCell_same w5 g 698 _ _ _ P5.out)
  have L6 : Hid ((w5.setCell ⟨g, 698, none⟩ (.int .u64 3000)).heap[b]? = _) := Lib.hid ((heap_setCell_other w5 _ b _ (by have := hbg.out; show b ≠ g; omega)).trans L5.out)
  have B6 : Hid (Below w.heap.size w (w5.setCell ⟨g, 698, none⟩ (.int .u64 3000))) := Lib.hid (B5.out.setCell S2.out _)
  clear c5 f5
  generalize w5.setCell ⟨g, 698, none⟩ (.int .u64 3000) = w6 at P6 L6 B6 ⊢
  go_wp2_with fail
  with_reducible refine at_guarded_load_row 80 g 80 (upE b) P6.out _ U80 rfl ?_ ?_ ?_
  · rw [size80, (upE_at b).size]
  · rfl
  go_wp2_with (go_at_call 14; refine (is_any (upE b) (stUp 2 0 b 5000 3000) ⟨3000, 3, 2⟩ _ (asked_up (upE_at b) L6.out) (next_upE b)).mono ?_; rintro e w7 ⟨rfl, hb7⟩)
  go_ret
  exact ⟨rfl, B6.out.trans (hb7.mono B6.out.size)⟩
end Go.Proofs.Ytbmfjffccfmhmaa
