import Derived.Test.YtbmfjffccfmhmaaClO
namespace Go.Proofs.Ytbmfjffccfmhmaa
open Go.ChangeShapes Go.WideShapes Go.ChangeAt Go.RowKit
set_option maxHeartbeats 8000000 in
set_option maxRecDepth 100000 in
theorem clockKnown_walk (w : World) : Calls Try.prog 6 #[] w (Gives w (.bool true)) := by
  go_enter Try.func6, Try.ntmps6
  go_upto_region 1 with (fail)
  go_wp2_with fail
  refine (up_any _).mono ?_
  rintro e w1 ⟨b, hbb, rfl, hb1, hL⟩
  have L1 := Lib.hid hL
  have B1 := Lib.hid hb1
  have hlt := lt_of_block hL
  have hbg : Hid (b < w1.heap.size) := Lib.hid hlt
  clear hL hb1 hbb
  go_upto_region 2 with (first
    | (with_reducible refine at_alloc 80 Z80 alloc80 ?_)
    | ((with_reducible refine at_store_new 80 Z80 (upB b) 80 (by rw [size80, upB_size]) (by rw [Z80_size, upB_size]) (upB_ones b) ?_ ?_ ?_); (· rfl); (· rfl)))
  have P2 : Hid ((w1.alloc (.cells (upB b) 80)).heap[w1.heap.size]? = some (.cells (upB b) 80 (0, 0))) := Lib.hid (heap_alloc_last w1 _)
  have L2 : Hid ((w1.alloc (.cells (upB b) 80)).heap[b]? = _) := Lib.hid ((heap_alloc_old w1 _ hlt).trans L1.out)
  have B2 : Hid (Below w.heap.size w (w1.alloc (.cells (upB b) 80))) := Lib.hid (B1.out.alloc B1.out.size _)
  have S2 : Hid (w.heap.size ≤ w1.heap.size) := Lib.hid B1.out.size
  clear hlt
  generalize w1.alloc (.cells (upB b) 80) = w2 at P2 L2 B2 ⊢
  generalize w1.heap.size = g at P2 S2 hbg ⊢
  have c1 : w2.cell? ⟨g, 1, none⟩ = some (.int .u8 2) := (cell_of_row _ _ _ _ _ _ P2.out).trans (upB_phase b)
  have f1 : w2.frozen? ⟨g, 1, none⟩ = false := frozen_of_row _ _ _ _ _ P2.out
  have P3 : Hid ((w2.setCell ⟨g, 1, none⟩ (.int .u8 4)).heap[g]? = some (.cells ((upB b).setIfInBounds 1 (.int .u8 4)) 80 (0, 0))) := Lib.hid (heap_setCell_same w2 g 1 _ _ _ P2.out)
  have c2 : (w2.setCell ⟨g, 1, none⟩ (.int .u8 4)).cell? ⟨g, 1035, none⟩ = some (.int .u64 0) := (cell_of_row _ _ _ _ _ _ P3.out).trans (upB_close b)
  have c3 : w2.cell? ⟨g, 1035, none⟩ = some (.int .u64 0) := (cell_of_row _ _ _ _ _ _ P2.out).trans (by kernel_rfl)
  have f2 : w2.frozen? ⟨g, 1035, none⟩ = false := frozen_of_row _ _ _ _ _ P2.out
  go_upto_region 3 with (fail)
  have P4 : Hid (((w2.setCell ⟨g, 1, none⟩ (.int .u8 4)).setCell ⟨g, 1035, none⟩ (.int .u64 77)).heap[g]? = some (.cells (upF b) 80 (0, 0))) := Lib.hid (heap_setCell_same _ g 1035 _ _ _ P3.out)
  have L4 : Hid (((w2.setCell ⟨g, 1, none⟩ (.int .u8 4)).setCell ⟨g, 1035, none⟩ (.int .u64 77)).heap[b]? = _) := Lib.hid ((heap_setCell_other _ _ b _ (by have := hbg.out; show b ≠ g; omega)).trans ((heap_setCell_other _ _ b _ (by have := hbg.out; show b ≠ g; omega)).trans L2.out))
  have B4 : Hid (Below w.heap.size w ((w2.setCell ⟨g, 1, none⟩ (.int .u8 4)).setCell ⟨g, 1035, none⟩ (.int .u64 77))) := Lib.hid ((B2.out.setCell S2.out _).setCell S2.out _)
  clear c1 f1 c2 c3 f2
  generalize (w2.setCell ⟨g, 1, none⟩ (.int .u8 4)).setCell ⟨g, 1035, none⟩ (.int .u64 77) = w4 at P4 L4 B4 ⊢
  go_upto_region 4 with (first
    | ((with_reducible refine at_build 80 deadA ?_ ?_); (· kernel_rfl))
    | (go_at_call 12; refine (next_any deadA _ _ (asked_of dead_at (by omega))).mono ?_; rw [next_dead]; rintro e w5 ⟨rfl, hb5⟩; unfold T3.val))
  have P5 := Lib.hid (((heap_alloc_old w5 (.cells #[.int .u64 0, .int .u8 0, .int .u8 0] 83) (by have := lt_of_block P4.out; have := hb5.size; omega)).trans (hb5.block _ (lt_of_block P4.out))).trans P4.out)
  have L5 := Lib.hid (((heap_alloc_old w5 (.cells #[.int .u64 0, .int .u8 0, .int .u8 0] 83) (by have := lt_of_block L4.out; have := hb5.size; omega)).trans (hb5.block _ (lt_of_block L4.out))).trans L4.out)
  have B5 := Lib.hid ((B4.out.trans (hb5.mono B4.out.size)).alloc (by have := B4.out.size; have := hb5.size; omega) (.cells #[.int .u64 0, .int .u8 0, .int .u8 0] 83))
  clear hb5
  generalize w5.alloc (.cells #[.int .u64 0, .int .u8 0, .int .u8 0] 83) = w6 at P5 L5 B5 ⊢
  go_upto_region 5 with (first
    | ((with_reducible refine at_build 80 servA ?_ ?_); (· kernel_rfl))
    | (go_at_call 12; refine (next_any servA _ _ (asked_of serv_at (by omega))).mono ?_; rw [next_serv]; rintro e w7 ⟨rfl, hb7⟩; unfold T3.val))
  have P7 := Lib.hid (((heap_alloc_old w7 (.cells #[.int .u64 0, .int .u8 0, .int .u8 0] 83) (by have := lt_of_block P5.out; have := hb7.size; omega)).trans (hb7.block _ (lt_of_block P5.out))).trans P5.out)
  have L7 := Lib.hid (((heap_alloc_old w7 (.cells #[.int .u64 0, .int .u8 0, .int .u8 0] 83) (by have := lt_of_block L5.out; have := hb7.size; omega)).trans (hb7.block _ (lt_of_block L5.out))).trans L5.out)
  have B7 := Lib.hid ((B5.out.trans (hb7.mono B5.out.size)).alloc (by have := B5.out.size; have := hb7.size; omega) (.cells #[.int .u64 0, .int .u8 0, .int .u8 0] 83))
  clear hb7
  generalize w7.alloc (.cells #[.int .u64 0, .int .u8 0, .int .u8 0] 83) = w8 at P7 L7 B7 ⊢
  go_upto_region 6 with (first
    | ((with_reducible refine at_build 80 cliA ?_ ?_); (· kernel_rfl))
    | (with_reducible refine at_alloc 80 Z80 alloc80 ?_)
    | ((with_reducible refine at_store_new 80 Z80 cliA 80 (by rw [size80, cliA_size]) (by rw [Z80_size, cliA_size]) cliA_ones ?_ ?_ ?_); (· rfl); (· rfl)))
  have P8 := Lib.hid ((heap_alloc_old w8 (.cells cliA 80) (lt_of_block P7.out)).trans P7.out)
  have L8 := Lib.hid ((heap_alloc_old w8 (.cells cliA 80) (lt_of_block L7.out)).trans L7.out)
  have B8 := Lib.hid (B7.out.alloc B7.out.size (.cells cliA 80))
  have R8 : Hid ((w8.alloc (.cells cliA 80)).heap[w8.heap.size]? = some (.cells cliA 80 (0, 0))) := Lib.hid (heap_alloc_last w8 _)
  have S8 : Hid (w.heap.size ≤ w8.heap.size) := Lib.hid B7.out.size
  have G8 : Hid (g < w8.heap.size) := Lib.hid (lt_of_block P7.out)
  have N8 : Hid (b < w8.heap.size) := Lib.hid (lt_of_block L7.out)
  generalize w8.alloc (.cells cliA 80) = w9 at P8 L8 B8 R8 ⊢
  generalize w8.heap.size = h at R8 S8 G8 N8 ⊢
  have c1 : w9.cell? ⟨h, 297, none⟩ = some (.bool false) := (cell_of_row _ _ _ _ _ _ R8.out).trans cliA_297
  have f1 : w9.frozen? ⟨h, 297, none⟩ = false := frozen_of_row _ _ _ _ _ R8.out
  go_upto_region 7 with (fail)
  have P9 := Lib.hid ((heap_setCell_other w9 ⟨h, 297, none⟩ g (.bool true) (by have := G8.out; show g ≠ h; omega)).trans P8.out)
  have L9 := Lib.hid ((heap_setCell_other w9 ⟨h, 297, none⟩ b (.bool true) (by have := N8.out; show b ≠ h; omega)).trans L8.out)
  have B9 := Lib.hid (B8.out.setCell (p := ⟨h, 297, none⟩) S8.out (.bool true))
  have R9 : Hid ((w9.setCell ⟨h, 297, none⟩ (.bool true)).heap[h]? = some (.cells cliB 80 (0, 0))) := Lib.hid (heap_setCell_same w9 h 297 _ _ _ R8.out)
  clear c1 f1
  generalize w9.setCell ⟨h, 297, none⟩ (.bool true) = wa at P9 L9 B9 R9 ⊢
  go_wp2_with (go_at_call 13; refine (clock_works _).mono ?_; rintro e wb ⟨rfl, hb⟩; have PB := Lib.hid ((hb.block _ (lt_of_block P9.out)).trans P9.out); have LB := Lib.hid ((hb.block _ (lt_of_block L9.out)).trans L9.out); have RB := Lib.hid ((hb.block _ (lt_of_block R9.out)).trans R9.out); have BB := Lib.hid (B9.out.trans (hb.mono B9.out.size)); clear hb)
  with_reducible refine at_guarded_load_row 80 g 80 (upF b) PB.out _ U80 rfl ?_ ?_ ?_
  · rw [size80, (upF_at b).size]
  · rfl
  go_wp2_with (go_at_call 14; refine (is_any (upF b) (stUp 4 77 b 0 0) ⟨77, 1, 0⟩ _ (asked_up (upF_at b) LB.out) (next_upF b)).mono ?_; rintro e wc ⟨rfl, hb⟩; have PC := Lib.hid ((hb.block _ (lt_of_block PB.out)).trans PB.out); have LC := Lib.hid ((hb.block _ (lt_of_block LB.out)).trans LB.out); have RC := Lib.hid ((hb.block _ (lt_of_block RB.out)).trans RB.out); have BC := Lib.hid (BB.out.trans (hb.mono BB.out.size)); clear hb)
  with_reducible refine at_guarded_load_row 80 g 80 (upF b) PC.out _ U80 rfl ?_ ?_ ?_
  · rw [size80, (upF_at b).size]
  · rfl
  go_wp2_with (go_at_call 15; refine (due_any (upF b) (stUp 4 77 b 0 0) ⟨77, 1, 0⟩ 76 _ (asked_up (upF_at b) LC.out) (all_upF b)).mono ?_; rw [if_pos (by decide)]; rintro e wd ⟨oa, cap, rfl, hb⟩; have PD := Lib.hid ((hb.block _ (lt_of_block PC.out)).trans PC.out); have LD := Lib.hid ((hb.block _ (lt_of_block LC.out)).trans LC.out); have RD := Lib.hid ((hb.block _ (lt_of_block RC.out)).trans RC.out); have BD := Lib.hid (BC.out.trans (hb.mono BC.out.size)); clear hb)
  with_reducible refine at_guarded_load_row 80 g 80 (upF b) PD.out _ U80 rfl ?_ ?_ ?_
  · rw [size80, (upF_at b).size]
  · rfl
  go_wp2_with (go_at_call 15; refine (due_any (upF b) (stUp 4 77 b 0 0) ⟨77, 1, 0⟩ 77 _ (asked_up (upF_at b) LD.out) (all_upF b)).mono ?_; rw [if_neg (by decide)]; rintro e we ⟨ob, capb, rfl, hb⟩; have RE := Lib.hid ((hb.block _ (lt_of_block RD.out)).trans RD.out); have BE := Lib.hid (BD.out.trans (hb.mono BD.out.size)); clear hb)
  with_reducible refine at_guarded_load_row 80 h 80 cliB RE.out _ U80 rfl ?_ ?_ ?_
  · rw [size80, cli_at.size]
  · rfl
  go_wp2_with (go_at_call 14; refine (is_any cliB _ ⟨1998000, 4, 0⟩ _ (asked_of cli_at (by omega)) next_cli).mono ?_; rintro e wf ⟨rfl, hb⟩; have BF := Lib.hid (BE.out.trans (hb.mono BE.out.size)); clear hb)
  go_ret
  exact ⟨rfl, BF.out⟩
end Go.Proofs.Ytbmfjffccfmhmaa
