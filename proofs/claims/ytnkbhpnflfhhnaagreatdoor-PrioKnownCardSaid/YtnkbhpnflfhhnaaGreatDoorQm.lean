import Derived.Test.YtnkbhpnflfhhnaaGreatDoorQl
namespace Go.Proofs.YtnkbhpnflfhhnaaGreatDoor
open Go.ChangeShapes Go.WideShapes Go.ChangeAt Go.RowKit

set_option maxHeartbeats 4000000 in
set_option maxRecDepth 100000 in
theorem prioKnown_any (w : World) : Calls Tryz.prog 4 #[] w (Gives w (.bool true)) := by
  go_enter Tryz.func4, Tryz.ntmps4
  go_wp2_with fail
  refine (default_any _).mono ?_
  rintro e w1 ⟨rfl, hb1⟩
  have H1 := Lib.hid hb1
  clear hb1
  go_wp2_with fail
  refine (print_usual _).mono ?_
  rintro e w2 ⟨rfl, hb2⟩
  have H2 := Lib.hid (H1.out.trans (hb2.mono H1.out.size))
  clear hb2
  go_wp2_with fail
  refine (parse_B _).mono ?_
  rintro e w3 ⟨rfl, hb3⟩
  have H3 := Lib.hid (H2.out.trans (hb3.mono H2.out.size))
  clear hb3
  go_wp2_with fail
  refine (parse_C _).mono ?_
  rintro e w4 ⟨rfl, hb4⟩
  have H4 := Lib.hid ((H3.out.alloc H3.out.size (.cells #[.int .u8 3, .bool true] 42)).trans (hb4.mono (H3.out.alloc H3.out.size (.cells #[.int .u8 3, .bool true] 42)).size))
  have P4 : Hid (w4.heap[w3.heap.size]? = some (.cells #[.int .u8 3, .bool true] 42 (0, 0))) := Lib.hid ((hb4.block _ (by simp)).trans (World.alloc_heap_new w3 _))
  clear hb4
  go_wp2_with fail
  refine (parse_D _).mono ?_
  rintro e w5 ⟨rfl, hb5⟩
  have H5 := Lib.hid ((H4.out.alloc H4.out.size (.cells #[.int .u8 0, .bool false] 42)).trans (hb5.mono (H4.out.alloc H4.out.size (.cells #[.int .u8 0, .bool false] 42)).size))
  have P5 : Hid (w5.heap[w3.heap.size]? = some (.cells #[.int .u8 3, .bool true] 42 (0, 0))) := Lib.hid ((hb5.block _ (lt_of_block (block_alloc P4.out))).trans (block_alloc P4.out))
  clear hb5
  go_wp2_with fail
  refine (print_more 8 false (by decide) _).mono ?_
  rintro e w6 ⟨rfl, hb6⟩
  have H6 := Lib.hid ((H5.out.alloc H5.out.size (.cells #[.int .u8 0, .bool false] 42)).trans (hb6.mono (H5.out.alloc H5.out.size (.cells #[.int .u8 0, .bool false] 42)).size))
  have P6 : Hid (w6.heap[w3.heap.size]? = some (.cells #[.int .u8 3, .bool true] 42 (0, 0))) := Lib.hid ((hb6.block _ (lt_of_block (block_alloc P5.out))).trans (block_alloc P5.out))
  clear hb6
  go_wp2_with fail
  refine (next_nil _).mono ?_
  rintro e w7 ⟨rfl, hb7⟩
  have H7 := Lib.hid (H6.out.trans (hb7.mono H6.out.size))
  have P7 : Hid (w7.heap[w3.heap.size]? = some (.cells #[.int .u8 3, .bool true] 42 (0, 0))) := Lib.hid ((hb7.block _ (lt_of_block P6.out)).trans P6.out)
  clear hb7
  go_wp2_with fail
  refine (serve_nil _).mono ?_
  rintro e w8 ⟨rfl, hb8⟩
  have H8 := Lib.hid (H7.out.trans (hb8.mono H7.out.size))
  have P8 : Hid (w8.heap[w3.heap.size]? = some (.cells #[.int .u8 3, .bool true] 42 (0, 0))) := Lib.hid ((hb8.block _ (lt_of_block P7.out)).trans P7.out)
  clear hb8
  go_wp2_with fail
  refine (works_any _).mono ?_
  rintro e w9 ⟨rfl, hb9⟩
  have H9 := Lib.hid (H8.out.trans (hb9.mono H8.out.size))
  have P9 : Hid (w9.heap[w3.heap.size]? = some (.cells #[.int .u8 3, .bool true] 42 (0, 0))) := Lib.hid ((hb9.block _ (lt_of_block P8.out)).trans P8.out)
  clear hb9
  obtain ⟨c0, c1, -, -⟩ := pri_cells P9.out
  go_wp2_with fail
  refine (default_any _).mono ?_
  rintro e w10 ⟨rfl, hb10⟩
  have H10 := Lib.hid (H9.out.trans (hb10.mono H9.out.size))
  have P10 : Hid (w10.heap[w3.heap.size]? = some (.cells #[.int .u8 3, .bool true] 42 (0, 0))) := Lib.hid ((hb10.block _ (lt_of_block P9.out)).trans P9.out)
  clear hb10
  go_wp2_with fail
  refine (set_nil 1 3 false _).mono ?_
  rintro e w11 ⟨rfl, hb11⟩
  have H11 := Lib.hid (H10.out.trans (hb11.mono H10.out.size))
  have P11 : Hid (w11.heap[w3.heap.size]? = some (.cells #[.int .u8 3, .bool true] 42 (0, 0))) := Lib.hid ((hb11.block _ (lt_of_block P10.out)).trans P10.out)
  clear hb11
  go_wp2_with fail
  refine (ready_nil 1 true _).mono ?_
  rintro e w12 ⟨rfl, hb12⟩
  have H12 := Lib.hid (H11.out.trans (hb12.mono H11.out.size))
  have P12 : Hid (w12.heap[w3.heap.size]? = some (.cells #[.int .u8 3, .bool true] 42 (0, 0))) := Lib.hid ((hb12.block _ (lt_of_block P11.out)).trans P11.out)
  clear hb12
  go_wp2_with fail
  refine (drop_nil _ 1 1 _).mono ?_
  rintro e w13 ⟨rfl, hb13⟩
  have H13 := Lib.hid ((H12.out.alloc H12.out.size (.cells #[.int .u64 1] 29)).trans (hb13.mono (H12.out.alloc H12.out.size (.cells #[.int .u64 1] 29)).size))
  have P13 : Hid (w13.heap[w3.heap.size]? = some (.cells #[.int .u8 3, .bool true] 42 (0, 0))) := Lib.hid ((hb13.block _ (lt_of_block (block_alloc P12.out))).trans (block_alloc P12.out))
  clear hb13
  go_wp2_with fail
  refine (len_nil _).mono ?_
  rintro e w14 ⟨rfl, hb14⟩
  have H14 := Lib.hid (H13.out.trans (hb14.mono H13.out.size))
  have P14 : Hid (w14.heap[w3.heap.size]? = some (.cells #[.int .u8 3, .bool true] 42 (0, 0))) := Lib.hid ((hb14.block _ (lt_of_block P13.out)).trans P13.out)
  clear hb14
  go_wp2_with fail
  refine (new_any _).mono ?_
  rintro e w15 ⟨rfl, rfl⟩
  go_wp2_with fail
  refine (ready_any w.heap.size _ _ [] 0 1 true _ (new_plan w.heap.size w14 H14.out.size) r0).mono ?_
  rintro e w16 ⟨rfl, -, hk⟩
  have K16 := Lib.hid hk
  clear hk
  rw [show hasId [] 1 = false from rfl]
  go_wp2_with fail
  go_ret
  exact ⟨rfl, H14.out.trans ((Keeps.of_below (B := w.heap.size) ((Below.refl _ w14).alloc (Nat.le_refl _) _)).trans K16.out |>.below H14.out.size)⟩

theorem prioKnown_walk (w : World) (_ : laidMetH Tryz.prog Rows.prioKnownRow.laid w) : Calls Tryz.prog 4 #[] w (fun e w' => e = .returned (.bool true) ∧ Below w.heap.size w w') := prioKnown_any w
end Go.Proofs.YtnkbhpnflfhhnaaGreatDoor
