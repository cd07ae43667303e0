import Derived.Test.YtbmfjffccfmhmaaClD
import Derived.Test.YtbmfjffccfmhmaaRttD
import Derived.Deep.RegionHeld3
namespace Go.Proofs.Ytbmfjffccfmhmaa
open Go.ChangeShapes Go.WideShapes Go.ChangeAt Go.RowKit

structure Sp where
  has : Bool
  due : Int
  l : Value
  q : Bool
  sh : Bool
  lg : Int
  ls : Int
  la : Int
  tp : Int
structure St where
  server : Bool
  phase : Int
  close : Int
  idle : Int
  pto : Nat
  done : Bool
  sp : Nat → Sp
/-- What a state's cells hold, as far as the clock asks. -/
structure StAt (C : Array Value) (s : St) : Prop where
  size : C.size = 1037
  ones : C.toList.all (·.oneCell') = true
  c0 : C[0]? = some (.bool s.server)
  c1 : C[1]? = some (.int .u8 s.phase)
  r0 : C[882]? = some (.bool false)
  r1 : C[883]? = some (.int .u64 0)
  r2 : C[884]? = some (.int .u64 0)
  r3 : C[885]? = some (.int .u64 0)
  r4 : C[886]? = some (.int .u64 0)
  p : C[908]? = some (.int .u64 s.pto)
  i : C[909]? = some (.int .u64 s.idle)
  d : C[998]? = some (.bool s.done)
  t : C[1035]? = some (.int .u64 s.close)
  sp : ∀ n, n < 3 → C[297 + 195 * n]? = some (.bool (s.sp n).has) ∧ C[297 + 195 * n + 6]? = some (.int .u64 (s.sp n).due) ∧ C[297 + 195 * n + 8]? = some (s.sp n).l ∧ C[297 + 195 * n + 9]? = some (.bool (s.sp n).sh) ∧
    C[297 + 195 * n + 10]? = some (.int .u64 (s.sp n).lg) ∧ C[297 + 195 * n + 11]? = some (.int .u64 (s.sp n).ls) ∧ C[297 + 195 * n + 12]? = some (.int .u64 (s.sp n).la) ∧ C[297 + 195 * n + 13]? = some (.int .u64 (s.sp n).tp)
theorem keepc {W w1 : World} {a : Addr} {v : Value} (h : W.cell? a = some v) (hb : Below W.heap.size W w1) : w1.cell? a = some v := (hb.cell (block_lt_of_cell h)).trans h
theorem keepb {w W w1 : World} (h : Below w.heap.size w W) (hb : Below W.heap.size W w1) : Below w.heap.size w w1 := h.trans (hb.mono h.size)
/-- A space's timeout. -/
def St.ptoAt (s : St) (n : Nat) : Int := (s.sp n).la + RS.zero.pto (if n = 2 ∧ s.done = true then 25000 else 0) s.pto
theorem zpto_bd (d : Int) (k : Nat) (hd : 0 ≤ d) : 0 ≤ RS.zero.pto d k ∧ RS.zero.pto d k ≤ 1099511627776 := by
  unfold RS.pto
  have h1 := mnv_bd (mnv RS.zero.sm 1099511627776 + mxv (4 * mnv RS.zero.vr 1099511627776) 1000 + mnv d 1099511627776) (by
    have := z_sm; have := z_vr; simp only [mnv_eq, mxv_eq]; omega)
  have h2 := dbl_bd k _ h1.1 h1.2
  omega
set_option maxHeartbeats 4000000 in
set_option maxRecDepth 100000 in
theorem pto_0 (C : Array Value) (s : St) (w : World) (h : StAt C s) (hp : (s.pto : Int) < 18446744073709551616) (hla : 0 ≤ (s.sp 0).la ∧ (s.sp 0).la ≤ 1000000) :
    Calls Try.prog 32 #[.agg C, .int .i64 0] w (Gives w (.int .u64 ((s.sp 0).la + RS.zero.pto 0 s.pto))) := by
  obtain ⟨s0, s6, s8, s9, s10, s11, s12, s13⟩ := h.sp 0 (by omega)
  have r0 := h.r0
  have r1 := h.r1
  have r2 := h.r2
  have r3 := h.r3
  have r4 := h.r4
  have p := h.p
  have d := h.d
  have HLA := Lib.hid hla
  have HP := Lib.hid hp
  clear h hla hp
  generalize s.sp 0 = x at s0 s6 s8 s9 s10 s11 s12 s13 HLA ⊢
  simp only [Nat.reduceAdd, Nat.reduceMul] at s0 s6 s8 s9 s10 s11 s12 s13
  go_enter Try.func32, Try.ntmps32
  go_upto_region 1 with (with_reducible refine at_box 80 C rfl ?_)
  refine region_tail 10 (by kernel_rfl) (by kernel_rfl) (fun W => W = (w.alloc (.cells C 80)).drew) rfl ?_
  intro W hW
  subst hW
  simp only [List.take_succ_cons, List.take_zero, List.drop_succ_cons, List.drop_zero]
  repeat still_step
  refine wpStill_nil ?_
  go_upto_region 2 with (fail)
  have HB1 := Lib.hid (show Below w.heap.size w ((w.alloc (.cells C 80)).alloc (.cells #[x.l, .bool x.sh, .int .u64 x.lg, .int .u64 x.ls, .int .u64 x.la, .int .u64 x.tp, .bool false, .int .u64 0, .int .u64 0, .int .u64 0, .int .u64 0] 106)).drew from (((Below.refl _ _).alloc (Nat.le_refl _) _).alloc (by simp) _).drew)
  have k0 : ((w.alloc (.cells C 80)).alloc (.cells #[x.l, .bool x.sh, .int .u64 x.lg, .int .u64 x.ls, .int .u64 x.la, .int .u64 x.tp, .bool false, .int .u64 0, .int .u64 0, .int .u64 0, .int .u64 0] 106)).drew.cell? ⟨w.heap.size, 908, none⟩ = some (.int .u64 s.pto) := (cell_of_row _ _ _ _ _ _ (heap_alloc2_old w _ _)).trans p
  have k1 : ((w.alloc (.cells C 80)).alloc (.cells #[x.l, .bool x.sh, .int .u64 x.lg, .int .u64 x.ls, .int .u64 x.la, .int .u64 x.tp, .bool false, .int .u64 0, .int .u64 0, .int .u64 0, .int .u64 0] 106)).drew.cell? ⟨w.heap.size + 1, 4, none⟩ = some (.int .u64 x.la) := (cell_of_row _ _ _ _ _ _ (heap_alloc2_new w _ _)).trans rfl
  have k2 : ((w.alloc (.cells C 80)).alloc (.cells #[x.l, .bool x.sh, .int .u64 x.lg, .int .u64 x.ls, .int .u64 x.la, .int .u64 x.tp, .bool false, .int .u64 0, .int .u64 0, .int .u64 0, .int .u64 0] 106)).drew.cell? ⟨w.heap.size + 1, 6, none⟩ = some (.bool false) := (cell_of_row _ _ _ _ _ _ (heap_alloc2_new w _ _)).trans rfl
  have k3 : ((w.alloc (.cells C 80)).alloc (.cells #[x.l, .bool x.sh, .int .u64 x.lg, .int .u64 x.ls, .int .u64 x.la, .int .u64 x.tp, .bool false, .int .u64 0, .int .u64 0, .int .u64 0, .int .u64 0] 106)).drew.cell? ⟨w.heap.size, 998, none⟩ = some (.bool s.done) := (cell_of_row _ _ _ _ _ _ (heap_alloc2_old w _ _)).trans d
  generalize ((w.alloc (.cells C 80)).alloc (.cells #[x.l, .bool x.sh, .int .u64 x.lg, .int .u64 x.ls, .int .u64 x.la, .int .u64 x.tp, .bool false, .int .u64 0, .int .u64 0, .int .u64 0, .int .u64 0] 106)).drew = W at HB1 k0 k1 k2 k3 ⊢
  clear s0 s6 s8 s9 s10 s11 s12 s13 r0 r1 r2 r3 r4 p d
  go_upto_region 5 with (fail)
  have hla := HLA.out
  obtain ⟨hp1, hp2⟩ := zpto_bd 0 s.pto (by omega)
  have hsum : IntKind.u64.wrap (x.la + RS.zero.pto 0 s.pto) = x.la + RS.zero.pto 0 s.pto := by rw [IntKind.wrap_u64]; omega
  go_region_held3 (fun W' => W'.cell? ⟨w.heap.size, 908, none⟩ = some (.int .u64 s.pto) ∧ W'.cell? ⟨w.heap.size + 1, 4, none⟩ = some (.int .u64 x.la) ∧ W'.cell? ⟨w.heap.size + 1, 6, none⟩ = some (.bool false) ∧ Below w.heap.size w W')
    (first | exact ⟨k0, k1, k2, HB1.out.drew⟩ | (go_split_ands; exact ⟨keepc (by assumption) hb1, keepc (by assumption) hb1, keepc (by assumption) hb1, keepb (by assumption) hb1⟩))
    (first | (go_at_call 9; refine (pto_off (w.heap.size + 1) 6 0 s.pto _ ?_ ?_ (by omega) HP.out).mono ?_; (assumption); (exact block_lt_of_cell (a := ⟨w.heap.size + 1, 6, none⟩) (v := .bool false) (by assumption)); rintro e w1 ⟨rfl, hb1⟩))
  go_wp2_with fail
  go_ret
  rename_i hHeld
  exact ⟨rfl, hHeld.2.2.2⟩
set_option maxHeartbeats 4000000 in
set_option maxRecDepth 100000 in
theorem pto_1 (C : Array Value) (s : St) (w : World) (h : StAt C s) (hp : (s.pto : Int) < 18446744073709551616) (hla : 0 ≤ (s.sp 1).la ∧ (s.sp 1).la ≤ 1000000) :
    Calls Try.prog 32 #[.agg C, .int .i64 1] w (Gives w (.int .u64 ((s.sp 1).la + RS.zero.pto 0 s.pto))) := by
  obtain ⟨s0, s6, s8, s9, s10, s11, s12, s13⟩ := h.sp 1 (by omega)
  have r0 := h.r0
  have r1 := h.r1
  have r2 := h.r2
  have r3 := h.r3
  have r4 := h.r4
  have p := h.p
  have d := h.d
  have HLA := Lib.hid hla
  have HP := Lib.hid hp
  clear h hla hp
  generalize s.sp 1 = x at s0 s6 s8 s9 s10 s11 s12 s13 HLA ⊢
  simp only [Nat.reduceAdd, Nat.reduceMul] at s0 s6 s8 s9 s10 s11 s12 s13
  go_enter Try.func32, Try.ntmps32
  go_upto_region 1 with (with_reducible refine at_box 80 C rfl ?_)
  refine region_tail 10 (by kernel_rfl) (by kernel_rfl) (fun W => W = (w.alloc (.cells C 80)).drew) rfl ?_
  intro W hW
  subst hW
  simp only [List.take_succ_cons, List.take_zero, List.drop_succ_cons, List.drop_zero]
  repeat still_step
  refine wpStill_nil ?_
  go_upto_region 2 with (fail)
  have HB1 := Lib.hid (show Below w.heap.size w ((w.alloc (.cells C 80)).alloc (.cells #[x.l, .bool x.sh, .int .u64 x.lg, .int .u64 x.ls, .int .u64 x.la, .int .u64 x.tp, .bool false, .int .u64 0, .int .u64 0, .int .u64 0, .int .u64 0] 106)).drew from (((Below.refl _ _).alloc (Nat.le_refl _) _).alloc (by simp) _).drew)
  have k0 : ((w.alloc (.cells C 80)).alloc (.cells #[x.l, .bool x.sh, .int .u64 x.lg, .int .u64 x.ls, .int .u64 x.la, .int .u64 x.tp, .bool false, .int .u64 0, .int .u64 0, .int .u64 0, .int .u64 0] 106)).drew.cell? ⟨w.heap.size, 908, none⟩ = some (.int .u64 s.pto) := (cell_of_row _ _ _ _ _ _ (heap_alloc2_old w _ _)).trans p
  have k1 : ((w.alloc (.cells C 80)).alloc (.cells #[x.l, .bool x.sh, .int .u64 x.lg, .int .u64 x.ls, .int .u64 x.la, .int .u64 x.tp, .bool false, .int .u64 0, .int .u64 0, .int .u64 0, .int .u64 0] 106)).drew.cell? ⟨w.heap.size + 1, 4, none⟩ = some (.int .u64 x.la) := (cell_of_row _ _ _ _ _ _ (heap_alloc2_new w _ _)).trans rfl
  have k2 : ((w.alloc (.cells C 80)).alloc (.cells #[x.l, .bool x.sh, .int .u64 x.lg, .int .u64 x.ls, .int .u64 x.la, .int .u64 x.tp, .bool false, .int .u64 0, .int .u64 0, .int .u64 0, .int .u64 0] 106)).drew.cell? ⟨w.heap.size + 1, 6, none⟩ = some (.bool false) := (cell_of_row _ _ _ _ _ _ (heap_alloc2_new w _ _)).trans rfl
  have k3 : ((w.alloc (.cells C 80)).alloc (.cells #[x.l, .bool x.sh, .int .u64 x.lg, .int .u64 x.ls, .int .u64 x.la, .int .u64 x.tp, .bool false, .int .u64 0, .int .u64 0, .int .u64 0, .int .u64 0] 106)).drew.cell? ⟨w.heap.size, 998, none⟩ = some (.bool s.done) := (cell_of_row _ _ _ _ _ _ (heap_alloc2_old w _ _)).trans d
  generalize ((w.alloc (.cells C 80)).alloc (.cells #[x.l, .bool x.sh, .int .u64 x.lg, .int .u64 x.ls, .int .u64 x.la, .int .u64 x.tp, .bool false, .int .u64 0, .int .u64 0, .int .u64 0, .int .u64 0] 106)).drew = W at HB1 k0 k1 k2 k3 ⊢
  clear s0 s6 s8 s9 s10 s11 s12 s13 r0 r1 r2 r3 r4 p d
  go_upto_region 5 with (fail)
  have hla := HLA.out
  obtain ⟨hp1, hp2⟩ := zpto_bd 0 s.pto (by omega)
  have hsum : IntKind.u64.wrap (x.la + RS.zero.pto 0 s.pto) = x.la + RS.zero.pto 0 s.pto := by rw [IntKind.wrap_u64]; omega
  go_region_held3 (fun W' => W'.cell? ⟨w.heap.size, 908, none⟩ = some (.int .u64 s.pto) ∧ W'.cell? ⟨w.heap.size + 1, 4, none⟩ = some (.int .u64 x.la) ∧ W'.cell? ⟨w.heap.size + 1, 6, none⟩ = some (.bool false) ∧ Below w.heap.size w W')
    (first | exact ⟨k0, k1, k2, HB1.out.drew⟩ | (go_split_ands; exact ⟨keepc (by assumption) hb1, keepc (by assumption) hb1, keepc (by assumption) hb1, keepb (by assumption) hb1⟩))
    (first | (go_at_call 9; refine (pto_off (w.heap.size + 1) 6 0 s.pto _ ?_ ?_ (by omega) HP.out).mono ?_; (assumption); (exact block_lt_of_cell (a := ⟨w.heap.size + 1, 6, none⟩) (v := .bool false) (by assumption)); rintro e w1 ⟨rfl, hb1⟩))
  go_wp2_with fail
  go_ret
  rename_i hHeld
  exact ⟨rfl, hHeld.2.2.2⟩
set_option maxHeartbeats 4000000 in
set_option maxRecDepth 100000 in
theorem pto_2f (C : Array Value) (s : St) (w : World) (h : StAt C s) (hp : (s.pto : Int) < 18446744073709551616) (hla : 0 ≤ (s.sp 2).la ∧ (s.sp 2).la ≤ 1000000) (hdn : s.done = false) :
    Calls Try.prog 32 #[.agg C, .int .i64 2] w (Gives w (.int .u64 ((s.sp 2).la + RS.zero.pto 0 s.pto))) := by
  obtain ⟨s0, s6, s8, s9, s10, s11, s12, s13⟩ := h.sp 2 (by omega)
  have r0 := h.r0
  have r1 := h.r1
  have r2 := h.r2
  have r3 := h.r3
  have r4 := h.r4
  have p := h.p
  have d := h.d
  rw [hdn] at d
  have HLA := Lib.hid hla
  have HP := Lib.hid hp
  clear h hla hp
  generalize s.sp 2 = x at s0 s6 s8 s9 s10 s11 s12 s13 HLA ⊢
  simp only [Nat.reduceAdd, Nat.reduceMul] at s0 s6 s8 s9 s10 s11 s12 s13
  go_enter Try.func32, Try.ntmps32
  go_upto_region 1 with (with_reducible refine at_box 80 C rfl ?_)
  refine region_tail 10 (by kernel_rfl) (by kernel_rfl) (fun W => W = (w.alloc (.cells C 80)).drew) rfl ?_
  intro W hW
  subst hW
  simp only [List.take_succ_cons, List.take_zero, List.drop_succ_cons, List.drop_zero]
  repeat still_step
  refine wpStill_nil ?_
  go_upto_region 2 with (fail)
  have HB1 := Lib.hid (show Below w.heap.size w ((w.alloc (.cells C 80)).alloc (.cells #[x.l, .bool x.sh, .int .u64 x.lg, .int .u64 x.ls, .int .u64 x.la, .int .u64 x.tp, .bool false, .int .u64 0, .int .u64 0, .int .u64 0, .int .u64 0] 106)).drew from (((Below.refl _ _).alloc (Nat.le_refl _) _).alloc (by simp) _).drew)
  have k0 : ((w.alloc (.cells C 80)).alloc (.cells #[x.l, .bool x.sh, .int .u64 x.lg, .int .u64 x.ls, .int .u64 x.la, .int .u64 x.tp, .bool false, .int .u64 0, .int .u64 0, .int .u64 0, .int .u64 0] 106)).drew.cell? ⟨w.heap.size, 908, none⟩ = some (.int .u64 s.pto) := (cell_of_row _ _ _ _ _ _ (heap_alloc2_old w _ _)).trans p
  have k1 : ((w.alloc (.cells C 80)).alloc (.cells #[x.l, .bool x.sh, .int .u64 x.lg, .int .u64 x.ls, .int .u64 x.la, .int .u64 x.tp, .bool false, .int .u64 0, .int .u64 0, .int .u64 0, .int .u64 0] 106)).drew.cell? ⟨w.heap.size + 1, 4, none⟩ = some (.int .u64 x.la) := (cell_of_row _ _ _ _ _ _ (heap_alloc2_new w _ _)).trans rfl
  have k2 : ((w.alloc (.cells C 80)).alloc (.cells #[x.l, .bool x.sh, .int .u64 x.lg, .int .u64 x.ls, .int .u64 x.la, .int .u64 x.tp, .bool false, .int .u64 0, .int .u64 0, .int .u64 0, .int .u64 0] 106)).drew.cell? ⟨w.heap.size + 1, 6, none⟩ = some (.bool false) := (cell_of_row _ _ _ _ _ _ (heap_alloc2_new w _ _)).trans rfl
  have k3 : ((w.alloc (.cells C 80)).alloc (.cells #[x.l, .bool x.sh, .int .u64 x.lg, .int .u64 x.ls, .int .u64 x.la, .int .u64 x.tp, .bool false, .int .u64 0, .int .u64 0, .int .u64 0, .int .u64 0] 106)).drew.cell? ⟨w.heap.size, 998, none⟩ = some (.bool false) := (cell_of_row _ _ _ _ _ _ (heap_alloc2_old w _ _)).trans d
  generalize ((w.alloc (.cells C 80)).alloc (.cells #[x.l, .bool x.sh, .int .u64 x.lg, .int .u64 x.ls, .int .u64 x.la, .int .u64 x.tp, .bool false, .int .u64 0, .int .u64 0, .int .u64 0, .int .u64 0] 106)).drew = W at HB1 k0 k1 k2 k3 ⊢
  clear s0 s6 s8 s9 s10 s11 s12 s13 r0 r1 r2 r3 r4 p d
  go_upto_region 5 with (fail)
  have hla := HLA.out
  obtain ⟨hp1, hp2⟩ := zpto_bd 0 s.pto (by omega)
  have hsum : IntKind.u64.wrap (x.la + RS.zero.pto 0 s.pto) = x.la + RS.zero.pto 0 s.pto := by rw [IntKind.wrap_u64]; omega
  go_region_held3 (fun W' => W'.cell? ⟨w.heap.size, 908, none⟩ = some (.int .u64 s.pto) ∧ W'.cell? ⟨w.heap.size + 1, 4, none⟩ = some (.int .u64 x.la) ∧ W'.cell? ⟨w.heap.size + 1, 6, none⟩ = some (.bool false) ∧ Below w.heap.size w W')
    (first | exact ⟨k0, k1, k2, HB1.out.drew⟩ | (go_split_ands; exact ⟨keepc (by assumption) hb1, keepc (by assumption) hb1, keepc (by assumption) hb1, keepb (by assumption) hb1⟩))
    (first | (go_at_call 9; refine (pto_off (w.heap.size + 1) 6 0 s.pto _ ?_ ?_ (by omega) HP.out).mono ?_; (assumption); (exact block_lt_of_cell (a := ⟨w.heap.size + 1, 6, none⟩) (v := .bool false) (by assumption)); rintro e w1 ⟨rfl, hb1⟩))
  go_wp2_with fail
  go_ret
  rename_i hHeld
  exact ⟨rfl, hHeld.2.2.2⟩
set_option maxHeartbeats 4000000 in
set_option maxRecDepth 100000 in
theorem pto_2t (C : Array Value) (s : St) (w : World) (h : StAt C s) (hp : (s.pto : Int) < 18446744073709551616) (hla : 0 ≤ (s.sp 2).la ∧ (s.sp 2).la ≤ 1000000) (hdn : s.done = true) :
    Calls Try.prog 32 #[.agg C, .int .i64 2] w (Gives w (.int .u64 ((s.sp 2).la + RS.zero.pto 25000 s.pto))) := by
  obtain ⟨s0, s6, s8, s9, s10, s11, s12, s13⟩ := h.sp 2 (by omega)
  have r0 := h.r0
  have r1 := h.r1
  have r2 := h.r2
  have r3 := h.r3
  have r4 := h.r4
  have p := h.p
  have d := h.d
  rw [hdn] at d
  have HLA := Lib.hid hla
  have HP := Lib.hid hp
  clear h hla hp
  generalize s.sp 2 = x at s0 s6 s8 s9 s10 s11 s12 s13 HLA ⊢
  simp only [Nat.reduceAdd, Nat.reduceMul] at s0 s6 s8 s9 s10 s11 s12 s13
  go_enter Try.func32, Try.ntmps32
  go_upto_region 1 with (with_reducible refine at_box 80 C rfl ?_)
  refine region_tail 10 (by kernel_rfl) (by kernel_rfl) (fun W => W = (w.alloc (.cells C 80)).drew) rfl ?_
  intro W hW
  subst hW
  simp only [List.take_succ_cons, List.take_zero, List.drop_succ_cons, List.drop_zero]
  repeat still_step
  refine wpStill_nil ?_
  go_upto_region 2 with (fail)
  have HB1 := Lib.hid (show Below w.heap.size w ((w.alloc (.cells C 80)).alloc (.cells #[x.l, .bool x.sh, .int .u64 x.lg, .int .u64 x.ls, .int .u64 x.la, .int .u64 x.tp, .bool false, .int .u64 0, .int .u64 0, .int .u64 0, .int .u64 0] 106)).drew from (((Below.refl _ _).alloc (Nat.le_refl _) _).alloc (by simp) _).drew)
  have k0 : ((w.alloc (.cells C 80)).alloc (.cells #[x.l, .bool x.sh, .int .u64 x.lg, .int .u64 x.ls, .int .u64 x.la, .int .u64 x.tp, .bool false, .int .u64 0, .int .u64 0, .int .u64 0, .int .u64 0] 106)).drew.cell? ⟨w.heap.size, 908, none⟩ = some (.int .u64 s.pto) := (cell_of_row _ _ _ _ _ _ (heap_alloc2_old w _ _)).trans p
  have k1 : ((w.alloc (.cells C 80)).alloc (.cells #[x.l, .bool x.sh, .int .u64 x.lg, .int .u64 x.ls, .int .u64 x.la, .int .u64 x.tp, .bool false, .int .u64 0, .int .u64 0, .int .u64 0, .int .u64 0] 106)).drew.cell? ⟨w.heap.size + 1, 4, none⟩ = some (.int .u64 x.la) := (cell_of_row _ _ _ _ _ _ (heap_alloc2_new w _ _)).trans rfl
  have k2 : ((w.alloc (.cells C 80)).alloc (.cells #[x.l, .bool x.sh, .int .u64 x.lg, .int .u64 x.ls, .int .u64 x.la, .int .u64 x.tp, .bool false, .int .u64 0, .int .u64 0, .int .u64 0, .int .u64 0] 106)).drew.cell? ⟨w.heap.size + 1, 6, none⟩ = some (.bool false) := (cell_of_row _ _ _ _ _ _ (heap_alloc2_new w _ _)).trans rfl
  have k3 : ((w.alloc (.cells C 80)).alloc (.cells #[x.l, .bool x.sh, .int .u64 x.lg, .int .u64 x.ls, .int .u64 x.la, .int .u64 x.tp, .bool false, .int .u64 0, .int .u64 0, .int .u64 0, .int .u64 0] 106)).drew.cell? ⟨w.heap.size, 998, none⟩ = some (.bool true) := (cell_of_row _ _ _ _ _ _ (heap_alloc2_old w _ _)).trans d
  generalize ((w.alloc (.cells C 80)).alloc (.cells #[x.l, .bool x.sh, .int .u64 x.lg, .int .u64 x.ls, .int .u64 x.la, .int .u64 x.tp, .bool false, .int .u64 0, .int .u64 0, .int .u64 0, .int .u64 0] 106)).drew = W at HB1 k0 k1 k2 k3 ⊢
  clear s0 s6 s8 s9 s10 s11 s12 s13 r0 r1 r2 r3 r4 p d
  go_upto_region 5 with (fail)
  have hla := HLA.out
  obtain ⟨hp1, hp2⟩ := zpto_bd 25000 s.pto (by omega)
  have hsum : IntKind.u64.wrap (x.la + RS.zero.pto 25000 s.pto) = x.la + RS.zero.pto 25000 s.pto := by rw [IntKind.wrap_u64]; omega
  go_region_held3 (fun W' => W'.cell? ⟨w.heap.size, 908, none⟩ = some (.int .u64 s.pto) ∧ W'.cell? ⟨w.heap.size + 1, 4, none⟩ = some (.int .u64 x.la) ∧ W'.cell? ⟨w.heap.size + 1, 6, none⟩ = some (.bool false) ∧ Below w.heap.size w W')
    (first | exact ⟨k0, k1, k2, HB1.out.drew⟩ | (go_split_ands; exact ⟨keepc (by assumption) hb1, keepc (by assumption) hb1, keepc (by assumption) hb1, keepb (by assumption) hb1⟩))
    (first | (go_at_call 9; refine (pto_off (w.heap.size + 1) 6 25000 s.pto _ ?_ ?_ (by omega) HP.out).mono ?_; (assumption); (exact block_lt_of_cell (a := ⟨w.heap.size + 1, 6, none⟩) (v := .bool false) (by assumption)); rintro e w1 ⟨rfl, hb1⟩))
  go_wp2_with fail
  go_ret
  rename_i hHeld
  exact ⟨rfl, hHeld.2.2.2⟩
theorem pto_any (C : Array Value) (s : St) (n : Nat) (w : World) (h : StAt C s) (hn : n < 3) (hp : (s.pto : Int) < 18446744073709551616) (hla : 0 ≤ (s.sp n).la ∧ (s.sp n).la ≤ 1000000) :
    Calls Try.prog 32 #[.agg C, .int .i64 n] w (Gives w (.int .u64 (s.ptoAt n))) := by
  have hn3 : n = 0 ∨ n = 1 ∨ n = 2 := by omega
  unfold St.ptoAt
  rcases hn3 with rfl | rfl | rfl
  · rw [if_neg (by simp)]; exact pto_0 C s w h hp hla
  · rw [if_neg (by simp)]; exact pto_1 C s w h hp hla
  · cases hd : s.done
    · rw [if_neg (by simp)]; exact pto_2f C s w h hp hla hd
    · rw [if_pos (by simp)]; exact pto_2t C s w h hp hla hd
end Go.Proofs.Ytbmfjffccfmhmaa
