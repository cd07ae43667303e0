import Derived.Test.YtbmfjffccfmhmaaClC
namespace Go.Proofs.Ytbmfjffccfmhmaa
open Go.ChangeShapes Go.WideShapes Go.ChangeAt Go.RowKit

structure T3 where
  at_ : Int
  kind : Int
  sp : Int
def T3.cells (t : T3) : List Value := [.int .u64 t.at_, .int .u8 t.kind, .int .u8 t.sp]
def T3.val (t : T3) : Value := .agg #[.int .u64 t.at_, .int .u8 t.kind, .int .u8 t.sp]
def TBlk (w : World) (b : Nat) (t : T3) : Prop := w.heap[b]? = some (.cells #[.int .u64 t.at_, .int .u8 t.kind, .int .u8 t.sp] 83 (0, 0))
/-- A slice whose elements are these times. -/
def TAt (w : World) (b : Nat) (l : List T3) : Prop := b < w.heap.size ∧ ∀ (i : Nat) (h : i < l.length), w.cell? ⟨b, i * 3, none⟩ = some (.int .u64 l[i].at_) ∧ w.cell? ⟨b, i * 3 + 1, none⟩ = some (.int .u8 l[i].kind) ∧ w.cell? ⟨b, i * 3 + 2, none⟩ = some (.int .u8 l[i].sp)
theorem TAt.below {w w' : World} {b : Nat} {l : List T3} (h : TAt w b l) (hb : Below w.heap.size w w') : TAt w' b l :=
  ⟨Nat.lt_of_lt_of_le h.1 hb.size, fun i hi => by obtain ⟨a, c, d⟩ := h.2 i hi; exact ⟨(hb.cell (p := ⟨b, i * 3, none⟩) h.1).trans a, (hb.cell (p := ⟨b, i * 3 + 1, none⟩) h.1).trans c, (hb.cell (p := ⟨b, i * 3 + 2, none⟩) h.1).trans d⟩⟩
def least (m : T3) : List T3 → T3
  | [] => m
  | t :: r => least (if t.at_ < m.at_ then t else m) r
theorem least_snoc (t : T3) : ∀ (l : List T3) (m : T3), least m (l ++ [t]) = if t.at_ < (least m l).at_ then t else least m l
  | [], m => rfl
  | x :: r, m => by rw [List.cons_append, least, least, least_snoc t r]
def MinRel (w : World) (x : T3) (r : List T3) (q : Nat) (i : Value) (wr : World) : Prop :=
  ∃ k : Nat, k ≤ r.length ∧ k + q = r.length ∧ i = .int .i64 (k + 1 : Nat) ∧ Below w.heap.size w wr ∧ w.heap.size + 1 < wr.heap.size ∧ TBlk wr (w.heap.size + 1) (least x (r.take k)) ∧ TBlk wr w.heap.size ⟨0, 0, 0⟩
theorem U83 : Try.prog.underlying 83 = some (.struct (match Try.prog.underlying 83 with | some (.struct fs) => fs | _ => #[])) := by kernel_rfl
set_option maxHeartbeats 2000000 in
set_option maxRecDepth 100000 in
theorem min_any (b cap : Nat) (x : T3) (r : List T3) (w : World) (h : TAt w b (x :: r)) (hl : r.length < 4611686018427387904) :
    Calls Try.prog 20 #[.slice (some ⟨b, 0, none⟩) (r.length + 1) cap, .func (.func 21) #[] #[]] w (Gives w (least x r).val) := by
  have H := Lib.hid h
  obtain ⟨x0, x1, x2⟩ := h.2 0 (by simp)
  simp only [List.getElem_cons_zero, Nat.zero_mul, Nat.zero_add] at x0 x1 x2
  have hlt := h.1
  clear h
  go_enter Try.func20, Try.ntmps20
  go_wp2_with fail
  have T0 : Hid (MinRel w x r r.length (.int .i64 1) ((w.alloc (.cells #[.int .u64 0, .int .u8 0, .int .u8 0] 83)).alloc (.cells #[.int .u64 x.at_, .int .u8 x.kind, .int .u8 x.sp] 83))) :=
    Lib.hid ⟨0, by omega, by omega, rfl, ((Below.refl _ _).alloc (Nat.le_refl _) _).alloc (by simp) _, by simp, heap_alloc2_new w _ _, heap_alloc2_old w _ _⟩
  clear x0 x1 x2
  go_loopg [6] r.length (fun q i wr => MinRel w x r q i wr)
  case atStart => exact T0.out
  case round =>
    obtain ⟨k, hk, hkq, rfl, hb, hz, hm, hc0⟩ := hrel
    have HB := Lib.hid hb
    have HM := Lib.hid hm
    have HC := Lib.hid hc0
    have HZ := Lib.hid hz
    have m0 : wr.cell? ⟨w.heap.size + 1, 0, none⟩ = some (.int .u64 (least x (r.take k)).at_) := by rw [cell_of_row _ _ _ _ _ _ hm]; rfl
    have m1 : wr.cell? ⟨w.heap.size + 1, 1, none⟩ = some (.int .u8 (least x (r.take k)).kind) := by rw [cell_of_row _ _ _ _ _ _ hm]; rfl
    have m2 : wr.cell? ⟨w.heap.size + 1, 2, none⟩ = some (.int .u8 (least x (r.take k)).sp) := by rw [cell_of_row _ _ _ _ _ _ hm]; rfl
    generalize hL : least x (r.take k) = L at m0 m1 m2
    have HL := Lib.hid hL
    clear hb hm hc0 hz hL T0
    by_cases hlt' : k < r.length
    · obtain ⟨x0, x1, x2⟩ := (H.out.below HB.out).2 (k + 1) (by simp; omega)
      simp only [List.getElem_cons_succ] at x0 x1 x2
      go_wp2_with fail
      refine region_tail 6 (by kernel_rfl) (by kernel_rfl) (fun W => Below w.heap.size w W ∧ W.heap = wr.heap) ⟨HB.out.drew, rfl⟩ ?_
      intro W hW
      obtain ⟨hbW, hh⟩ := hW
      have y0 := (cell_heap hh _).trans x0
      have y1 := (cell_heap hh _).trans x1
      have y2 := (cell_heap hh _).trans x2
      have n0 := (cell_heap hh _).trans m0
      have n1 := (cell_heap hh _).trans m1
      have n2 := (cell_heap hh _).trans m2
      have hz2 := HZ.out
      have hlt2 : b < W.heap.size := by rw [hh]; have := HB.out.size; omega
      have HH := Lib.hid hh
      have HBW := Lib.hid hbW
      have HZW := Lib.hid (show w.heap.size + 1 < W.heap.size by rw [hh]; omega)
      clear x0 x1 x2 m0 m1 m2 hh hbW hz2
      simp only [List.take_succ_cons, List.take_zero, List.drop_succ_cons, List.drop_zero]
      have i0 : (0 : Int) ≤ (k : Int) + 1 := by omega
      have i1 : (k : Int) + 1 < (r.length : Int) + 1 := by omega
      have i2 : ((k : Int) + 1).toNat = k + 1 := by omega
      have i3 : (k : Int) < r.length := by omega
      repeat still_step
      refine wpStill_nil ?_
      clear i0 i1 i2 i3
      go_wp2_with fail
      refine (byAt_any _ _ _ _ _ _ _).mono ?_
      rintro e w1 ⟨rfl, hb1⟩
      obtain ⟨hc, hf⟩ := (⟨fun b o h => hb1.cell (p := ⟨b, o, none⟩) h, fun b o h => hb1.frozen (p := ⟨b, o, none⟩) h⟩ : (∀ b o, b < W.heap.size → w1.cell? ⟨b, o, none⟩ = W.cell? ⟨b, o, none⟩) ∧ (∀ b o, b < W.heap.size → w1.frozen? ⟨b, o, none⟩ = W.frozen? ⟨b, o, none⟩))
      have z0 := (hc b _ hlt2).trans y0
      have z1 := (hc b _ hlt2).trans y1
      have z2 := (hc b _ hlt2).trans y2
      have HM1 : Hid (TBlk w1 (w.heap.size + 1) (least x (r.take k))) := Lib.hid ((hb1.block _ HZW.out).trans (by rw [HH.out]; exact HM.out))
      have HC1 : Hid (TBlk w1 w.heap.size ⟨0, 0, 0⟩) := Lib.hid ((hb1.block _ (by have := HZW.out; omega)).trans (by rw [HH.out]; exact HC.out))
      have HB1 := Lib.hid (HBW.out.trans (hb1.mono HBW.out.size))
      have HZ1 := Lib.hid (Nat.lt_of_lt_of_le HZW.out hb1.size)
      clear hb1 hc hf y0 y1 y2 n0 n1 n2
      have f0 : w1.cell? ⟨w.heap.size + 1, 0, none⟩ = some (.int .u64 L.at_) := by rw [cell_of_row _ _ _ _ _ _ HM1.out, HL.out]; rfl
      have f1 : w1.cell? ⟨w.heap.size + 1, 1, none⟩ = some (.int .u8 L.kind) := by rw [cell_of_row _ _ _ _ _ _ HM1.out, HL.out]; rfl
      have f2 : w1.cell? ⟨w.heap.size + 1, 2, none⟩ = some (.int .u8 L.sp) := by rw [cell_of_row _ _ _ _ _ _ HM1.out, HL.out]; rfl
      have g0 : w1.frozen? ⟨w.heap.size + 1, 0, none⟩ = false := frozen_of_row _ _ _ _ _ HM1.out
      have g1 : w1.frozen? ⟨w.heap.size + 1, 1, none⟩ = false := frozen_of_row _ _ _ _ _ HM1.out
      have g2 : w1.frozen? ⟨w.heap.size + 1, 2, none⟩ = false := frozen_of_row _ _ _ _ _ HM1.out
      have htk : r.take (k + 1) = r.take k ++ [r[k]] := by rw [List.take_succ_eq_append_getElem hlt']
      have HT := Lib.hid htk
      clear htk
      by_cases hc : r[k].at_ < L.at_
      · rw [show cmp3 r[k].at_ L.at_ = -1 from if_pos hc]
        have HCC := Lib.hid hc
        clear hc
        go_wp2_with fail
        go_roundg (gk - 1)
        case measure => omega
        case rel =>
          refine ⟨k + 1, by omega, by omega, by go_num, ((HB1.out.setCell (by simp) _).setCell (by simp) _).setCell (by simp) _, by simpa using HZ1.out, ?_, ?_⟩
          · rw [HT.out, least_snoc, HL.out, if_pos HCC.out]
            exact blk_set (blk_set (blk_set HM1.out 0 _) 1 _) 2 _
          · unfold TBlk
            rw [heap_setCell_other _ _ _ _ (by simp), heap_setCell_other _ _ _ _ (by simp), heap_setCell_other _ _ _ _ (by simp)]
            exact HC1.out
      · have h3 : ¬ cmp3 r[k].at_ L.at_ < 0 := by unfold cmp3; rw [if_neg hc]; split <;> omega
        generalize cmp3 r[k].at_ L.at_ = cc at h3 ⊢
        have HCC := Lib.hid hc
        clear hc
        go_wp2_with fail
        go_roundg (gk - 1)
        case measure => omega
        case rel =>
          refine ⟨k + 1, by omega, by omega, by go_num, HB1.out, HZ1.out, ?_, HC1.out⟩
          rw [HT.out, least_snoc, HL.out, if_neg (by have := HCC.out; omega), ← HL.out]
          exact HM1.out
    · have hk2 : k = r.length := by omega
      have f0 : wr.cell? ⟨w.heap.size, 0, none⟩ = some (.int .u64 0) := by rw [cell_of_row _ _ _ _ _ _ HC.out]; rfl
      have f1 : wr.cell? ⟨w.heap.size, 1, none⟩ = some (.int .u8 0) := by rw [cell_of_row _ _ _ _ _ _ HC.out]; rfl
      have f2 : wr.cell? ⟨w.heap.size, 2, none⟩ = some (.int .u8 0) := by rw [cell_of_row _ _ _ _ _ _ HC.out]; rfl
      have g0 : wr.frozen? ⟨w.heap.size, 0, none⟩ = false := frozen_of_row _ _ _ _ _ HC.out
      have g1 : wr.frozen? ⟨w.heap.size, 1, none⟩ = false := frozen_of_row _ _ _ _ _ HC.out
      have g2 : wr.frozen? ⟨w.heap.size, 2, none⟩ = false := frozen_of_row _ _ _ _ _ HC.out
      have HK := Lib.hid hk2
      clear hk2
      go_wp2_with fail
      have hr : TBlk (((wr.setCell ⟨w.heap.size, 0, none⟩ (.int .u64 L.at_)).setCell ⟨w.heap.size, 1, none⟩ (.int .u8 L.kind)).setCell ⟨w.heap.size, 2, none⟩ (.int .u8 L.sp)) w.heap.size L := blk_set (blk_set (blk_set HC.out 0 _) 1 _) 2 _
      refine bodyPost_ret (v := L.val) (results_cell_row rfl _ _ w.heap.size 83 _ (0, 0) _ rfl hr U83 rfl (by kernel_rfl)) rfl ⟨?_, ((HB.out.setCell (by simp) _).setCell (by simp) _).setCell (by simp) _⟩
      rw [← HL.out, HK.out, List.take_length]
end Go.Proofs.Ytbmfjffccfmhmaa
