import Derived.Test.YtbmfjffccfmhmaaClJ
namespace Go.Proofs.Ytbmfjffccfmhmaa
open Go.ChangeShapes Go.WideShapes Go.ChangeAt Go.RowKit

/-- A state that the clock is asked of: its cells, its packets, its bounds. -/
structure Asked (C : Array Value) (s : St) (w : World) : Prop where
  at_ : StAt C s
  l : ∀ n, n < 3 → LAt w (s.sp n).l (s.sp n).q
  pto : (s.pto : Int) < 18446744073709551616
  la : ∀ n, n < 3 → 0 ≤ (s.sp n).la ∧ (s.sp n).la ≤ 1000000
theorem Asked.below {C : Array Value} {s : St} {w w' : World} (h : Asked C s w) (hb : Below w.heap.size w w') : Asked C s w' := ⟨h.at_, fun n hn => (h.l n hn).below hb, h.pto, h.la⟩
theorem all_any (C : Array Value) (s : St) (w : World) (h : Asked C s w) : Calls Try.prog 19 #[.agg C] w (TimesDoes w (allOf s)) := by
  unfold allOf
  by_cases h1 : s.phase = 3 ∨ s.phase = 4
  · rw [if_pos h1]; exact all_over C s w h.at_ h1
  · rw [if_neg h1]
    by_cases h2 : s.phase = 5
    · rw [if_pos h2]; exact all_dead C s w h.at_ h2
    · rw [if_neg h2]; exact all_live C s w h.at_ ⟨fun e => h1 (.inl e), fun e => h1 (.inr e), h2⟩ h.l h.pto h.la
theorem own_times {w : World} {base : Nat} {v : Value} {x : T3} {r : List T3} (h : w.ownsRow base 83 3 v (x :: r).length (flat (x :: r))) : ∃ b cap, base ≤ b ∧ v = .slice (some ⟨b, 0, none⟩) (r.length + 1) cap ∧ TAt w b (x :: r) := by
  have h0 := h
  obtain ⟨hl, hc⟩ := h
  rcases hc with ⟨-, h⟩ | ⟨g, cap, cur, rfl, hb, hg, -⟩
  · simp at h
  · refine ⟨g, cap, hb, by simp, lt_of_block hg, fun i hi => ?_⟩
    have key : ∀ (l : List T3) (i : Nat) (hi : i < l.length), (flat l)[i * 3]? = some (.int .u64 l[i].at_) ∧ (flat l)[i * 3 + 1]? = some (.int .u8 l[i].kind) ∧ (flat l)[i * 3 + 2]? = some (.int .u8 l[i].sp) := by
      intro l
      induction l with
      | nil => intro i hi; simp at hi
      | cons t r ih =>
        intro i hi
        cases i with
        | zero => simp [flat, T3.cells]
        | succ i =>
          have := ih i (by simpa using hi)
          have e : flat (t :: r) = .int .u64 t.at_ :: .int .u8 t.kind :: .int .u8 t.sp :: flat r := rfl
          rw [e, show (i + 1) * 3 = i * 3 + 1 + 1 + 1 by omega]
          simpa [List.getElem_cons_succ] using this
    obtain ⟨k0, k1, k2⟩ := key _ i hi
    have c := fun j hj => h0.cellAt (g := g) (cap := cap) j hj
    exact ⟨(c _ (by simp at hi ⊢; omega)).trans k0, (c _ (by simp at hi ⊢; omega)).trans k1, (c _ (by simp at hi ⊢; omega)).trans k2⟩
theorem three_cells (w : World) (B : Nat) (t : T3) (c : T3) (h : TBlk w B c) :
    (w.setCell ⟨B, 0, none⟩ (.int .u64 t.at_)).cell? ⟨B, 0, none⟩ = some (.int .u64 t.at_) ∧ ((w.setCell ⟨B, 0, none⟩ (.int .u64 t.at_)).setCell ⟨B, 1, none⟩ (.int .u8 t.kind)).cell? ⟨B, 1, none⟩ = some (.int .u8 t.kind) ∧
    (((w.setCell ⟨B, 0, none⟩ (.int .u64 t.at_)).setCell ⟨B, 1, none⟩ (.int .u8 t.kind)).setCell ⟨B, 2, none⟩ (.int .u8 t.sp)).cell? ⟨B, 2, none⟩ = some (.int .u8 t.sp) := by
  have h0 := blk_set h 0 (.int .u64 t.at_)
  have h1 := blk_set h0 1 (.int .u8 t.kind)
  have h2 := blk_set h1 2 (.int .u8 t.sp)
  exact ⟨(cell_of_row _ _ _ _ _ _ h0).trans rfl, (cell_of_row _ _ _ _ _ _ h1).trans rfl, (cell_of_row _ _ _ _ _ _ h2).trans rfl⟩
def nextOf (s : St) : T3 × Bool := match allOf s with
  | [] => (⟨0, 0, 0⟩, false)
  | x :: r => (least x r, true)
theorem allOf_len (s : St) : (allOf s).length < 100 := by
  have h1 := first_len s
  have h2 := ptosOf_len s
  have h3 := putL_len s 3 (fun n => (s.sp n).ls) 3
  have h4 := putL_len s 5 (fun n => (s.sp n).due) 3
  unfold allOf
  split
  · simp
  · split
    · simp
    · unfold St.before St.losses
      split <;> simp only [List.length_append] <;> omega
set_option maxHeartbeats 2000000 in
set_option maxRecDepth 100000 in
theorem next_any (C : Array Value) (s : St) (w : World) (h : Asked C s w) : Calls Try.prog 12 #[.agg C] w (Gives w (.tuple #[(nextOf s).1.val, .bool (nextOf s).2])) := by
  have H : Kpt _ := ⟨h⟩
  clear h
  go_enter Try.func12, Try.ntmps12
  go_upto_region 1 with (with_reducible refine at_box 80 C rfl ?_)
  have C0 : Hid (((w.alloc (.cells C 80)).alloc (.cells #[.int .u64 0, .int .u8 0, .int .u8 0] 83)).heap[w.heap.size]? = some (.cells C 80 (0, 0))) := Lib.hid (heap_alloc2_old w _ _)
  have D0 : Hid (((w.alloc (.cells C 80)).alloc (.cells #[.int .u64 0, .int .u8 0, .int .u8 0] 83)).heap[w.heap.size + 1]? = some (.cells #[.int .u64 0, .int .u8 0, .int .u8 0] 83 (0, 0))) := Lib.hid (heap_alloc2_new w _ _)
  have B0 : Hid (Below w.heap.size w ((w.alloc (.cells C 80)).alloc (.cells #[.int .u64 0, .int .u8 0, .int .u8 0] 83))) := Lib.hid (((Below.refl _ _).alloc (Nat.le_refl _) _).alloc (by simp) _)
  generalize (w.alloc (.cells C 80)).alloc (.cells #[.int .u64 0, .int .u8 0, .int .u8 0] 83) = w0 at C0 D0 B0 ⊢
  go_upto_region 2 with (first
    | ((with_reducible refine at_load_row 80 w.heap.size 80 C C0.out _ U80 rfl ?_ ?_ ?_); (· rw [size80, H.out.at_.size]); (· rfl))
    | (go_at_call 19; refine (all_any C s _ (H.out.below B0.out)).mono ?_; rintro e w1 ⟨v, rfl, ho, hb⟩))
  have D1 := Lib.hid ((hb.block _ (lt_of_block D0.out)).trans D0.out)
  have B1 := Lib.hid (B0.out.trans (hb.mono B0.out.size))
  have W1 := Lib.hid ho
  clear hb ho
  have d0 : w1.cell? ⟨w.heap.size + 1, 0, none⟩ = some (.int .u64 0) := (cell_of_row _ _ _ _ _ _ D1.out).trans rfl
  have d1 : w1.cell? ⟨w.heap.size + 1, 1, none⟩ = some (.int .u8 0) := (cell_of_row _ _ _ _ _ _ D1.out).trans rfl
  have d2 : w1.cell? ⟨w.heap.size + 1, 2, none⟩ = some (.int .u8 0) := (cell_of_row _ _ _ _ _ _ D1.out).trans rfl
  have f0 : w1.frozen? ⟨w.heap.size + 1, 0, none⟩ = false := frozen_of_row _ _ _ _ _ D1.out
  have f1 : w1.frozen? ⟨w.heap.size + 1, 1, none⟩ = false := frozen_of_row _ _ _ _ _ D1.out
  have f2 : w1.frozen? ⟨w.heap.size + 1, 2, none⟩ = false := frozen_of_row _ _ _ _ _ D1.out
  have HLEN := allOf_len s
  cases hl : allOf s with
  | nil =>
    rw [hl] at W1
    obtain ⟨oa, cap, rfl⟩ := own_slice W1.out
    simp only [List.length_nil]
    have HN := Lib.hid hl
    clear hl HLEN
    go_wp2_with fail
    obtain ⟨r0, r1, r2⟩ := three_cells w1 (w.heap.size + 1) ⟨0, 0, 0⟩ ⟨0, 0, 0⟩ D1.out
    refine bodyPost_ret (v := .tuple #[.agg #[.int .u64 0, .int .u8 0, .int .u8 0], .bool false]) (by simp [results, Try.results12, go_sem, r0, r1, r2]) rfl ⟨?_, ((B1.out.setCell (by simp) _).setCell (by simp) _).setCell (by simp) _⟩
    unfold nextOf
    rw [HN.out]
    rfl
  | cons x r =>
    rw [hl] at W1 HLEN
    obtain ⟨b, cap, -, rfl, ht⟩ := own_times W1.out
    have HT := Lib.hid ht
    have hr : (((r.length : Int) + 1) == 0) = false := by simp; omega
    simp only [List.length_cons] at HLEN
    have HN := Lib.hid hl
    clear hl ht
    go_wp2_with (go_at_call 20; refine (min_any b cap x r _ HT.out (by omega)).mono ?_; rintro e w2 ⟨rfl, hb2⟩; unfold T3.val; have D2 := Lib.hid ((hb2.block _ (lt_of_block D1.out)).trans D1.out); have B2 := Lib.hid (B1.out.trans (hb2.mono B1.out.size)); clear hb2; have e0 : w2.cell? ⟨w.heap.size + 1, 0, none⟩ = some (.int .u64 0) := ((cell_of_row _ _ _ _ _ _ D2.out).trans rfl); have e1 : w2.cell? ⟨w.heap.size + 1, 1, none⟩ = some (.int .u8 0) := ((cell_of_row _ _ _ _ _ _ D2.out).trans rfl); have e2 : w2.cell? ⟨w.heap.size + 1, 2, none⟩ = some (.int .u8 0) := ((cell_of_row _ _ _ _ _ _ D2.out).trans rfl); have g0 : w2.frozen? ⟨w.heap.size + 1, 0, none⟩ = false := frozen_of_row _ _ _ _ _ D2.out; have g1 : w2.frozen? ⟨w.heap.size + 1, 1, none⟩ = false := frozen_of_row _ _ _ _ _ D2.out; have g2 : w2.frozen? ⟨w.heap.size + 1, 2, none⟩ = false := frozen_of_row _ _ _ _ _ D2.out)
    obtain ⟨r0, r1, r2⟩ := three_cells w2 (w.heap.size + 1) (least x r) ⟨0, 0, 0⟩ D2.out
    refine bodyPost_ret (v := .tuple #[.agg #[.int .u64 (least x r).at_, .int .u8 (least x r).kind, .int .u8 (least x r).sp], .bool true]) (by simp [results, Try.results12, go_sem, r0, r1, r2]) rfl ⟨?_, ((B2.out.setCell (by simp) _).setCell (by simp) _).setCell (by simp) _⟩
    unfold nextOf
    rw [HN.out]
    rfl
end Go.Proofs.Ytbmfjffccfmhmaa
