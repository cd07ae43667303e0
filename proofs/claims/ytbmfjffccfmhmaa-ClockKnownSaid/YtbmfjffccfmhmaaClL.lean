import Derived.Test.YtbmfjffccfmhmaaClK
namespace Go.Proofs.Ytbmfjffccfmhmaa
open Go.ChangeShapes Go.WideShapes Go.ChangeAt Go.RowKit

set_option maxRecDepth 100000 in
/-- The next time of a state is this. -/
theorem is_any (C : Array Value) (s : St) (t : T3) (w : World) (h : Asked C s w) (hn : nextOf s = (t, true)) : Calls Try.prog 14 #[.agg C, .int .u64 t.at_, .int .u8 t.kind, .int .u8 t.sp] w (Gives w (.bool true)) := by
  have H : Kpt _ := ⟨h⟩
  have hc := next_any C s
  rw [hn] at hc
  have HC : Kpt _ := ⟨hc⟩
  clear h hn hc
  go_enter Try.func14, Try.ntmps14
  go_upto_region 1 with (with_reducible refine at_box 80 C rfl ?_)
  have C0 : Hid ((w.alloc (.cells C 80)).heap[w.heap.size]? = some (.cells C 80 (0, 0))) := Lib.hid (heap_alloc_last w _)
  have B0 : Hid (Below w.heap.size w (w.alloc (.cells C 80))) := Lib.hid ((Below.refl _ _).alloc (Nat.le_refl _) _)
  have S0 : Hid (w.heap.size ≤ (w.alloc (.cells C 80)).heap.size) := Lib.hid (by simp)
  generalize w.alloc (.cells C 80) = w0 at C0 B0 S0 ⊢
  go_upto_region 2 with (first
    | ((with_reducible refine at_load_row 80 w.heap.size 80 C C0.out _ U80 rfl ?_ ?_ ?_); (· rw [size80, H.out.at_.size]); (· rfl))
    | (go_at_call 12; refine (HC.out _ (H.out.below B0.out)).mono ?_; rintro e w1 ⟨rfl, hb⟩; unfold T3.val; have B1 := Lib.hid (B0.out.trans (hb.mono B0.out.size)); clear hb))
  go_wp2_with fail
  go_ret
  exact ⟨rfl, B1.out.alloc B1.out.size _⟩

theorem late_any (t : T3) (now : Int) (b : Nat) (w : World) (hb : w.cell? ⟨b, 0, none⟩ = some (.int .u64 now)) : Calls Try.prog 24 #[t.val, .pointer (some ⟨b, 0, none⟩)] w (Gives w (.bool (decide (now < t.at_)))) := by
  have hlt := block_lt_of_cell hb
  unfold T3.val
  go_enter Try.func24, Try.ntmps24
  go_wp2_with fail
  go_ret
  exact ⟨rfl, (Below.refl _ _).alloc (Nat.le_refl _) _⟩
set_option maxRecDepth 100000 in
theorem find_late (t : T3) (now : Int) (b g c : Nat) (w : World) (hb : w.cell? ⟨b, 0, none⟩ = some (.int .u64 now)) (ht : TAt w g [t]) :
    Calls Try.prog 30 #[.slice (some ⟨g, 0, none⟩) 1 c, .func (.func 24) #[] #[.pointer (some ⟨b, 0, none⟩)]] w (Gives w (.int .i64 (if now < t.at_ then 0 else -1))) := by
  obtain ⟨x0, x1, x2⟩ := ht.2 0 (by simp)
  simp only [List.getElem_cons_zero, Nat.zero_mul, Nat.zero_add] at x0 x1 x2
  have HB := Lib.hid hb
  clear ht hb
  by_cases hc : now < t.at_
  · rw [if_pos hc]
    have hd : decide (now < t.at_) = true := decide_eq_true hc
    have HD := Lib.hid hd
    clear hc hd
    go_enter Try.func30, Try.ntmps30
    go_wp2_with fail
    refine wp_loop_rounds 1 ?_
    rw [rounds_succ]
    go_wp2_with (go_at_call 24; refine (late_any t now b _ HB.out).mono ?_; rw [HD.out]; rintro e w1 ⟨rfl, hb1⟩)
    go_ret
    exact ⟨rfl, hb1⟩
  · rw [if_neg hc]
    have hd : decide (now < t.at_) = false := decide_eq_false hc
    have HD := Lib.hid hd
    clear hc hd
    go_enter Try.func30, Try.ntmps30
    go_wp2_with fail
    refine wp_loop_rounds 2 ?_
    rw [rounds_succ]
    go_wp2_with (go_at_call 24; refine (late_any t now b _ HB.out).mono ?_; rw [HD.out]; rintro e w1 ⟨rfl, hb1⟩)
    rw [rounds_succ]
    go_wp2_with fail
    go_ret
    exact ⟨rfl, hb1⟩
end Go.Proofs.Ytbmfjffccfmhmaa
