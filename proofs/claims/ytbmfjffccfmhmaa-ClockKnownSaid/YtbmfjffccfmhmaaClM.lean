import Derived.Test.YtbmfjffccfmhmaaClL
namespace Go.Proofs.Ytbmfjffccfmhmaa
open Go.ChangeShapes Go.WideShapes Go.ChangeAt Go.RowKit

theorem zero83 (w : World) : (zeroValue 83).run Try.prog w = .ok (.agg #[.int .u64 0, .int .u8 0, .int .u8 0]) w := by kernel_rfl
theorem run_clear_one (w : World) (ty : TypeId) (g c : Nat) (t : T3) (x0 : w.cell? ⟨g, 0, none⟩ = some (.int .u64 t.at_)) (x1 : w.cell? ⟨g, 1, none⟩ = some (.int .u8 t.kind)) (x2 : w.cell? ⟨g, 2, none⟩ = some (.int .u8 t.sp)) (hf : ∀ j, w.frozen? ⟨g, j, none⟩ = false) :
    (Builtin.clear_ #[87] ty #[.slice (some ⟨g, 0, none⟩) 1 c]).run Try.prog w = .ok (.tuple #[]) (w.setCells g 0 [.int .u64 0, .int .u8 0, .int .u8 0]) := by
  have hst := run_storeCells_cells (P := Try.prog) g 0 [.int .u64 0, .int .u8 0, .int .u8 0] 0 w (fun j hj => by
    have : j = 0 ∨ j = 1 ∨ j = 2 := by simp at hj; omega
    rcases this with rfl | rfl | rfl
    · simp [x0]
    · simp [x1]
    · simp [x2]) (fun j _ => by simpa using hf _) (by simp [Value.oneCell'])
  simp only [Nat.add_zero] at hst
  simp only [Builtin.clear_, run_underlying Try.underlying87, Sem.run_bind, Sem.run_pure, Result.andThen_ok, List.getElem?_toArray, List.getElem?_cons_zero, zero83]
  rw [show (Builtin.zeroCells (Value.agg #[.int .u64 0, .int .u8 0, .int .u8 0]).cells 1).toList = [.int .u64 0, .int .u8 0, .int .u8 0] from by kernel_rfl, hst]
  rfl
theorem cap_pos {w : World} {base : Nat} {oa : Option Addr} {n cap : Nat} {xs : List Value} (h : w.ownsRow base 83 3 (.slice oa (n + 1) cap) (n + 1) xs) : 1 ≤ cap := by
  rcases h.2 with ⟨h, -⟩ | ⟨g, cap', cur, h, -, -, hc, -⟩
  · simp at h
  · simp only [Value.slice.injEq] at h; omega
def LenDoes (base : Nat) (w : World) (n : Nat) (e : Ending) (w' : World) : Prop := ∃ oa cap, e = .returned (.slice oa n cap) ∧ Below base w w'
set_option maxRecDepth 100000 in
theorem strike_late (t : T3) (now : Int) (b g c base : Nat) (w : World) (hc : 1 ≤ c) (hb : w.cell? ⟨b, 0, none⟩ = some (.int .u64 now)) (ht : TAt w g [t]) (hg : base ≤ g) (hf : ∀ j, w.frozen? ⟨g, j, none⟩ = false) (hbw : base ≤ w.heap.size) :
    Calls Try.prog 23 #[.slice (some ⟨g, 0, none⟩) 1 c, .func (.func 24) #[] #[.pointer (some ⟨b, 0, none⟩)]] w (LenDoes base w (if now < t.at_ then 0 else 1)) := by
  have HF := Lib.hid (find_late t now b g c w hb ht)
  obtain ⟨x0, x1, x2⟩ := ht.2 0 (by simp)
  have hlt := ht.1
  simp only [List.getElem_cons_zero, Nat.zero_mul, Nat.zero_add] at x0 x1 x2
  have f0 := hf 0
  have f1 := hf 1
  have f2 := hf 2
  have HFR := Lib.hid hf
  clear ht hf
  by_cases hn : now < t.at_
  · rw [if_pos hn] at HF ⊢
    clear hn
    go_enter Try.func23, Try.ntmps23
    go_wp2_with (go_at_call 30; refine HF.out.mono ?_; rintro e w1 ⟨rfl, hb1⟩)
    obtain ⟨hc1, hf1⟩ := (⟨fun b o h => hb1.cell (p := ⟨b, o, none⟩) h, fun b o h => hb1.frozen (p := ⟨b, o, none⟩) h⟩ : (∀ b o, b < w.heap.size → w1.cell? ⟨b, o, none⟩ = w.cell? ⟨b, o, none⟩) ∧ (∀ b o, b < w.heap.size → w1.frozen? ⟨b, o, none⟩ = w.frozen? ⟨b, o, none⟩))
    have y0 := (hc1 g 0 hlt).trans x0
    have y1 := (hc1 g 1 hlt).trans x1
    have y2 := (hc1 g 2 hlt).trans x2
    have g0 := (hf1 g 0 hlt).trans f0
    have g1 := (hf1 g 1 hlt).trans f1
    have g2 := (hf1 g 2 hlt).trans f2
    have B1 := Lib.hid hb1
    have HFF : Hid (∀ j, w1.frozen? ⟨g, j, none⟩ = false) := Lib.hid (fun j => (hf1 g j hlt).trans (HFR.out j))
    clear hc1 hf1 x0 x1 x2 f0 f1 f2 hb1
    go_loopg [5, 6] 0 (fun q j i wr => j = .int .i64 0 ∧ i = .int .i64 1 ∧ wr = w1)
    case atStart => exact ⟨rfl, rfl, rfl⟩
    case round =>
      obtain ⟨rfl, rfl, rfl⟩ := hrel
      have hcl : ∀ ty, (Builtin.clear_ #[87] ty #[.slice (some ⟨g, 0, none⟩) 1 c]).run Try.prog wr = .ok (.tuple #[]) (wr.setCells g 0 [.int .u64 0, .int .u8 0, .int .u8 0]) := fun ty => run_clear_one wr ty g c t y0 y1 y2 HFF.out
      have hc0 : ¬ c = 0 := by omega
      go_wp2_with fail
      go_ret
      exact ⟨_, _, rfl, Below.setCells _ _ (B1.out.mono hbw) hg⟩
  · rw [if_neg hn] at HF ⊢
    clear hn
    go_enter Try.func23, Try.ntmps23
    go_wp2_with (go_at_call 30; refine HF.out.mono ?_; rintro e w1 ⟨rfl, hb1⟩)
    go_ret
    exact ⟨_, _, rfl, hb1.mono hbw⟩
set_option maxRecDepth 100000 in
theorem due_any (C : Array Value) (s : St) (t : T3) (now : Int) (w : World) (h : Asked C s w) (ha : allOf s = [t]) : Calls Try.prog 15 #[.agg C, .int .u64 now] w (LenDoes w.heap.size w (if now < t.at_ then 0 else 1)) := by
  have H : Kpt _ := ⟨h⟩
  have hc := all_any C s
  rw [ha] at hc
  have HC : Kpt _ := ⟨hc⟩
  clear h hc ha
  go_enter Try.func15, Try.ntmps15
  go_upto_region 1 with (with_reducible refine at_box 80 C rfl ?_)
  have C0 : Hid (((w.alloc (.cells C 80)).alloc (.cells #[.int .u64 now] 24)).heap[w.heap.size]? = some (.cells C 80 (0, 0))) := Lib.hid (heap_alloc2_old w _ _)
  have D0 : Hid (((w.alloc (.cells C 80)).alloc (.cells #[.int .u64 now] 24)).heap[w.heap.size + 1]? = some (.cells #[.int .u64 now] 24 (0, 0))) := Lib.hid (heap_alloc2_new w _ _)
  have B0 : Hid (Below w.heap.size w ((w.alloc (.cells C 80)).alloc (.cells #[.int .u64 now] 24))) := Lib.hid (((Below.refl _ _).alloc (Nat.le_refl _) _).alloc (by simp) _)
  generalize (w.alloc (.cells C 80)).alloc (.cells #[.int .u64 now] 24) = w0 at C0 D0 B0 ⊢
  go_wp2_with (first
    | ((with_reducible refine at_load_row 80 w.heap.size 80 C C0.out _ U80 rfl ?_ ?_ ?_); (· rw [size80, H.out.at_.size]); (· rfl))
    | (go_at_call 19; refine (HC.out _ (H.out.below B0.out)).mono ?_; rintro e w1 ⟨v, rfl, ho, hb⟩; obtain ⟨g, cap, hgb, rfl, ht⟩ := own_times ho; have W1 := Lib.hid ho; have T1 := Lib.hid ht; have G1 := Lib.hid hgb; have B1 := Lib.hid (B0.out.trans (hb.mono B0.out.size)); have D1 := Lib.hid ((hb.block _ (lt_of_block D0.out)).trans D0.out); clear ho ht hgb hb; simp only [List.length_nil, Nat.zero_add])
    | (go_at_call 23; refine (strike_late t now (w.heap.size + 1) g cap w.heap.size _ (cap_pos W1.out) ((cell_of_row _ _ _ _ _ _ D1.out).trans rfl) T1.out (Nat.le_trans B0.out.size G1.out) (fun j => W1.out.frozenAt j) B1.out.size).mono ?_; rintro e w2 ⟨oa, cap2, rfl, hb2⟩; have B2 := Lib.hid (B1.out.trans hb2); clear hb2))
  all_goals (go_ret; exact ⟨_, _, rfl, B2.out⟩)
end Go.Proofs.Ytbmfjffccfmhmaa
