import Derived.Test.YtbmfjffccfmhmaaRows
import Derived.WalkKit
import Derived.ProofKit
import Derived.OpenShut
import Derived.Outline
import Derived.Deep.QuietTactic
import Derived.BigQuiet
import Derived.StillTailTactics
import Derived.Below
import Derived.Laws.Build
import Derived.Laws.Rows
import Derived.Deep.Cut
import Derived.OneCell
import Derived.Lib.Hide
namespace Go.Proofs.Ytbmfjffccfmhmaa
open Go.ChangeShapes Go.WideShapes Go.ChangeAt Go.RowKit

def mnv (x y : Int) : Int := if y < x then y else x
def mxv (x y : Int) : Int := if x < y then y else x
theorem mnv_eq (x y : Int) : mnv x y = min x y := by unfold mnv; omega
theorem mxv_eq (x y : Int) : mxv x y = max x y := by unfold mxv; omega
theorem max2_int (k k' : IntKind) (x y : Int) : Builtin.max2 (.int k x) (.int k' y) = pure (.int k (mxv x y)) := by simp only [Builtin.max2, gt_iff_lt, mxv]
theorem min2_int (k k' : IntKind) (x y : Int) : Builtin.min2 (.int k x) (.int k' y) = pure (.int k (mnv x y)) := by simp only [Builtin.min2, mnv]
theorem max_two (ats : Array TypeId) (ty : TypeId) (a b : Value) : Builtin.max_ ats ty #[a, b] = (Builtin.max2 a b >>= fun s => pure s) := by simp only [Builtin.max_, List.foldlM_cons, List.foldlM_nil]
theorem min_two (ats : Array TypeId) (ty : TypeId) (a b : Value) : Builtin.min_ ats ty #[a, b] = (Builtin.min2 a b >>= fun s => pure s) := by simp only [Builtin.min_, List.foldlM_cons, List.foldlM_nil]
attribute [local go_sem] max2_int min2_int max_two min_two
theorem ret_int {k : IntKind} {a b : Int} (h : a = b) : Ending.returned (.int k a) = .returned (.int k b) := by rw [h]

theorem sample_nil (l d : Int) (w : World) :
    Calls Try.prog 7 #[.pointer none, .int .u64 l, .int .u64 d] w fun e w' => e = .returned (.tuple #[]) ∧ w' = w := by
  go_enter Try.func7, Try.ntmps7
  go_wp2
  refine bodyPost_ret (results_none rfl _ _ _) rfl ?_
  exact ⟨rfl, rfl⟩

theorem far_any (a b : Int) (w : World) (ha : 0 ≤ a) (hb : 0 ≤ b) (ha' : a ≤ 1099511627776) (hb' : b ≤ 1099511627776) :
    Calls Try.prog 16 #[.int .u64 a, .int .u64 b] w fun e w' => e = .returned (.int .u64 (mxv a b - mnv a b)) ∧ w' = w := by
  have b1 : mnv a b ≤ mxv a b := by rw [mnv_eq, mxv_eq]; omega
  have b2 : mxv a b ≤ 1099511627776 := by rw [mxv_eq]; omega
  have b3 : 0 ≤ mnv a b := by rw [mnv_eq]; omega
  go_enter Try.func16, Try.ntmps16
  go_wp2
  go_ret
  exact ⟨rfl, rfl⟩

theorem far_bd (a b : Int) (ha : 0 ≤ a) (hb : 0 ≤ b) (ha' : a ≤ 1099511627776) (hb' : b ≤ 1099511627776) : 0 ≤ mxv a b - mnv a b ∧ mxv a b - mnv a b ≤ 1099511627776 := by
  rw [mnv_eq, mxv_eq]; omega

structure RS where
  has : Bool
  la : Int
  mn : Int
  sm : Int
  vr : Int

def RS.blk (s : RS) : Obj := .cells #[.bool s.has, .int .u64 s.la, .int .u64 s.mn, .int .u64 s.sm, .int .u64 s.vr] 28 (0, 0)

def RttAt (w : World) (b : Nat) (s : RS) : Prop := w.heap[b]? = some s.blk

theorem RttAt.cells {w : World} {b : Nat} {s : RS} (h : RttAt w b s) :
    w.cell? ⟨b, 0, none⟩ = some (.bool s.has) ∧ w.cell? ⟨b, 1, none⟩ = some (.int .u64 s.la) ∧ w.cell? ⟨b, 2, none⟩ = some (.int .u64 s.mn) ∧ w.cell? ⟨b, 3, none⟩ = some (.int .u64 s.sm) ∧ w.cell? ⟨b, 4, none⟩ = some (.int .u64 s.vr) ∧
    w.frozen? ⟨b, 0, none⟩ = false ∧ w.frozen? ⟨b, 1, none⟩ = false ∧ w.frozen? ⟨b, 2, none⟩ = false ∧ w.frozen? ⟨b, 3, none⟩ = false ∧ w.frozen? ⟨b, 4, none⟩ = false := by
  have h' : w.heap[b]? = some s.blk := h
  simp [World.cell?, World.frozen?, h', RS.blk]

theorem blk_set {w : World} {b : Nat} {cs : Array Value} {t : TypeId} {fr : Nat × Nat} (h : w.heap[b]? = some (.cells cs t fr)) (i : Nat) (v : Value) :
    (w.setCell ⟨b, i, none⟩ v).heap[b]? = some (.cells (cs.set! i v) t fr) := by
  have hlt := lt_of_block h
  have h' : w.heap[b] = .cells cs t fr := by simpa [Array.getElem?_eq_getElem hlt] using h
  show (w.heap.modify b _)[b]? = _
  rw [Array.getElem?_eq_getElem (by simpa using hlt), Array.getElem_modify_self, h']
  rfl

/-- The state behind a sample, of numbers that are bounded already. -/
def RS.next (s : RS) (l d : Int) : RS :=
  let mn := mnv s.mn l
  let adj := if mn + d ≤ l then l - d else l
  ⟨true, l, mn, (7 * s.sm + adj) / 8, (3 * s.vr + (mxv s.sm adj - mnv s.sm adj)) / 4⟩
def RS.first (l : Int) : RS := ⟨true, l, l, l, l / 2⟩

theorem grown_set {w w' : World} {b i : Nat} {v : Value} (h : w.grownBy w' (some b)) : w.grownBy (w'.setCell ⟨b, i, none⟩ v) (some b) :=
  ⟨h.os, h.tape, h.output, by show w.heap.size ≤ (w'.setCell _ _).heap.size; simp [World.setCell]; exact h.size, fun k hk hne => by
    rw [Below.heap_setCell _ _ _ _ (fun e => hne (by rw [e]))]; exact h.block k hk hne⟩
theorem grown_drew {w w' : World} {b : Option Nat} (h : w.grownBy w' b) : w.grownBy w'.drew b := ⟨h.os, h.tape, h.output, h.size, h.block⟩
theorem grown_refl (w : World) (b : Option Nat) : w.grownBy w b := ⟨rfl, rfl, rfl, Nat.le_refl _, fun _ _ _ => rfl⟩

theorem region_tail {P : Program} {id : Nat} {Q : Exit → Act → World → Prop} {a : Act} {w : World} {l : List Oper} (n : Nat) (hm : P.follows .mixedOrders = true) (hB : Region.lexTailB .any l.toArray n = true)
    (R : World → Prop) (hr : R w.drew) (h : ∀ W, R W → wpStill P l.toArray W (fun a' => wpList P l.toArray Q (l.drop n) a' W) (l.take n) a) : (Code.region id l.toArray true).wp P Q a w :=
  wp_region_still_tail n hm hB (h w.drew hr)

theorem blk_drew {w : World} {b : Nat} {o : Obj} (h : w.heap[b]? = some o) : w.drew.heap[b]? = some o := h

def SampleDoes (w : World) (b : Nat) (s : RS) (e : Ending) (w' : World) : Prop := e = .returned (.tuple #[]) ∧ RttAt w' b s ∧ w.grownBy w' (some b)

theorem sample_first (b : Nat) (s : RS) (l d : Int) (w : World) (hl : 0 ≤ l) (hs : s.has = false) (hb : RttAt w b s) :
    Calls Try.prog 7 #[.pointer (some ⟨b, 0, none⟩), .int .u64 l, .int .u64 d] w (SampleDoes w b (RS.first (mnv l 1099511627776))) := by
  have HB := Lib.hid hb
  obtain ⟨c0, c1, c2, c3, c4, f0, f1, f2, f3, f4⟩ := hb.cells
  have b1 : 0 ≤ mnv l 1099511627776 := by rw [mnv_eq]; omega
  have b2 : mnv l 1099511627776 ≤ 1099511627776 := by rw [mnv_eq]; omega
  clear hb
  rw [hs] at c0
  clear hs
  go_enter Try.func7, Try.ntmps7
  go_wp2
  refine bodyPost_ret (results_none rfl _ _ _) rfl ?_
  exact ⟨rfl, blk_set (blk_set (blk_set (blk_set (blk_set HB.out 0 _) 1 _) 2 _) 3 _) 4 _, grown_set (grown_set (grown_set (grown_set (grown_set (grown_refl _ _)))))⟩

set_option maxRecDepth 100000 in
theorem sample_next1 (b : Nat) (s : RS) (l d : Int) (w : World) (hl : 0 ≤ l) (hd : 0 ≤ d) (hs : s.has = true) (hb : RttAt w b s) (hm : 0 ≤ s.mn) (hm' : s.mn ≤ 1099511627776) (hm1 : 0 ≤ s.sm) (hm1' : s.sm ≤ 1099511627776) (hm2 : 0 ≤ s.vr) (hm2' : s.vr ≤ 1099511627776)
    (hc : mnv s.mn (mnv l 1099511627776) + mnv d 1099511627776 ≤ mnv l 1099511627776) :
    Calls Try.prog 7 #[.pointer (some ⟨b, 0, none⟩), .int .u64 l, .int .u64 d] w (SampleDoes w b (s.next (mnv l 1099511627776) (mnv d 1099511627776))) := by
  have HB := Lib.hid hb
  obtain ⟨c0, c1, c2, c3, c4, f0, f1, f2, f3, f4⟩ := hb.cells
  have b1 : 0 ≤ mnv l 1099511627776 := by rw [mnv_eq]; omega
  have b2 : mnv l 1099511627776 ≤ 1099511627776 := by rw [mnv_eq]; omega
  have b3 : 0 ≤ mnv d 1099511627776 := by rw [mnv_eq]; omega
  have b4 : mnv d 1099511627776 ≤ 1099511627776 := by rw [mnv_eq]; omega
  have b5 : 0 ≤ mnv s.mn (mnv l 1099511627776) := by rw [mnv_eq]; omega
  have b6 : mnv s.mn (mnv l 1099511627776) ≤ mnv l 1099511627776 := by rw [mnv_eq]; omega
  clear hb
  rw [hs] at c0
  have HS := Lib.hid hs
  clear hs
  go_enter Try.func7, Try.ntmps7
  go_wp2_with fail
  refine region_tail 19 (by kernel_rfl) (by kernel_rfl) (fun W => RttAt W b ⟨true, mnv l 1099511627776, mnv s.mn (mnv l 1099511627776), s.sm, s.vr⟩ ∧ w.grownBy W (some b)) ⟨?_, ?_⟩ ?_
  · have h0 := HB.out
    unfold RttAt RS.blk at h0
    rw [HS.out] at h0
    exact blk_drew (blk_set (blk_set h0 1 _) 2 _)
  · exact grown_drew (grown_set (grown_set (grown_refl _ _)))
  intro W hW
  obtain ⟨hb, hg⟩ := hW
  have HB2 := Lib.hid hb
  have HG := Lib.hid hg
  clear hg c0 c1 c2 c3 c4 f0 f1 f2 f3 f4
  obtain ⟨c0, c1, c2, c3, c4, f0, f1, f2, f3, f4⟩ := hb.cells
  clear hb
  simp only [List.take_succ_cons, List.take_zero, List.drop_succ_cons, List.drop_zero]
  repeat still_step
  still_call (far_any _ _ _ (by omega) (by omega) (by omega) (by omega))
  repeat still_step
  refine wpStill_nil ?_
  obtain ⟨g1, g2⟩ := far_bd s.sm (mnv l 1099511627776 - mnv d 1099511627776) (by omega) (by omega) (by omega) (by omega)
  have g3 : 0 ≤ mnv l 1099511627776 - mnv d 1099511627776 := by omega
  have HC := Lib.hid hc
  clear hc
  go_wp2
  refine bodyPost_end (results_none rfl _ _ _) rfl ?_
  have h0 := HB2.out
  unfold RttAt RS.blk at h0
  refine ⟨rfl, ?_, grown_set (grown_set HG.out)⟩
  have h1 := blk_set (blk_set h0 4 (.int .u64 ((3 * s.vr + (mxv s.sm (mnv l 1099511627776 - mnv d 1099511627776) - mnv s.sm (mnv l 1099511627776 - mnv d 1099511627776))) / 4))) 3 (.int .u64 ((7 * s.sm + (mnv l 1099511627776 - mnv d 1099511627776)) / 8))
  unfold RttAt RS.next RS.blk
  simp only [if_pos HC.out]
  exact h1

set_option maxRecDepth 100000 in
theorem sample_next2 (b : Nat) (s : RS) (l d : Int) (w : World) (hl : 0 ≤ l) (hd : 0 ≤ d) (hs : s.has = true) (hb : RttAt w b s) (hm : 0 ≤ s.mn) (hm' : s.mn ≤ 1099511627776) (hm1 : 0 ≤ s.sm) (hm1' : s.sm ≤ 1099511627776) (hm2 : 0 ≤ s.vr) (hm2' : s.vr ≤ 1099511627776)
    (hc : mnv l 1099511627776 < mnv s.mn (mnv l 1099511627776) + mnv d 1099511627776) :
    Calls Try.prog 7 #[.pointer (some ⟨b, 0, none⟩), .int .u64 l, .int .u64 d] w (SampleDoes w b (s.next (mnv l 1099511627776) (mnv d 1099511627776))) := by
  have HB := Lib.hid hb
  obtain ⟨c0, c1, c2, c3, c4, f0, f1, f2, f3, f4⟩ := hb.cells
  have b1 : 0 ≤ mnv l 1099511627776 := by rw [mnv_eq]; omega
  have b2 : mnv l 1099511627776 ≤ 1099511627776 := by rw [mnv_eq]; omega
  have b3 : 0 ≤ mnv d 1099511627776 := by rw [mnv_eq]; omega
  have b4 : mnv d 1099511627776 ≤ 1099511627776 := by rw [mnv_eq]; omega
  have b5 : 0 ≤ mnv s.mn (mnv l 1099511627776) := by rw [mnv_eq]; omega
  have b6 : mnv s.mn (mnv l 1099511627776) ≤ mnv l 1099511627776 := by rw [mnv_eq]; omega
  clear hb
  rw [hs] at c0
  have HS := Lib.hid hs
  clear hs
  go_enter Try.func7, Try.ntmps7
  go_wp2_with fail
  refine region_tail 19 (by kernel_rfl) (by kernel_rfl) (fun W => RttAt W b ⟨true, mnv l 1099511627776, mnv s.mn (mnv l 1099511627776), s.sm, s.vr⟩ ∧ w.grownBy W (some b)) ⟨?_, ?_⟩ ?_
  · have h0 := HB.out
    unfold RttAt RS.blk at h0
    rw [HS.out] at h0
    exact blk_drew (blk_set (blk_set h0 1 _) 2 _)
  · exact grown_drew (grown_set (grown_set (grown_refl _ _)))
  intro W hW
  obtain ⟨hb, hg⟩ := hW
  have HB2 := Lib.hid hb
  have HG := Lib.hid hg
  clear hg c0 c1 c2 c3 c4 f0 f1 f2 f3 f4
  obtain ⟨c0, c1, c2, c3, c4, f0, f1, f2, f3, f4⟩ := hb.cells
  clear hb
  simp only [List.take_succ_cons, List.take_zero, List.drop_succ_cons, List.drop_zero]
  repeat still_step
  still_call (far_any _ _ _ (by omega) (by omega) (by omega) (by omega))
  repeat still_step
  refine wpStill_nil ?_
  obtain ⟨g1, g2⟩ := far_bd s.sm (mnv l 1099511627776) (by omega) (by omega) (by omega) (by omega)
  have g3 : 0 ≤ mnv l 1099511627776 := by omega
  have HC := Lib.hid hc
  clear hc
  go_wp2
  refine bodyPost_end (results_none rfl _ _ _) rfl ?_
  have h0 := HB2.out
  unfold RttAt RS.blk at h0
  refine ⟨rfl, ?_, grown_set (grown_set HG.out)⟩
  have h1 := blk_set (blk_set h0 4 (.int .u64 ((3 * s.vr + (mxv s.sm (mnv l 1099511627776) - mnv s.sm (mnv l 1099511627776))) / 4))) 3 (.int .u64 ((7 * s.sm + (mnv l 1099511627776)) / 8))
  unfold RttAt RS.next RS.blk
  simp only [if_neg (Int.not_le.mpr HC.out)]
  exact h1

theorem sample_any (b : Nat) (s : RS) (l d : Int) (w : World) (hl : 0 ≤ l) (hd : 0 ≤ d) (hb : RttAt w b s) (hm : 0 ≤ s.mn) (hm' : s.mn ≤ 1099511627776) (hm1 : 0 ≤ s.sm) (hm1' : s.sm ≤ 1099511627776) (hm2 : 0 ≤ s.vr) (hm2' : s.vr ≤ 1099511627776) :
    Calls Try.prog 7 #[.pointer (some ⟨b, 0, none⟩), .int .u64 l, .int .u64 d] w (SampleDoes w b (if s.has then s.next (mnv l 1099511627776) (mnv d 1099511627776) else RS.first (mnv l 1099511627776))) := by
  cases hs : s.has
  · exact sample_first b s l d w hl hs hb
  · rcases Int.lt_or_le (mnv l 1099511627776) (mnv s.mn (mnv l 1099511627776) + mnv d 1099511627776) with hc | hc
    · exact sample_next2 b s l d w hl hd hs hb hm hm' hm1 hm1' hm2 hm2' hc
    · exact sample_next1 b s l d w hl hd hs hb hm hm' hm1 hm1' hm2 hm2' hc

end Go.Proofs.Ytbmfjffccfmhmaa
