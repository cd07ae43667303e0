import Derived.Test.YtnkbhpnflfhhnaaGreatDoorRows
import Derived.WalkKit
import Derived.ProofKit
import Derived.OpenShut
import Derived.Outline
import Derived.Deep.QuietTactic
import Derived.BigQuiet
import Derived.StillTailTactics
import Derived.Below
import Derived.Laws.Build
import Derived.Laws.Rows
import Derived.Deep.Cut
import Derived.OneCell
import Derived.Lib.Hide
import Derived.LoopTactic
namespace Go.Proofs.YtnkbhpnflfhhnaaGreatDoor
open Go.ChangeShapes Go.WideShapes Go.ChangeAt Go.RowKit

def Gives (w : World) (v : Value) (e : Ending) (w' : World) : Prop := e = .returned v ∧ Below w.heap.size w w'

theorem region_tail {P : Program} {id : Nat} {Q : Exit → Act → World → Prop} {a : Act} {w : World} {l : List Oper} (n : Nat) (hm : P.follows .mixedOrders = true) (hB : Region.lexTailB .any l.toArray n = true)
    (R : World → Prop) (hr : R w.drew) (h : ∀ W, R W → wpStill P l.toArray W (fun a' => wpList P l.toArray Q (l.drop n) a' W) (l.take n) a) : (Code.region id l.toArray true).wp P Q a w :=
  wp_region_still_tail n hm hB (h w.drew hr)

/-- A stream of a plan. -/
structure St where
  id : Int
  urg : Int
  inc : Bool
  rdy : Bool
  srv : Int

def St.cells (s : St) : List Value := [.int .u64 s.id, .int .u8 s.urg, .bool s.inc, .bool s.rdy, .int .u64 s.srv]
def St.val (s : St) : Value := .agg #[.int .u64 s.id, .int .u8 s.urg, .bool s.inc, .bool s.rdy, .int .u64 s.srv]
def St.nil : St := ⟨0, 0, false, false, 0⟩

/-- Does one stream go ahead of another one of a greater number? -/
def aheadB (a b : St) : Bool := if a.urg = b.urg then (if a.inc = b.inc then (!a.inc || decide (a.srv ≤ b.srv)) else b.inc) else decide (a.urg < b.urg)

theorem ahead_any (a b : St) (w : World) : Calls Tryz.prog 86 #[a.val, b.val] w (Gives w (.bool (aheadB a b))) := by
  unfold St.val
  obtain ⟨i, u, n, r, s⟩ := a
  obtain ⟨i', u', n', r', s'⟩ := b
  have HW : Hid (Below w.heap.size w ((w.alloc (Obj.cells #[.int .u64 i, .int .u8 u, .bool n, .bool r, .int .u64 s] 106)).alloc (Obj.cells #[.int .u64 i', .int .u8 u', .bool n', .bool r', .int .u64 s'] 106))) :=
    Lib.hid (((Below.refl _ w).alloc (Nat.le_refl _) _).alloc (by simp) _)
  rcases Int.lt_trichotomy u u' with h | h | h
  · go_enter Tryz.func86, Tryz.ntmps86
    go_wp2
    go_ret
    exact ⟨by unfold aheadB; rw [if_neg (by simp only []; omega)]; simp [h], HW.out⟩
  · subst h
    cases n <;> cases n' <;> go_enter Tryz.func86, Tryz.ntmps86 <;> go_wp2
    all_goals go_ret
    all_goals exact ⟨by simp [aheadB], HW.out⟩
  · go_enter Tryz.func86, Tryz.ntmps86
    go_wp2
    go_ret
    exact ⟨by unfold aheadB; rw [if_neg (by simp only []; omega)]; simp, HW.out⟩

/-- The slice at oa reads as streams xs. -/
def Row (w : World) (oa : Option Addr) (xs : List St) : Prop :=
  ∀ (i : Nat) (h : i < xs.length), ∃ g off, oa = some ⟨g, off, none⟩ ∧ w.cell? ⟨g, off + i * 5, none⟩ = some (.int .u64 xs[i].id) ∧ w.cell? ⟨g, off + i * 5 + 1, none⟩ = some (.int .u8 xs[i].urg) ∧
    w.cell? ⟨g, off + i * 5 + 2, none⟩ = some (.bool xs[i].inc) ∧ w.cell? ⟨g, off + i * 5 + 3, none⟩ = some (.bool xs[i].rdy) ∧ w.cell? ⟨g, off + i * 5 + 4, none⟩ = some (.int .u64 xs[i].srv)

theorem Row.below {w w' : World} {oa : Option Addr} {xs : List St} (h : Row w oa xs) (hb : Below w.heap.size w w') : Row w' oa xs := by
  intro i hi
  obtain ⟨g, off, h0, h1, h2, h3, h4, h5⟩ := h i hi
  have hlt : g < w.heap.size := World.block_lt_of_cell? w _ h1
  exact ⟨g, off, h0, (hb.cell hlt).trans h1, (hb.cell hlt).trans h2, (hb.cell hlt).trans h3, (hb.cell hlt).trans h4, (hb.cell hlt).trans h5⟩

/-- The best of the first streams. -/
def best (xs : List St) : Nat → Int
  | 0 => -1
  | i + 1 => if (xs.getD i St.nil).rdy = true ∧ (best xs i < 0 ∨ aheadB (xs.getD (best xs i).toNat St.nil) (xs.getD i St.nil) = false) then i else best xs i

theorem best_bd (xs : List St) (i : Nat) : -1 ≤ best xs i ∧ best xs i < i := by
  induction i with
  | zero => simp [best]
  | succ i ih => unfold best; split <;> omega

theorem getD_lt {α : Type} {xs : List α} {i : Nat} {d : α} (h : i < xs.length) : xs.getD i d = xs[i] := by simp [List.getD, h]
theorem below_drewN {B : Nat} {a w : World} (h : Below B a w) (n : Nat) : Below B a (w.drewN n) := ⟨h.os, h.tape, h.output, h.size, h.block⟩
theorem best_skip {xs : List St} {k : Nat} (hk : k < xs.length) (h : xs[k].rdy = false) : best xs (k + 1) = best xs k := by
  rw [best, if_neg]
  rintro ⟨h1, -⟩
  rw [getD_lt hk, h] at h1
  cases h1
theorem best_none {xs : List St} {k : Nat} (hk : k < xs.length) (h : xs[k].rdy = true) (hb : best xs k < 0) : best xs (k + 1) = k := by
  rw [best, if_pos]
  rw [getD_lt hk]
  exact ⟨h, .inl hb⟩
theorem best_some {xs : List St} {k m : Nat} (hk : k < xs.length) (h : xs[k].rdy = true) (hb : best xs k = m) (hm : m < xs.length) : best xs (k + 1) = if aheadB xs[m] xs[k] = true then (m : Int) else k := by
  rw [best, getD_lt hk, hb, Int.toNat_natCast, getD_lt hm]
  cases ha : aheadB xs[m] xs[k]
  · rw [if_pos ⟨h, .inr rfl⟩, if_neg (by simp)]
  · rw [if_neg (by rintro ⟨-, h | h⟩; omega; cases h), if_pos rfl]

def NextRel (xs : List St) (w : World) (b i : Value) (wr : World) : Prop :=
  ∃ k : Nat, k ≤ xs.length ∧ i = .int .i64 k ∧ b = .int .i64 (best xs k) ∧ Below w.heap.size w wr

set_option maxRecDepth 100000 in
theorem next_any (b : Nat) (oa : Option Addr) (xs : List St) (cap : Nat) (clk : Int) (w : World) (hb : w.heap[b]? = some (.cells #[.slice oa xs.length cap, .int .u64 clk] 109 (0, 0))) (hx : Row w oa xs) (hl : xs.length ≤ 9223372036854775807) :
    Calls Tryz.prog 49 #[.pointer (some ⟨b, 0, none⟩)] w (Gives w (.int .i64 (best xs xs.length))) := by
  have c0 : w.cell? ⟨b, 0, none⟩ = some (.slice oa xs.length cap) := by simp [World.cell?, hb]
  have HX := Lib.hid hx
  have HB := Lib.hid hb
  clear hx hb
  go_enter Tryz.func49, Tryz.ntmps49
  go_wp2_with fail
  clear c0
  go_loopw [3, 11] (fun b i wr => NextRel xs w b i wr) (fun _ i _ => xs.length - (intOf i).toNat)
  case atStart => exact ⟨0, by omega, rfl, rfl, Below.refl _ _⟩
  case round =>
    obtain ⟨k, hk, rfl, rfl, hbel⟩ := hrel
    have HBEL := Lib.hid hbel
    obtain ⟨bd1, bd2⟩ := best_bd xs k
    clear hbel
    by_cases hlt : k < xs.length
    · obtain ⟨g, off, rfl, x0, x1, x2, x3, x4⟩ := HX.out.below HBEL.out k hlt
      obtain ⟨B, hB⟩ : ∃ B, B = best xs k := ⟨_, rfl⟩
      rw [← hB] at bd1 bd2
      rw [← hB]
      have HBB := Lib.hid hB
      clear hB
      obtain ⟨x, hxk⟩ : ∃ x, x = xs[k] := ⟨_, rfl⟩
      have HXK := Lib.hid hxk
      rw [← hxk] at x0 x1 x2 x3 x4
      clear hxk
      cases hr : x.rdy
      · rw [hr] at x3
        have HR := Lib.hid hr
        clear hr
        go_wp2_with fail
        go_quiet (fail)
        go_wp2_with fail
        go_roundw
        case rel => exact ⟨k + 1, by omega, by go_num, by rw [best_skip hlt (by rw [← HXK.out]; exact HR.out), ← HBB.out], below_drewN (HBEL.out.alloc HBEL.out.size _) _⟩
        case measure => simp [intOf]; omega
      · rw [hr] at x3
        have HR := Lib.hid hr
        clear hr
        by_cases hneg : B < 0
        · go_wp2_with fail
          go_quiet (fail)
          go_wp2_with fail
          go_roundw
          case rel => exact ⟨k + 1, by omega, by go_num, by rw [best_none hlt (by rw [← HXK.out]; exact HR.out) (by rw [← HBB.out]; exact hneg)], below_drewN (HBEL.out.alloc HBEL.out.size _) _⟩
          case measure => simp [intOf]; omega
        · obtain ⟨m, rfl⟩ : ∃ m : Nat, B = m := ⟨B.toNat, by omega⟩
          have hm : m < xs.length := by omega
          obtain ⟨g', off', he, y0, y1, y2, y3, y4⟩ := HX.out.below HBEL.out m hm
          simp only [Option.some.injEq, Addr.mk.injEq, and_true] at he
          obtain ⟨rfl, rfl⟩ := he
          have c0 : wr.cell? ⟨b, 0, none⟩ = some (.slice (some ⟨g, off, none⟩) xs.length cap) := by
            rw [HBEL.out.cell (lt_of_block HB.out)]; simp [World.cell?, HB.out]
          obtain ⟨y, hym⟩ : ∃ y, y = xs[m] := ⟨_, rfl⟩
          have HYM := Lib.hid hym
          rw [← hym] at y0 y1 y2 y3 y4
          clear hym
          go_wp2_with fail
          refine region_tail 14 (by kernel_rfl) (by kernel_rfl) (fun W => Below wr.heap.size wr W ∧ W.heap[wr.heap.size]? = some (.cells #[.int .u64 x.id, .int .u8 x.urg, .bool x.inc, .bool true, .int .u64 x.srv] 106 (0, 0))) ⟨((Below.refl _ _).alloc (Nat.le_refl _) _).drew, heap_alloc_new _ _⟩ ?_
          intro W hW
          obtain ⟨hW1, hW2⟩ := hW
          have d0 := (hW1.cell (lt_of_block ((HBEL.out.block b (lt_of_block HB.out)).trans HB.out))).trans c0
          have hg : g < wr.heap.size := World.block_lt_of_cell? wr _ y0
          have z0 := (hW1.cell hg).trans y0
          have z1 := (hW1.cell hg).trans y1
          have z2 := (hW1.cell hg).trans y2
          have z3 := (hW1.cell hg).trans y3
          have z4 := (hW1.cell hg).trans y4
          have e0 : W.cell? ⟨wr.heap.size, 0, none⟩ = some (.int .u64 x.id) := by simp [World.cell?, hW2]
          have e1 : W.cell? ⟨wr.heap.size, 1, none⟩ = some (.int .u8 x.urg) := by simp [World.cell?, hW2]
          have e2 : W.cell? ⟨wr.heap.size, 2, none⟩ = some (.bool x.inc) := by simp [World.cell?, hW2]
          have e3 : W.cell? ⟨wr.heap.size, 3, none⟩ = some (.bool true) := by simp [World.cell?, hW2]
          have e4 : W.cell? ⟨wr.heap.size, 4, none⟩ = some (.int .u64 x.srv) := by simp [World.cell?, hW2]
          have HW1 := Lib.hid hW1
          clear hW1 hW2 y0 y1 y2 y3 y4 x0 x1 x2 x3 x4 c0
          simp only [List.take_succ_cons, List.take_zero, List.drop_succ_cons, List.drop_zero]
          repeat still_step
          refine wpStill_nil ?_
          go_wp2_with fail
          refine (ahead_any y ⟨x.id, x.urg, x.inc, true, x.srv⟩ _).mono ?_
          rintro e w1 ⟨rfl, hb1⟩
          have ha : aheadB y ⟨x.id, x.urg, x.inc, true, x.srv⟩ = aheadB xs[m] xs[k] := by rw [← HYM.out, ← HXK.out]; rfl
          have hbs := best_some hlt (by rw [← HXK.out]; exact HR.out) HBB.out.symm hm
          rw [ha]
          have H2 : Hid (Below w.heap.size w w1) := Lib.hid (HBEL.out.trans ((HW1.out.trans (hb1.mono HW1.out.size)).mono HBEL.out.size))
          clear ha hb1 z0 z1 z2 z3 z4 e0 e1 e2 e3 e4 d0
          cases haa : aheadB xs[m] xs[k]
          · rw [haa] at hbs
            have HBS := Lib.hid hbs
            clear haa hbs
            go_wp2_with fail
            go_roundw
            case rel => exact ⟨k + 1, by omega, by go_num, by rw [HBS.out]; rfl, H2.out⟩
            case measure => simp [intOf]; omega
          · rw [haa] at hbs
            have HBS := Lib.hid hbs
            clear haa hbs
            go_wp2_with fail
            go_roundw
            case rel => exact ⟨k + 1, by omega, by go_num, by rw [HBS.out]; rfl, H2.out⟩
            case measure => simp [intOf]; omega
    · have he : k = xs.length := by omega
      subst he
      go_wp2_with fail
      go_ret
      exact ⟨rfl, HBEL.out⟩
end Go.Proofs.YtnkbhpnflfhhnaaGreatDoor
