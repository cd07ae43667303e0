import Derived.Test.YtbmfjffccfmhmaaRttB
import Derived.Deep.WholeRow
import Derived.Deep.MidRow
import Derived.Great.Walk
namespace Go.Proofs.Ytbmfjffccfmhmaa
open Go.ChangeShapes Go.WideShapes Go.ChangeAt Go.RowKit

/-! Values of very many cells: their cells stay behind a name. -/
section
variable {P : Program}
def setMany (C : Array Value) (o : Nat) (vs : List Value) : Array Value := (C.toList.take o ++ vs ++ C.toList.drop (o + vs.length)).toArray
theorem setMany_nil (C : Array Value) (o : Nat) : setMany C o [] = C := by simp [setMany]
theorem setMany_size (C : Array Value) (o : Nat) (vs : List Value) (h : o + vs.length ≤ C.size) : (setMany C o vs).size = C.size := by
  simp [setMany]; omega
theorem setMany_get (C : Array Value) (o : Nat) (vs : List Value) (h : o + vs.length ≤ C.size) (i : Nat) : (setMany C o vs)[i]? = if i < o then C[i]? else if i < o + vs.length then vs[i - o]? else C[i]? := by
  have ho : (C.toList.take o).length = o := by simp; omega
  unfold setMany
  rw [List.getElem?_toArray, List.append_assoc, List.getElem?_append, ho]
  by_cases h1 : i < o
  · rw [if_pos h1, if_pos h1, List.getElem?_take, if_pos h1]; simp
  · rw [if_neg h1, if_neg h1, List.getElem?_append]
    by_cases h2 : i < o + vs.length
    · rw [if_pos h2, if_pos (by omega)]
    · rw [if_neg h2, if_neg (by omega), List.getElem?_drop, show o + vs.length + (i - o - vs.length) = i by omega]; simp
theorem heap_setCells (b : Nat) (t : TypeId) : ∀ (vs : List Value) (o : Nat) (w : World) (C : Array Value), w.heap[b]? = some (.cells C t (0, 0)) → o + vs.length ≤ C.size → (w.setCells b o vs).heap[b]? = some (.cells (setMany C o vs) t (0, 0))
  | [], o, w, C, h, _ => by rw [setMany_nil]; exact h
  | v :: vs, o, w, C, h, hl => by
    rw [World.setCells, heap_setCells b t vs (o + 1) _ _ (heap_setCell_same w b o C t v h) (by simp at hl ⊢; omega)]
    simp only [List.length_cons] at hl
    have e : setMany (C.setIfInBounds o v) (o + 1) vs = setMany C o (v :: vs) := by
      apply Array.ext_getElem?
      intro i
      rw [setMany_get _ _ _ (by simp; omega), setMany_get _ _ _ (by simp; omega)]
      by_cases h1 : i < o
      · rw [if_pos (by omega), if_pos h1, Array.getElem?_setIfInBounds_ne (by omega)]
      · rw [if_neg h1]
        by_cases h2 : i = o
        · subst h2
          rw [if_pos (by omega), if_pos (by simp), Array.getElem?_setIfInBounds_self]
          simp; omega
        · rw [if_neg (by omega)]
          by_cases h3 : i < o + 1 + vs.length
          · rw [if_pos h3, if_pos (by simp; omega), show i - o = (i - (o + 1)) + 1 by omega]; rfl
          · rw [if_neg h3, if_neg (by simp; omega), Array.getElem?_setIfInBounds_ne (by omega)]
    rw [e]
theorem heap_setCells_other (b k : Nat) (hk : k ≠ b) : ∀ (vs : List Value) (o : Nat) (w : World), (w.setCells b o vs).heap[k]? = w.heap[k]?
  | [], _, _ => rfl
  | v :: vs, o, w => by rw [World.setCells, heap_setCells_other b k hk vs (o + 1), heap_setCell_other w _ k v hk]
theorem Below.setRow {B b : Nat} {w w' : World} (C' : Array Value) (h : Below B w w') (hb : B ≤ b) : Below B w (w'.setRow b C') :=
  h.trans ⟨rfl, rfl, rfl, by simp, fun k hk => setRow_other w' b k C' (by omega)⟩
theorem Below.setCells {B b : Nat} : ∀ (vs : List Value) (o : Nat) {w w' : World}, Below B w w' → B ≤ b → Below B w (w'.setCells b o vs)
  | [], _, _, _, h, _ => h
  | v :: vs, o, _, _, h, hb => by rw [World.setCells]; exact Below.setCells vs (o + 1) (h.setCell hb v) hb
theorem there_of_row {w : World} {b : Nat} {C : Array Value} {t : TypeId} (h : w.heap[b]? = some (.cells C t (0, 0))) (o n : Nat) (hn : o + n ≤ C.size) : w.there b o n := fun j hj => by
  rw [cell_of_row w b _ C t (0, 0) h, frozen_of_row w b _ C t h]
  have : o + j < C.size := by omega
  simp [this]
theorem all_toArr {C : Array Value} (h : C.toList.all (·.oneCell') = true) : C.all (·.oneCell') = true := by rw [← Array.all_toList]; exact h
variable {ops : Array Oper} {rest : List Oper} {a : Act} {w : World} {Q : Exit → Act → World → Prop} {d : Option Tmp} {ty : TypeId} {pos : String} {af : Array Edge}
theorem at_alloc (t : TypeId) (Z : Array Value)
    (hz : ∀ w, (Instr.alloc t true (.tuple #[])).run P w = .ok (.pointer (some ⟨w.heap.size, 0, none⟩)) (w.alloc (.cells Z t)))
    (h : wpList P ops Q rest (a.put d (.pointer (some ⟨w.heap.size, 0, none⟩))) (w.alloc (.cells Z t))) : wpList P ops Q (⟨d, .alloc t, ty, pos, af, none⟩ :: rest) a w := by
  refine Go.Great.wpList_runTo rfl d rfl _ _ ?_ h
  unfold execOp
  simp only [Sem.run_bind, hz, Result.andThen_ok, Sem.run_pure]
theorem run_box_agg (t : TypeId) (C : Array Value) (w : World) : (Instr.box t (.agg C)).run P w = .ok (.pointer (some ⟨w.heap.size, 0, none⟩)) (w.alloc (.cells C t)) := by
  simp [Instr.box, newVar, Value.cells]
  rfl
theorem at_box (t : TypeId) {x : Operand} (C : Array Value) (hx : a.eval x = .agg C)
    (h : wpList P ops Q rest (a.put d (.pointer (some ⟨w.heap.size, 0, none⟩))) (w.alloc (.cells C t))) : wpList P ops Q (⟨d, .box t x, ty, pos, af, none⟩ :: rest) a w := by
  refine Go.Great.wpList_runTo rfl d rfl _ _ ?_ h
  unfold execOp
  simp only [hx, Sem.run_bind, run_box_agg, Result.andThen_ok, Sem.run_pure]
theorem at_build (t : TypeId) {parts : Array (Nat × Operand)} (C : Array Value)
    (hb : P.built t (parts.map fun (i, x) => (i, a.eval x)).toList = some C)
    (h : wpList P ops Q rest (a.put d (.agg C)) w) : wpList P ops Q (⟨d, .build t parts, ty, pos, af, none⟩ :: rest) a w := by
  refine wpList_build rfl t parts rfl (by rw [hb]; rfl) ?_
  rw [hb]; exact h
theorem at_store_new (t0 : TypeId) {x y : Operand} (C C' : Array Value) (t : TypeId) (hi : (P.info? t0).map (·.size) = some C'.size) (hs : C.size = C'.size) (h1 : C'.toList.all (·.oneCell') = true)
    (hx : a.eval x = .pointer (some ⟨w.heap.size, 0, none⟩)) (hy : a.eval y = .agg C')
    (h : wpList P ops Q rest (a.put d undef) (w.alloc (.cells C' t))) : wpList P ops Q (⟨d, .store t0 x y, ty, pos, af, none⟩ :: rest) a (w.alloc (.cells C t)) := by
  refine wpList_store_row rfl t0 x y rfl w.heap.size C' hx hy t C (heap_alloc_last w _) hi hs (all_toArr h1) ?_
  rw [World.setRow_alloc_new]; exact h
theorem at_store_row (t0 : TypeId) {x y : Operand} (b : Nat) (C C' : Array Value) (t : TypeId) (hg : w.heap[b]? = some (.cells C t (0, 0))) (hi : (P.info? t0).map (·.size) = some C'.size) (hs : C.size = C'.size) (h1 : C'.toList.all (·.oneCell') = true)
    (hx : a.eval x = .pointer (some ⟨b, 0, none⟩)) (hy : a.eval y = .agg C')
    (h : wpList P ops Q rest (a.put d undef) (w.setRow b C')) : wpList P ops Q (⟨d, .store t0 x y, ty, pos, af, none⟩ :: rest) a w :=
  wpList_store_row rfl t0 x y rfl b C' hx hy t C hg hi hs (all_toArr h1) h
theorem at_load_row (t0 : TypeId) {x : Operand} (b : Nat) (t : TypeId) (C : Array Value) (hg : w.heap[b]? = some (.cells C t (0, 0))) (dd : TypeDesc)
    (hu : P.underlying t0 = some dd) (hd : dd.isRow = true) (hi : (P.info? t0).map (·.size) = some C.size) (hx : a.eval x = .pointer (some ⟨b, 0, none⟩))
    (h : wpList P ops Q rest (a.put d (.agg C)) w) : wpList P ops Q (⟨d, .load t0 x, ty, pos, af, none⟩ :: rest) a w :=
  wpList_load_row rfl t0 x rfl b hx t C (0, 0) dd hg hu (by cases dd <;> simp_all [TypeDesc.isRow]) hi h
theorem at_load_mid (t0 : TypeId) {x : Operand} (b o n : Nat) (t : TypeId) (C : Array Value) (hg : w.heap[b]? = some (.cells C t (0, 0))) (dd : TypeDesc)
    (hu : P.underlying t0 = some dd) (hd : dd.isRow = true) (hi : (P.info? t0).map (·.size) = some n) (hn : o + n ≤ C.size) (hx : a.eval x = .pointer (some ⟨b, o, none⟩))
    (h : wpList P ops Q rest (a.put d (.agg (C.extract o (o + n)))) w) : wpList P ops Q (⟨d, .load t0 x, ty, pos, af, none⟩ :: rest) a w :=
  wpList_load_mid rfl t0 x rfl b o hx (C.extract o (o + n)).toList dd (World.rangeAt_of_block hg o n) hu hd (by rw [hi]; simp; omega) (by rw [Array.toArray_toList]; exact h)
theorem at_store_mid (t0 : TypeId) {x y : Operand} (b o : Nat) (cells : Array Value) (t : TypeId) (C : Array Value) (hg : w.heap[b]? = some (.cells C t (0, 0)))
    (hi : (P.info? t0).map (·.size) = some cells.size) (hn : o + cells.size ≤ C.size) (h1 : cells.toList.all (·.oneCell') = true)
    (hx : a.eval x = .pointer (some ⟨b, o, none⟩)) (hy : a.eval y = .agg cells)
    (h : wpList P ops Q rest (a.put d undef) (w.setCells b o cells.toList)) : wpList P ops Q (⟨d, .store t0 x y, ty, pos, af, none⟩ :: rest) a w :=
  wpList_store_mid rfl t0 x y rfl b o cells hx hy (there_of_row hg o _ hn) hi (all_toArr h1) h
end
noncomputable def Z80 : Array Value := ((Try.prog.info? 80).bind (·.zero)).elim #[] Value.cells
theorem alloc80 (w : World) : (Instr.alloc 80 true (.tuple #[])).run Try.prog w = .ok (.pointer (some ⟨w.heap.size, 0, none⟩)) (w.alloc (.cells Z80 80)) := by kernel_rfl
noncomputable def st80 (parts : List (Nat × Value)) : Array Value := (Try.prog.built 80 parts).getD #[]
theorem size80 : (Try.prog.info? 80).map (·.size) = some 1037 := by kernel_rfl
theorem Z80_size : Z80.size = 1037 := by kernel_rfl
noncomputable def upA : Array Value := st80 [(0, .bool true), (1, .int .u8 2), (15, .int .u64 9000000)]
theorem upA_built : Try.prog.built 80 [(0, .bool true), (1, .int .u8 2), (15, .int .u64 9000000)] = some upA := by kernel_rfl
theorem upA_size : upA.size = 1037 := by kernel_rfl
theorem upA_ones : upA.toList.all (·.oneCell') = true := by kernel_rfl
noncomputable def upB (b : Nat) : Array Value := setMany (upA.setIfInBounds 687 (.bool true)) 695 [.slice (some ⟨b, 0, none⟩) 1 1, .bool false, .int .u64 0, .int .u64 0, .int .u64 1000, .int .u64 1]
theorem upB_size (b : Nat) : (upB b).size = 1037 := by rw [upB, setMany_size _ _ _ (by simp [upA_size]), Array.size_setIfInBounds, upA_size]
theorem upB_ones (b : Nat) : (upB b).toList.all (·.oneCell') = true := by kernel_rfl
theorem upB_1 (b : Nat) : (upB b)[1]? = some (.int .u8 2) := by kernel_rfl
end Go.Proofs.Ytbmfjffccfmhmaa
