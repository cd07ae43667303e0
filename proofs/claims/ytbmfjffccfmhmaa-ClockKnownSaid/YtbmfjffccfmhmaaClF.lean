import Derived.Test.YtbmfjffccfmhmaaClE
namespace Go.Proofs.Ytbmfjffccfmhmaa
open Go.ChangeShapes Go.WideShapes Go.ChangeAt Go.RowKit
section
variable {P : Program} {ops : Array Oper} {rest : List Oper} {a : Act} {w : World} {Q : Exit → Act → World → Prop} {d : Option Tmp} {ty : TypeId} {pos : String} {af : Array Edge}
theorem run_index_arr (t e : TypeId) (len sz : Nat) (A : Array Value) (n : Nat) (dd : TypeDesc) (hu : P.underlying t = some (.array len e)) (hue : P.underlying e = some dd) (hd : dd.isRow = true) (hi : (P.info? e).map (·.size) = some sz) (hn : n < len) (w : World) :
    (Instr.index t (.agg A) (.int .i64 n)).run P w = .ok (.agg (A.extract (n * sz) (n * sz + sz))) w := by
  have hagg : (isAgg e).run P w = .ok true w := by
    unfold isAgg
    rw [Sem.run_bind, run_underlying hue w]
    cases dd <;> simp_all [TypeDesc.isRow]
  have hsz : (sizeOf e).run P w = .ok sz w := by
    cases hq : P.info? e with
    | none => simp [hq] at hi
    | some i => simp [hq] at hi; simp [sizeOf, typeInfo, hq, hi]
  simp [Instr.index, asIntOf, Sem.run_bind, run_underlying hu w, part, hagg, hsz]
  intro h; omega
theorem at_index (t e : TypeId) (len sz : Nat) {x y : Operand} (A : Array Value) (n : Nat) (dd : TypeDesc) (hu : P.underlying t = some (.array len e)) (hue : P.underlying e = some dd) (hd : dd.isRow = true) (hi : (P.info? e).map (·.size) = some sz) (hn : n < len)
    (R : Array Value) (hR : A.extract (n * sz) (n * sz + sz) = R) (hx : a.eval x = .agg A) (hy : a.eval y = .int .i64 n)
    (h : wpList P ops Q rest (a.put d (.agg R)) w) : wpList P ops Q (⟨d, .index t x y, ty, pos, af, none⟩ :: rest) a w := by
  subst hR
  refine Go.Great.wpList_runTo rfl d rfl _ _ ?_ h
  unfold execOp
  simp only [hx, hy, Sem.run_bind, run_index_arr t e len sz A n dd hu hue hd hi hn, Result.andThen_ok, Sem.run_pure]
end
/-- The n-th space of a state. -/
def spc (C : Array Value) (n : Nat) : Array Value := (C.extract 297 882).extract (n * 195) (n * 195 + 195)
theorem spc_get (C : Array Value) (n j : Nat) (hs : C.size = 1037) (hn : n < 3) (hj : j < 195) : (spc C n)[j]? = C[297 + 195 * n + j]? := by
  unfold spc
  rw [Array.getElem?_extract, Array.getElem?_extract]
  simp only [Array.size_extract, hs]
  rw [if_pos (by omega), if_pos (by omega)]
  congr 1
  omega
theorem spc_size (C : Array Value) (n : Nat) (hs : C.size = 1037) (hn : n < 3) : (spc C n).size = 195 := by
  unfold spc; simp [hs]; omega
theorem ones_extract (C : Array Value) (a b : Nat) (h : C.toList.all (·.oneCell') = true) : (C.extract a b).toList.all (·.oneCell') = true := by
  rw [List.all_eq_true] at h ⊢
  intro v hv
  rw [Array.toList_extract] at hv
  exact h v (List.mem_of_mem_drop (List.mem_of_mem_take hv))
theorem spc_ones (C : Array Value) (n : Nat) (h : C.toList.all (·.oneCell') = true) : (spc C n).toList.all (·.oneCell') = true := ones_extract _ _ _ (ones_extract _ _ _ h)
theorem size67 : (Try.prog.info? 67).map (·.size) = some 195 := by kernel_rfl
theorem size68 : (Try.prog.info? 68).map (·.size) = some 585 := by kernel_rfl
theorem U67 : Try.prog.underlying 67 = some (.struct (match Try.prog.underlying 67 with | some (.struct fs) => fs | _ => #[])) := by kernel_rfl
theorem U68 : Try.prog.underlying 68 = some (.array 3 67) := by kernel_rfl
noncomputable def Z67 : Array Value := ((Try.prog.info? 67).bind (·.zero)).elim #[] Value.cells
theorem alloc67 (w : World) : (Instr.alloc 67 true (.tuple #[])).run Try.prog w = .ok (.pointer (some ⟨w.heap.size, 0, none⟩)) (w.alloc (.cells Z67 67)) := by kernel_rfl
theorem Z67_size : Z67.size = 195 := by kernel_rfl

theorem loss_of_space (D : Array Value) (v : Int) (w : World) (h : D[11]? = some (.int .u64 v)) : Calls Try.prog 26 #[.agg D] w (Gives w (.int .u64 v)) := by
  go_enter Try.func26, Try.ntmps26
  go_upto_region 1 with (with_reducible refine at_box 67 D rfl ?_)
  go_wp2_with fail
  go_ret
  exact ⟨rfl, (Below.refl _ _).alloc (Nat.le_refl _) _⟩
theorem due_of_space (D : Array Value) (v : Int) (w : World) (h : D[6]? = some (.int .u64 v)) : Calls Try.prog 28 #[.agg D] w (Gives w (.int .u64 v)) := by
  go_enter Try.func28, Try.ntmps28
  go_upto_region 1 with (with_reducible refine at_box 67 D rfl ?_)
  go_wp2_with fail
  go_ret
  exact ⟨rfl, (Below.refl _ _).alloc (Nat.le_refl _) _⟩
end Go.Proofs.Ytbmfjffccfmhmaa
