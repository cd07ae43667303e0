import Derived.Test.YtnkbhpnflfhhnaaGreatDoorRg
namespace Go.Proofs.YtnkbhpnflfhhnaaGreatDoor
open Go.ChangeShapes Go.WideShapes Go.ChangeAt Go.RowKit

theorem refOf_set (xs : List St) (i j : Nat) (hi : i < xs.length) (hj : j < 5) (u : Value) (y : St) (hy : y.rc = xs[i].rc.set j u) : (refOf xs).set (i * 5 + j) u = refOf (xs.set i y) := by
  have e : xs = xs.take i ++ xs[i] :: xs.drop (i + 1) := by simp
  have hli : (xs.take i).length = i := by simp; omega
  have e2 : xs.set i y = xs.take i ++ y :: xs.drop (i + 1) := by
    conv => lhs; rw [e]
    rw [List.set_append, if_neg (by omega), hli, Nat.sub_self]
    rfl
  rw [e2]
  conv => lhs; rw [e]
  rw [refOf_append, refOf_append]
  have hl5 : (refOf (xs.take i)).length = i * 5 := by rw [refOf_length, hli]
  rw [List.set_append, if_neg (by omega), hl5, show i * 5 + j - i * 5 = j from by omega]
  congr 1
  show (xs[i].rc ++ refOf (xs.drop (i + 1))).set j u = y.rc ++ refOf (xs.drop (i + 1))
  rw [List.set_append, if_pos (by show j < 5; exact hj), hy]

/-- Where a script stands: the plan, the document's list, and what they have in common. -/
structure Ro (w0 : World) (b : Nat) (v4 : Value) (xs r : List St) (clk : Int) (w : World) : Prop where
  plan : ∃ v, PlanAt w0.heap.size w b v xs clk
  row : w.ownsRow w0.heap.size 62 5 v4 r.length (refOf r)
  sim : Sim xs r
  bel : Below w0.heap.size w0 w

theorem Ro.gives {w0 w w' : World} {b : Nat} {v4 : Value} {xs r : List St} {clk : Int} (h : Ro w0 b v4 xs r clk w) (hb : Below w.heap.size w w') : Ro w0 b v4 xs r clk w' :=
  ⟨h.plan.imp fun _ h => h.below hb, ref_keeps h.row (Keeps.of_below hb), h.sim, h.bel.trans (hb.mono h.bel.size)⟩
theorem Ro.does {w0 w w' : World} {b : Nat} {v4 : Value} {xs ys r : List St} {clk clk' : Int} {e : Ending} {x : Value} (h : Ro w0 b v4 xs r clk w) (hd : Does w0.heap.size w b ys clk' x e w') :
    e = .returned x ∧ (∃ v, PlanAt w0.heap.size w' b v ys clk') ∧ w'.ownsRow w0.heap.size 62 5 v4 r.length (refOf r) ∧ Below w0.heap.size w0 w' :=
  ⟨hd.1, hd.2.1, ref_keeps h.row hd.2.2, h.bel.trans (hd.2.2.below h.bel.size)⟩

/-- A plan's blocks lie apart from the list's row. -/
theorem plan_row {B : Nat} {w w' : World} {b g n cap : Nat} {v : Value} {xs : List St} {clk : Int} {L : List Value} (h : PlanAt B w b v xs clk) (hr : w.ownsRow B 62 5 (.slice (some ⟨g, 0, none⟩) n cap) n L) (hg : w.grownBy w' (some g)) : PlanAt B w' b v xs clk := by
  have hgg : ∃ cs, w.heap[g]? = some (.cells cs 62 (0, 0)) := by
    rcases hr.2 with ⟨h', -⟩ | ⟨g', cap', cur, h', -, hgg, -⟩
    · cases h'
    · simp only [Value.slice.injEq, Option.some.injEq, Addr.mk.injEq, and_true, true_and] at h'
      obtain ⟨rfl, rfl⟩ := h'
      exact ⟨_, hgg⟩
  obtain ⟨cs, hcs⟩ := hgg
  have hbg : b ≠ g := by
    rintro rfl
    have := h.blk
    rw [hcs] at this
    simp at this
  refine ⟨(hg.block b (lt_of_block h.blk) (fun e => hbg (Option.some.inj e))).trans h.blk, h.own.kept hg ?_, h.base, h.len⟩
  right
  rcases h.own.2 with ⟨rfl, -⟩ | ⟨g', cap', cur, rfl, -, hgg', -⟩
  · simp [Value.ownBlock]
  · intro e
    simp [Value.ownBlock] at e
    subst e
    rw [hcs] at hgg'
    simp at hgg'
end Go.Proofs.YtnkbhpnflfhhnaaGreatDoor
