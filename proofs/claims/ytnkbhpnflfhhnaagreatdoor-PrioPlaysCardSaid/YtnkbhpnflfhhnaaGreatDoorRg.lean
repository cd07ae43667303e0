import Derived.Test.YtnkbhpnflfhhnaaGreatDoorRd
import Derived.Test.YtnkbhpnflfhhnaaGreatDoorRf
namespace Go.Proofs.YtnkbhpnflfhhnaaGreatDoor
open Go.ChangeShapes Go.WideShapes Go.ChangeAt Go.RowKit

/-- A stream of the document's list, as cells. -/
def St.rc (s : St) : List Value := [.int .u64 s.id, .int .u8 s.urg, .bool s.inc, .bool s.rdy, .int .i64 s.srv]
def refOf (r : List St) : List Value := r.flatMap St.rc
theorem refOf_length (r : List St) : (refOf r).length = r.length * 5 := by
  induction r with
  | nil => rfl
  | cons x xs ih => show (x.rc ++ refOf xs).length = _; rw [List.length_append, ih, List.length_cons, show x.rc.length = 5 from rfl]; omega
theorem refOf_append (xs ys : List St) : refOf (xs ++ ys) = refOf xs ++ refOf ys := by simp [refOf]
theorem refOf_take (r : List St) : ∀ i, (refOf r).take (i * 5) = refOf (r.take i) := by
  induction r with
  | nil => intro i; simp [refOf]
  | cons x xs ih =>
    intro i
    cases i with
    | zero => simp [refOf]
    | succ i =>
      show (x.rc ++ refOf xs).take ((i + 1) * 5) = x.rc ++ refOf (xs.take i)
      rw [← ih i, List.take_append, show x.rc.length = 5 from rfl, List.take_of_length_le (by show 5 ≤ (i + 1) * 5; omega), show (i + 1) * 5 - 5 = i * 5 from by omega]
theorem refOf_drop (r : List St) : ∀ i, (refOf r).drop (i * 5) = refOf (r.drop i) := by
  induction r with
  | nil => intro i; simp [refOf]
  | cons x xs ih =>
    intro i
    cases i with
    | zero => simp [refOf]
    | succ i =>
      show (x.rc ++ refOf xs).drop ((i + 1) * 5) = refOf (xs.drop i)
      rw [← ih i, List.drop_append, show x.rc.length = 5 from rfl, List.drop_of_length_le (by show 5 ≤ (i + 1) * 5; omega), show (i + 1) * 5 - 5 = i * 5 from by omega, List.nil_append]
theorem refOf_get (r : List St) (i j : Nat) (hi : i < r.length) (hj : j < 5) : (refOf r)[i * 5 + j]? = r[i].rc[j]? := by
  have h : (refOf r).drop (i * 5) = r[i].rc ++ refOf (r.drop (i + 1)) := by
    rw [refOf_drop, List.drop_eq_getElem_cons hi]; rfl
  rw [← List.getElem?_drop, h, List.getElem?_append_left (by show j < 5; exact hj)]
theorem refOf_one (r : List St) : ∀ u ∈ refOf r, u.oneCell' = true := by
  intro u hu
  obtain ⟨s, -, hs⟩ := List.mem_flatMap.1 hu
  simp [St.rc] at hs
  rcases hs with rfl | rfl | rfl | rfl | rfl <;> rfl

/-- The document's list as a row of one's own reads as streams. -/
theorem ref_read {B : Nat} {w : World} {v : Value} {r : List St} (h : w.ownsRow B 62 5 v r.length (refOf r)) : ∃ oa cap, v = .slice oa r.length cap ∧ r.length ≤ cap ∧ cap ≤ maxLen ∧ RefRow w oa r := by
  have hh := h
  rcases h.2 with ⟨rfl, h0⟩ | ⟨g, cap, cur, rfl, hbg, hgg, hnc, hcm, hcs, htake⟩
  · have := List.eq_nil_of_length_eq_zero h0
    subst this
    exact ⟨none, 0, rfl, by simp, by simp, fun i hi => by simp at hi⟩
  · refine ⟨_, cap, rfl, hnc, hcm, fun i hi => ⟨g, 0, rfl, ?_⟩⟩
    have hc : ∀ j, j < 5 → w.cell? ⟨g, 0 + i * 5 + j, none⟩ = r[i].rc[j]? := by
      intro j hj
      rw [Nat.zero_add, hh.cellAt (i * 5 + j) (by omega), refOf_get r i j hi hj]
    exact ⟨hc 0 (by omega), hc 1 (by omega), hc 2 (by omega), hc 3 (by omega), hc 4 (by omega)⟩

/-- A call of a plan's leaves the document's list as it was. -/
theorem ref_keeps {B : Nat} {w w' : World} {v : Value} {n : Nat} {L : List Value} (h : w.ownsRow B 62 5 v n L) (hk : Keeps B w w') : w'.ownsRow B 62 5 v n L := by
  refine ⟨h.1, ?_⟩
  rcases h.2 with h2 | ⟨g, cap, cur, hv, hbg, hgg, hnc, hcm, hcs, htake⟩
  · exact .inl h2
  · refine .inr ⟨g, cap, cur, hv, hbg, ?_, hnc, hcm, hcs, htake⟩
    exact (hk.block g (lt_of_block hgg) (.inr fun cs t fr e => by rw [hgg] at e; simp only [Option.some.injEq, Obj.cells.injEq] at e; obtain ⟨-, rfl, -⟩ := e; exact ⟨by decide, by decide⟩)).trans hgg
end Go.Proofs.YtnkbhpnflfhhnaaGreatDoor
