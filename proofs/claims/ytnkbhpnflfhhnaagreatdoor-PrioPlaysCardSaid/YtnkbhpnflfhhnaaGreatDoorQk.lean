import Derived.Test.YtnkbhpnflfhhnaaGreatDoorQj
namespace Go.Proofs.YtnkbhpnflfhhnaaGreatDoor
open Go.ChangeShapes Go.WideShapes Go.ChangeAt Go.RowKit

theorem rising_iff (xs : List St) : Rising xs ↔ xs.Pairwise (fun a b => a.id < b.id) := by
  rw [List.pairwise_iff_getElem]
  exact ⟨fun h i j hi hj hij => h i j hi hj hij, fun h i j hi hj hij => h i j hi hj hij⟩

theorem next_plan (B b : Nat) (v : Value) (xs : List St) (clk : Int) (w : World) (h : PlanAt B w b v xs clk) : Calls Tryz.prog 18 #[.pointer (some ⟨b, 0, none⟩)] w (Gives w (nextId xs)) := by
  obtain ⟨oa, cap, rfl, h1, h2, hx⟩ := h.read
  have hl := h.len
  exact next_at b oa xs cap clk w h.blk hx (by omega)

/-! The document's example: what the plan holds, step by step. -/
def ex1 : List St := [⟨4, 3, false, false, 0⟩]
def ex2 : List St := [⟨0, 3, false, false, 0⟩, ⟨4, 3, false, false, 0⟩]
def ex3 (a b c : Bool) (s : Int) : List St := [⟨0, 3, false, a, 0⟩, ⟨4, 3, false, b, 0⟩, ⟨8, 1, true, c, s⟩]
def ex4 : List St := [⟨0, 3, false, true, 0⟩, ⟨4, 3, false, true, 0⟩]
theorem ex1_eq : setXs [] 4 3 false = ex1 := by rfl
theorem ex2_eq : setXs ex1 0 3 false = ex2 := by rfl
theorem ex3_eq : setXs ex2 8 1 true = ex3 false false false 0 := by rfl
theorem rd0_eq : upd (ex3 false false false 0) 0 (fun s => { s with rdy := true }) = ex3 true false false 0 := by rfl
theorem rd1_eq : upd (ex3 true false false 0) 4 (fun s => { s with rdy := true }) = ex3 true true false 0 := by rfl
theorem rd2_eq : upd (ex3 true true false 0) 8 (fun s => { s with rdy := true }) = ex3 true true true 0 := by rfl
theorem hs0_eq : hasId (ex3 false false false 0) 0 = true := by rfl
theorem hs1_eq : hasId (ex3 true false false 0) 4 = true := by rfl
theorem hs2_eq : hasId (ex3 true true false 0) 8 = true := by rfl
theorem sv_eq (k : Int) (hk : k = 0 ∨ k = 1 ∨ k = 2) : served (ex3 true true true k) k = ex3 true true true (k + 1) := by rcases hk with rfl | rfl | rfl <;> rfl
theorem sc_eq (k : Int) (hk : k = 0 ∨ k = 1 ∨ k = 2) : servedClk (ex3 true true true k) k = k + 1 := by rcases hk with rfl | rfl | rfl <;> rfl
theorem ni_eq (k : Int) (hk : k = 0 ∨ k = 1 ∨ k = 2) : nextId (ex3 true true true k) = .tuple #[.int .u64 8, .bool true] := by rcases hk with rfl | rfl | rfl <;> rfl
theorem dr_eq : dropped (ex3 true true true 3) [8] = ex4 := by rfl
theorem n4_eq : nextId ex4 = .tuple #[.int .u64 0, .bool true] := by rfl
theorem r1 : Rising ex1 := (rising_iff _).2 (by simp [ex1])
theorem r0 : Rising [] := (rising_iff _).2 (by simp)
theorem r2 : Rising ex2 := (rising_iff _).2 (by simp [ex2])
theorem r3 (a b c : Bool) (s : Int) : Rising (ex3 a b c s) := (rising_iff _).2 (by simp [ex3])
theorem r4 : Rising ex4 := (rising_iff _).2 (by simp [ex4])
end Go.Proofs.YtnkbhpnflfhhnaaGreatDoor
