import Derived.Test.YtbmfjffccfmhmaaClM
namespace Go.Proofs.Ytbmfjffccfmhmaa
open Go.ChangeShapes Go.WideShapes Go.ChangeAt Go.RowKit

def spZ : Sp := ⟨false, 0, .slice none 0 0, false, false, 0, 0, 0, 0⟩
def spUp (b : Nat) (due ls : Int) : Sp := ⟨true, due, .slice (some ⟨b, 0, none⟩) 1 1, true, false, 0, ls, 1000, 1⟩
def stUp (phase close : Int) (b : Nat) (due ls : Int) : St := ⟨true, phase, close, 9000000, 0, false, fun n => if n = 2 then spUp b due ls else spZ⟩
noncomputable def upD (b : Nat) : Array Value := (upB b).setIfInBounds 693 (.int .u64 5000)
noncomputable def upE (b : Nat) : Array Value := (upD b).setIfInBounds 698 (.int .u64 3000)
noncomputable def upF (b : Nat) : Array Value := ((upB b).setIfInBounds 1 (.int .u8 4)).setIfInBounds 1035 (.int .u64 77)
theorem three {p : Nat → Prop} (h0 : p 0) (h1 : p 1) (h2 : p 2) : ∀ n, n < 3 → p n := by
  intro n hn
  have : n = 0 ∨ n = 1 ∨ n = 2 := by omega
  rcases this with rfl | rfl | rfl <;> assumption
theorem up_at (b : Nat) : StAt (upB b) (stUp 2 0 b 0 0) := by
  refine ⟨upB_size b, upB_ones b, ?_, ?_, ?_, ?_, ?_, ?_, ?_, ?_, ?_, ?_, ?_, three ?_ ?_ ?_⟩
  all_goals first | kernel_rfl | (refine ⟨?_, ?_, ?_, ?_, ?_, ?_, ?_, ?_⟩ <;> kernel_rfl)
theorem upD_at (b : Nat) : StAt (upD b) (stUp 2 0 b 5000 0) := by
  refine ⟨?_, ?_, ?_, ?_, ?_, ?_, ?_, ?_, ?_, ?_, ?_, ?_, ?_, three ?_ ?_ ?_⟩
  all_goals first | kernel_rfl | (refine ⟨?_, ?_, ?_, ?_, ?_, ?_, ?_, ?_⟩ <;> kernel_rfl)
theorem upE_at (b : Nat) : StAt (upE b) (stUp 2 0 b 5000 3000) := by
  refine ⟨?_, ?_, ?_, ?_, ?_, ?_, ?_, ?_, ?_, ?_, ?_, ?_, ?_, three ?_ ?_ ?_⟩
  all_goals first | kernel_rfl | (refine ⟨?_, ?_, ?_, ?_, ?_, ?_, ?_, ?_⟩ <;> kernel_rfl)
theorem upF_at (b : Nat) : StAt (upF b) (stUp 4 77 b 0 0) := by
  refine ⟨?_, ?_, ?_, ?_, ?_, ?_, ?_, ?_, ?_, ?_, ?_, ?_, ?_, three ?_ ?_ ?_⟩
  all_goals first | kernel_rfl | (refine ⟨?_, ?_, ?_, ?_, ?_, ?_, ?_, ?_⟩ <;> kernel_rfl)
theorem next_up (b : Nat) : nextOf (stUp 2 0 b 0 0) = (⟨1000000, 4, 2⟩, true) := by kernel_rfl
theorem next_upD (b : Nat) : nextOf (stUp 2 0 b 5000 0) = (⟨5000, 5, 2⟩, true) := by kernel_rfl
theorem next_upE (b : Nat) : nextOf (stUp 2 0 b 5000 3000) = (⟨3000, 3, 2⟩, true) := by kernel_rfl
theorem next_upF (b : Nat) : nextOf (stUp 4 77 b 0 0) = (⟨77, 1, 0⟩, true) := by kernel_rfl
theorem all_upF (b : Nat) : allOf (stUp 4 77 b 0 0) = [⟨77, 1, 0⟩] := by kernel_rfl
theorem asked_up {C : Array Value} {phase close due ls : Int} {b : Nat} {w : World} (h : StAt C (stUp phase close b due ls)) (hb : w.heap[b]? = some (.cells #[.int .u64 0, .int .u64 1000, .int .u64 0, .bool true, .int .u64 0, .slice none 0 0] 92 (0, 0))) : Asked C (stUp phase close b due ls) w :=
  ⟨h, three (.inl ⟨rfl, rfl⟩) (.inl ⟨rfl, rfl⟩) (.inr ⟨rfl, b, rfl, hb⟩), by show (0 : Int) < _; omega, three (by simp [stUp, spZ]) (by simp [stUp, spZ]) (by simp [stUp, spUp])⟩
/-- States of no packets. -/
def stOf (server : Bool) (phase idle : Int) (pto : Nat) (has : Bool) : St := ⟨server, phase, 0, idle, pto, false, fun n => if n = 0 then { spZ with has := has } else spZ⟩
noncomputable def deadA : Array Value := st80 [(1, .int .u8 5), (15, .int .u64 5)]
theorem dead_built : Try.prog.built 80 [(1, .int .u8 5), (15, .int .u64 5)] = some deadA := by kernel_rfl
noncomputable def servA : Array Value := st80 [(0, .bool true)]
theorem serv_built : Try.prog.built 80 [(0, .bool true)] = some servA := by kernel_rfl
noncomputable def cliA : Array Value := st80 [(14, .int .u64 1)]
theorem cli_built : Try.prog.built 80 [(14, .int .u64 1)] = some cliA := by kernel_rfl
theorem cliA_size : cliA.size = 1037 := by kernel_rfl
theorem cliA_ones : cliA.toList.all (·.oneCell') = true := by kernel_rfl
noncomputable def cliB : Array Value := cliA.setIfInBounds 297 (.bool true)
theorem dead_at : StAt deadA (stOf false 5 5 0 false) := by
  refine ⟨?_, ?_, ?_, ?_, ?_, ?_, ?_, ?_, ?_, ?_, ?_, ?_, ?_, three ?_ ?_ ?_⟩
  all_goals first | kernel_rfl | (refine ⟨?_, ?_, ?_, ?_, ?_, ?_, ?_, ?_⟩ <;> kernel_rfl)
theorem serv_at : StAt servA (stOf true 0 0 0 false) := by
  refine ⟨?_, ?_, ?_, ?_, ?_, ?_, ?_, ?_, ?_, ?_, ?_, ?_, ?_, three ?_ ?_ ?_⟩
  all_goals first | kernel_rfl | (refine ⟨?_, ?_, ?_, ?_, ?_, ?_, ?_, ?_⟩ <;> kernel_rfl)
theorem cli_at : StAt cliB (stOf false 0 0 1 true) := by
  refine ⟨?_, ?_, ?_, ?_, ?_, ?_, ?_, ?_, ?_, ?_, ?_, ?_, ?_, three ?_ ?_ ?_⟩
  all_goals first | kernel_rfl | (refine ⟨?_, ?_, ?_, ?_, ?_, ?_, ?_, ?_⟩ <;> kernel_rfl)
theorem next_dead : nextOf (stOf false 5 5 0 false) = (⟨0, 0, 0⟩, false) := by kernel_rfl
theorem next_serv : nextOf (stOf true 0 0 0 false) = (⟨0, 0, 0⟩, false) := by kernel_rfl
theorem next_cli : nextOf (stOf false 0 0 1 true) = (⟨1998000, 4, 0⟩, true) := by kernel_rfl
theorem upB_693 (b : Nat) : (upB b)[693]? = some (.int .u64 0) := by kernel_rfl
theorem upD_698 (b : Nat) : (upD b)[698]? = some (.int .u64 0) := by kernel_rfl
theorem upB_phase (b : Nat) : (upB b)[1]? = some (.int .u8 2) := by kernel_rfl
theorem upB_close (b : Nat) : ((upB b).setIfInBounds 1 (.int .u8 4))[1035]? = some (.int .u64 0) := by kernel_rfl
theorem cliA_297 : cliA[297]? = some (.bool false) := by kernel_rfl
theorem asked_of {C : Array Value} {server has : Bool} {phase idle : Int} {pto : Nat} {w : World} (h : StAt C (stOf server phase idle pto has)) (hp : pto ≤ 1) : Asked C (stOf server phase idle pto has) w :=
  ⟨h, three (.inl ⟨rfl, rfl⟩) (.inl ⟨rfl, rfl⟩) (.inl ⟨rfl, rfl⟩), by show (pto : Int) < _; omega, three (by simp [stOf, spZ]) (by simp [stOf, spZ]) (by simp [stOf, spZ])⟩
end Go.Proofs.Ytbmfjffccfmhmaa
