import Derived.Test.YtnkbhpnflfhhnaaGreatDoorQi
namespace Go.Proofs.YtnkbhpnflfhhnaaGreatDoor
open Go.ChangeShapes Go.WideShapes Go.ChangeAt Go.RowKit

def partF (x : ByteArray) (s : Int × Bool) : Option (Int × Bool) :=
  if x = ⟨#[105, 61, 63, 48]⟩ then some (s.1, false) else
  if x = ⟨#[117, 61, 49]⟩ then some (1, s.2) else
  if x = ⟨#[117, 61, 57]⟩ then some (3, s.2) else
  if x = ⟨#[32, 105]⟩ then some (s.1, true) else
  if x = ⟨#[117, 61, 120]⟩ then none else
  if x = ⟨#[]⟩ then none else
  if x = ⟨#[105]⟩ then some (s.1, true) else
  none
theorem partF_a (s : Int × Bool) : partF ⟨#[105, 61, 63, 48]⟩ s = some (s.1, false) := by
  unfold partF
  rw [if_pos rfl]
theorem partC_a (pb : Nat) (u : Int) (i : Bool) (w : World) (hp : PriAt w pb u i) : Calls Tryz.prog 48 #[.pointer (some ⟨pb, 0, none⟩), .string ⟨#[105, 61, 63, 48]⟩] w (PartDoes w pb (partF ⟨#[105, 61, 63, 48]⟩ (u, i))) := by
  rw [partF_a]
  exact part_a pb u i w hp
theorem partF_b (s : Int × Bool) : partF ⟨#[117, 61, 49]⟩ s = some (1, s.2) := by
  unfold partF
  rw [if_neg (by decide)]
  rw [if_pos rfl]
theorem partC_b (pb : Nat) (u : Int) (i : Bool) (w : World) (hp : PriAt w pb u i) : Calls Tryz.prog 48 #[.pointer (some ⟨pb, 0, none⟩), .string ⟨#[117, 61, 49]⟩] w (PartDoes w pb (partF ⟨#[117, 61, 49]⟩ (u, i))) := by
  rw [partF_b]
  exact part_b pb u i w hp
theorem partF_c (s : Int × Bool) : partF ⟨#[117, 61, 57]⟩ s = some (3, s.2) := by
  unfold partF
  rw [if_neg (by decide)]
  rw [if_neg (by decide)]
  rw [if_pos rfl]
theorem partC_c (pb : Nat) (u : Int) (i : Bool) (w : World) (hp : PriAt w pb u i) : Calls Tryz.prog 48 #[.pointer (some ⟨pb, 0, none⟩), .string ⟨#[117, 61, 57]⟩] w (PartDoes w pb (partF ⟨#[117, 61, 57]⟩ (u, i))) := by
  rw [partF_c]
  exact part_c pb u i w hp
theorem partF_d (s : Int × Bool) : partF ⟨#[32, 105]⟩ s = some (s.1, true) := by
  unfold partF
  rw [if_neg (by decide)]
  rw [if_neg (by decide)]
  rw [if_neg (by decide)]
  rw [if_pos rfl]
theorem partC_d (pb : Nat) (u : Int) (i : Bool) (w : World) (hp : PriAt w pb u i) : Calls Tryz.prog 48 #[.pointer (some ⟨pb, 0, none⟩), .string ⟨#[32, 105]⟩] w (PartDoes w pb (partF ⟨#[32, 105]⟩ (u, i))) := by
  rw [partF_d]
  exact part_d pb u i w hp
theorem partF_e (s : Int × Bool) : partF ⟨#[117, 61, 120]⟩ s = none := by
  unfold partF
  rw [if_neg (by decide)]
  rw [if_neg (by decide)]
  rw [if_neg (by decide)]
  rw [if_neg (by decide)]
  rw [if_pos rfl]
theorem partC_e (pb : Nat) (u : Int) (i : Bool) (w : World) (hp : PriAt w pb u i) : Calls Tryz.prog 48 #[.pointer (some ⟨pb, 0, none⟩), .string ⟨#[117, 61, 120]⟩] w (PartDoes w pb (partF ⟨#[117, 61, 120]⟩ (u, i))) := by
  rw [partF_e]
  exact part_e pb u i w hp
theorem partF_f (s : Int × Bool) : partF ⟨#[]⟩ s = none := by
  unfold partF
  rw [if_neg (by decide)]
  rw [if_neg (by decide)]
  rw [if_neg (by decide)]
  rw [if_neg (by decide)]
  rw [if_neg (by decide)]
  rw [if_pos rfl]
theorem partC_f (pb : Nat) (u : Int) (i : Bool) (w : World) (hp : PriAt w pb u i) : Calls Tryz.prog 48 #[.pointer (some ⟨pb, 0, none⟩), .string ⟨#[]⟩] w (PartDoes w pb (partF ⟨#[]⟩ (u, i))) := by
  rw [partF_f]
  exact part_f pb u i w hp
theorem partF_g (s : Int × Bool) : partF ⟨#[105]⟩ s = some (s.1, true) := by
  unfold partF
  rw [if_neg (by decide)]
  rw [if_neg (by decide)]
  rw [if_neg (by decide)]
  rw [if_neg (by decide)]
  rw [if_neg (by decide)]
  rw [if_neg (by decide)]
  rw [if_pos rfl]
theorem partC_g (pb : Nat) (u : Int) (i : Bool) (w : World) (hp : PriAt w pb u i) : Calls Tryz.prog 48 #[.pointer (some ⟨pb, 0, none⟩), .string ⟨#[105]⟩] w (PartDoes w pb (partF ⟨#[105]⟩ (u, i))) := by
  rw [partF_g]
  exact part_g pb u i w hp

theorem splits_A : SplitsTo ⟨#[105, 61, 63, 48, 44, 117, 61, 49]⟩ [⟨#[105, 61, 63, 48]⟩, ⟨#[117, 61, 49]⟩] :=
  ⟨4, by rfl, by decide, by decide +kernel, by decide +kernel, by rfl⟩
theorem fold_A : foldParts partF [⟨#[105, 61, 63, 48]⟩, ⟨#[117, 61, 49]⟩] (3, false) = some (1, false) := by
  simp only [foldParts, partF_a, partF_b]
theorem parse_A (w : World) : Calls Tryz.prog 17 #[.string ⟨#[105, 61, 63, 48, 44, 117, 61, 49]⟩] w (Gives w (.tuple #[.agg #[.int .u8 1, .bool false], .int .i64 0])) := by
  have h := parse_gen ⟨#[105, 61, 63, 48, 44, 117, 61, 49]⟩ ⟨#[105, 61, 63, 48, 44, 117, 61, 49]⟩ (by decide) (by decide +kernel) (by decide +kernel) [⟨#[105, 61, 63, 48]⟩, ⟨#[117, 61, 49]⟩] splits_A partF ?_ w
  · rw [fold_A] at h
    exact h
  · intro x hx
    rcases List.mem_cons.1 hx with rfl | hx
    · exact partC_a
    · obtain rfl := List.mem_singleton.1 hx
      exact partC_b

theorem splits_B : SplitsTo ⟨#[117, 61, 57, 44, 32, 105]⟩ [⟨#[117, 61, 57]⟩, ⟨#[32, 105]⟩] :=
  ⟨3, by rfl, by decide, by decide +kernel, by decide +kernel, by rfl⟩
theorem fold_B : foldParts partF [⟨#[117, 61, 57]⟩, ⟨#[32, 105]⟩] (3, false) = some (3, true) := by
  simp only [foldParts, partF_c, partF_d]
theorem parse_B (w : World) : Calls Tryz.prog 17 #[.string ⟨#[117, 61, 57, 44, 32, 105]⟩] w (Gives w (.tuple #[.agg #[.int .u8 3, .bool true], .int .i64 0])) := by
  have h := parse_gen ⟨#[117, 61, 57, 44, 32, 105]⟩ ⟨#[117, 61, 57, 44, 32, 105]⟩ (by decide) (by decide +kernel) (by decide +kernel) [⟨#[117, 61, 57]⟩, ⟨#[32, 105]⟩] splits_B partF ?_ w
  · rw [fold_B] at h
    exact h
  · intro x hx
    rcases List.mem_cons.1 hx with rfl | hx
    · exact partC_c
    · obtain rfl := List.mem_singleton.1 hx
      exact partC_d

theorem splits_C : SplitsTo ⟨#[117, 61, 49, 44, 117, 61, 120]⟩ [⟨#[117, 61, 49]⟩, ⟨#[117, 61, 120]⟩] :=
  ⟨3, by rfl, by decide, by decide +kernel, by decide +kernel, by rfl⟩
theorem fold_C : foldParts partF [⟨#[117, 61, 49]⟩, ⟨#[117, 61, 120]⟩] (3, false) = none := by
  simp only [foldParts, partF_b, partF_e]
theorem parse_C (w : World) : Calls Tryz.prog 17 #[.string ⟨#[117, 61, 49, 44, 117, 61, 120]⟩] w (Gives w (.tuple #[.agg #[.int .u8 0, .bool false], .int .i64 2])) := by
  have h := parse_gen ⟨#[117, 61, 49, 44, 117, 61, 120]⟩ ⟨#[117, 61, 49, 44, 117, 61, 120]⟩ (by decide) (by decide +kernel) (by decide +kernel) [⟨#[117, 61, 49]⟩, ⟨#[117, 61, 120]⟩] splits_C partF ?_ w
  · rw [fold_C] at h
    exact h
  · intro x hx
    rcases List.mem_cons.1 hx with rfl | hx
    · exact partC_b
    · obtain rfl := List.mem_singleton.1 hx
      exact partC_e

theorem splits_D : SplitsTo ⟨#[44, 105]⟩ [⟨#[]⟩, ⟨#[105]⟩] :=
  ⟨0, by rfl, by decide, by decide +kernel, by decide +kernel, by rfl⟩
theorem fold_D : foldParts partF [⟨#[]⟩, ⟨#[105]⟩] (3, false) = none := by
  simp only [foldParts, partF_f]
theorem parse_D (w : World) : Calls Tryz.prog 17 #[.string ⟨#[44, 105]⟩] w (Gives w (.tuple #[.agg #[.int .u8 0, .bool false], .int .i64 2])) := by
  have h := parse_gen ⟨#[44, 105]⟩ ⟨#[44, 105]⟩ (by decide) (by decide +kernel) (by decide +kernel) [⟨#[]⟩, ⟨#[105]⟩] splits_D partF ?_ w
  · rw [fold_D] at h
    exact h
  · intro x hx
    rcases List.mem_cons.1 hx with rfl | hx
    · exact partC_f
    · obtain rfl := List.mem_singleton.1 hx
      exact partC_g
end Go.Proofs.YtnkbhpnflfhhnaaGreatDoor
