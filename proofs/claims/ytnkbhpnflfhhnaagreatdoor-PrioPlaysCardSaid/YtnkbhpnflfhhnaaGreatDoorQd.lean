import Derived.Test.YtnkbhpnflfhhnaaGreatDoorQc
namespace Go.Proofs.YtnkbhpnflfhhnaaGreatDoor
open Go.ChangeShapes Go.WideShapes Go.ChangeAt Go.RowKit

theorem ix_a : Lib.indexByte (⟨#[105, 61, 63, 48]⟩ : ByteArray).data.toList 61 = 1 := by rfl
set_option maxRecDepth 100000 in
theorem cut2_a (w : World) : Calls Tryz.prog 96 #[.string ⟨#[105, 61, 63, 48]⟩, .string ⟨#[61]⟩] w (Gives w (.tuple #[.string ⟨#[105]⟩, .string ⟨#[63, 48]⟩, .bool true])) := by
  go_enter Tryz.func96, Tryz.ntmps96
  go_wp2_with fail
  refine (indexB_one _ 61 _).mono ?_
  rw [ix_a]
  rintro e w1 ⟨rfl, hb1⟩
  have H1 := Lib.hid hb1
  clear hb1
  go_wp2_with fail
  go_quiet (fail)
  go_wp2_with fail
  refine bodyPost_ret (v := .tuple #[.string ⟨#[105]⟩, .string ⟨#[63, 48]⟩, .bool true]) ?_ rfl ⟨rfl, below_drewN H1.out _⟩
  rw [← show (⟨#[105, 61, 63, 48]⟩ : ByteArray).extract 0 1 = ⟨#[105]⟩ from by decide +kernel, ← show (⟨#[105, 61, 63, 48]⟩ : ByteArray).extract 2 4 = ⟨#[63, 48]⟩ from by decide +kernel]
  simp [results, Tryz.results96, go_sem]
  trace_state
theorem cut_a (w : World) : Calls Tryz.prog 56 #[.string ⟨#[105, 61, 63, 48]⟩, .string ⟨#[61]⟩] w (Gives w (.tuple #[.string ⟨#[105]⟩, .string ⟨#[63, 48]⟩, .bool true])) := by
  go_enter Tryz.func56, Tryz.ntmps56
  go_wp2_with fail
  refine (cut2_a _).mono ?_
  rintro e w1 ⟨rfl, hb1⟩
  have H1 := Lib.hid hb1
  clear hb1
  go_wp2_with fail
  refine bodyPost_ret (v := .tuple #[.string ⟨#[105]⟩, .string ⟨#[63, 48]⟩, .bool true]) (by simp [results, Tryz.results56, go_sem]) rfl ⟨rfl, H1.out⟩

theorem ix_b : Lib.indexByte (⟨#[117, 61, 49]⟩ : ByteArray).data.toList 61 = 1 := by rfl
set_option maxRecDepth 100000 in
theorem cut2_b (w : World) : Calls Tryz.prog 96 #[.string ⟨#[117, 61, 49]⟩, .string ⟨#[61]⟩] w (Gives w (.tuple #[.string ⟨#[117]⟩, .string ⟨#[49]⟩, .bool true])) := by
  go_enter Tryz.func96, Tryz.ntmps96
  go_wp2_with fail
  refine (indexB_one _ 61 _).mono ?_
  rw [ix_b]
  rintro e w1 ⟨rfl, hb1⟩
  have H1 := Lib.hid hb1
  clear hb1
  go_wp2_with fail
  go_quiet (fail)
  go_wp2_with fail
  refine bodyPost_ret (v := .tuple #[.string ⟨#[117]⟩, .string ⟨#[49]⟩, .bool true]) ?_ rfl ⟨rfl, below_drewN H1.out _⟩
  rw [← show (⟨#[117, 61, 49]⟩ : ByteArray).extract 0 1 = ⟨#[117]⟩ from by decide +kernel, ← show (⟨#[117, 61, 49]⟩ : ByteArray).extract 2 3 = ⟨#[49]⟩ from by decide +kernel]
  simp [results, Tryz.results96, go_sem]
  trace_state
theorem cut_b (w : World) : Calls Tryz.prog 56 #[.string ⟨#[117, 61, 49]⟩, .string ⟨#[61]⟩] w (Gives w (.tuple #[.string ⟨#[117]⟩, .string ⟨#[49]⟩, .bool true])) := by
  go_enter Tryz.func56, Tryz.ntmps56
  go_wp2_with fail
  refine (cut2_b _).mono ?_
  rintro e w1 ⟨rfl, hb1⟩
  have H1 := Lib.hid hb1
  clear hb1
  go_wp2_with fail
  refine bodyPost_ret (v := .tuple #[.string ⟨#[117]⟩, .string ⟨#[49]⟩, .bool true]) (by simp [results, Tryz.results56, go_sem]) rfl ⟨rfl, H1.out⟩

theorem ix_c : Lib.indexByte (⟨#[117, 61, 57]⟩ : ByteArray).data.toList 61 = 1 := by rfl
set_option maxRecDepth 100000 in
theorem cut2_c (w : World) : Calls Tryz.prog 96 #[.string ⟨#[117, 61, 57]⟩, .string ⟨#[61]⟩] w (Gives w (.tuple #[.string ⟨#[117]⟩, .string ⟨#[57]⟩, .bool true])) := by
  go_enter Tryz.func96, Tryz.ntmps96
  go_wp2_with fail
  refine (indexB_one _ 61 _).mono ?_
  rw [ix_c]
  rintro e w1 ⟨rfl, hb1⟩
  have H1 := Lib.hid hb1
  clear hb1
  go_wp2_with fail
  go_quiet (fail)
  go_wp2_with fail
  refine bodyPost_ret (v := .tuple #[.string ⟨#[117]⟩, .string ⟨#[57]⟩, .bool true]) ?_ rfl ⟨rfl, below_drewN H1.out _⟩
  rw [← show (⟨#[117, 61, 57]⟩ : ByteArray).extract 0 1 = ⟨#[117]⟩ from by decide +kernel, ← show (⟨#[117, 61, 57]⟩ : ByteArray).extract 2 3 = ⟨#[57]⟩ from by decide +kernel]
  simp [results, Tryz.results96, go_sem]
  trace_state
theorem cut_c (w : World) : Calls Tryz.prog 56 #[.string ⟨#[117, 61, 57]⟩, .string ⟨#[61]⟩] w (Gives w (.tuple #[.string ⟨#[117]⟩, .string ⟨#[57]⟩, .bool true])) := by
  go_enter Tryz.func56, Tryz.ntmps56
  go_wp2_with fail
  refine (cut2_c _).mono ?_
  rintro e w1 ⟨rfl, hb1⟩
  have H1 := Lib.hid hb1
  clear hb1
  go_wp2_with fail
  refine bodyPost_ret (v := .tuple #[.string ⟨#[117]⟩, .string ⟨#[57]⟩, .bool true]) (by simp [results, Tryz.results56, go_sem]) rfl ⟨rfl, H1.out⟩

theorem ix_d : Lib.indexByte (⟨#[105]⟩ : ByteArray).data.toList 61 = -1 := by rfl
set_option maxRecDepth 100000 in
theorem cut2_d (w : World) : Calls Tryz.prog 96 #[.string ⟨#[105]⟩, .string ⟨#[61]⟩] w (Gives w (.tuple #[.string ⟨#[105]⟩, .string ⟨#[]⟩, .bool false])) := by
  go_enter Tryz.func96, Tryz.ntmps96
  go_wp2_with fail
  refine (indexB_one _ 61 _).mono ?_
  rw [ix_d]
  rintro e w1 ⟨rfl, hb1⟩
  have H1 := Lib.hid hb1
  clear hb1
  go_wp2_with fail
  refine bodyPost_ret (v := .tuple #[.string ⟨#[105]⟩, .string ⟨#[]⟩, .bool false]) (by simp [results, Tryz.results96, go_sem]) rfl ⟨rfl, H1.out⟩
theorem cut_d (w : World) : Calls Tryz.prog 56 #[.string ⟨#[105]⟩, .string ⟨#[61]⟩] w (Gives w (.tuple #[.string ⟨#[105]⟩, .string ⟨#[]⟩, .bool false])) := by
  go_enter Tryz.func56, Tryz.ntmps56
  go_wp2_with fail
  refine (cut2_d _).mono ?_
  rintro e w1 ⟨rfl, hb1⟩
  have H1 := Lib.hid hb1
  clear hb1
  go_wp2_with fail
  refine bodyPost_ret (v := .tuple #[.string ⟨#[105]⟩, .string ⟨#[]⟩, .bool false]) (by simp [results, Tryz.results56, go_sem]) rfl ⟨rfl, H1.out⟩

theorem ix_e : Lib.indexByte (⟨#[117, 61, 120]⟩ : ByteArray).data.toList 61 = 1 := by rfl
set_option maxRecDepth 100000 in
theorem cut2_e (w : World) : Calls Tryz.prog 96 #[.string ⟨#[117, 61, 120]⟩, .string ⟨#[61]⟩] w (Gives w (.tuple #[.string ⟨#[117]⟩, .string ⟨#[120]⟩, .bool true])) := by
  go_enter Tryz.func96, Tryz.ntmps96
  go_wp2_with fail
  refine (indexB_one _ 61 _).mono ?_
  rw [ix_e]
  rintro e w1 ⟨rfl, hb1⟩
  have H1 := Lib.hid hb1
  clear hb1
  go_wp2_with fail
  go_quiet (fail)
  go_wp2_with fail
  refine bodyPost_ret (v := .tuple #[.string ⟨#[117]⟩, .string ⟨#[120]⟩, .bool true]) ?_ rfl ⟨rfl, below_drewN H1.out _⟩
  rw [← show (⟨#[117, 61, 120]⟩ : ByteArray).extract 0 1 = ⟨#[117]⟩ from by decide +kernel, ← show (⟨#[117, 61, 120]⟩ : ByteArray).extract 2 3 = ⟨#[120]⟩ from by decide +kernel]
  simp [results, Tryz.results96, go_sem]
  trace_state
theorem cut_e (w : World) : Calls Tryz.prog 56 #[.string ⟨#[117, 61, 120]⟩, .string ⟨#[61]⟩] w (Gives w (.tuple #[.string ⟨#[117]⟩, .string ⟨#[120]⟩, .bool true])) := by
  go_enter Tryz.func56, Tryz.ntmps56
  go_wp2_with fail
  refine (cut2_e _).mono ?_
  rintro e w1 ⟨rfl, hb1⟩
  have H1 := Lib.hid hb1
  clear hb1
  go_wp2_with fail
  refine bodyPost_ret (v := .tuple #[.string ⟨#[117]⟩, .string ⟨#[120]⟩, .bool true]) (by simp [results, Tryz.results56, go_sem]) rfl ⟨rfl, H1.out⟩

theorem ix_f : Lib.indexByte (⟨#[]⟩ : ByteArray).data.toList 61 = -1 := by rfl
set_option maxRecDepth 100000 in
theorem cut2_f (w : World) : Calls Tryz.prog 96 #[.string ⟨#[]⟩, .string ⟨#[61]⟩] w (Gives w (.tuple #[.string ⟨#[]⟩, .string ⟨#[]⟩, .bool false])) := by
  go_enter Tryz.func96, Tryz.ntmps96
  go_wp2_with fail
  refine (indexB_one _ 61 _).mono ?_
  rw [ix_f]
  rintro e w1 ⟨rfl, hb1⟩
  have H1 := Lib.hid hb1
  clear hb1
  go_wp2_with fail
  refine bodyPost_ret (v := .tuple #[.string ⟨#[]⟩, .string ⟨#[]⟩, .bool false]) (by simp [results, Tryz.results96, go_sem]) rfl ⟨rfl, H1.out⟩
theorem cut_f (w : World) : Calls Tryz.prog 56 #[.string ⟨#[]⟩, .string ⟨#[61]⟩] w (Gives w (.tuple #[.string ⟨#[]⟩, .string ⟨#[]⟩, .bool false])) := by
  go_enter Tryz.func56, Tryz.ntmps56
  go_wp2_with fail
  refine (cut2_f _).mono ?_
  rintro e w1 ⟨rfl, hb1⟩
  have H1 := Lib.hid hb1
  clear hb1
  go_wp2_with fail
  refine bodyPost_ret (v := .tuple #[.string ⟨#[]⟩, .string ⟨#[]⟩, .bool false]) (by simp [results, Tryz.results56, go_sem]) rfl ⟨rfl, H1.out⟩
end Go.Proofs.YtnkbhpnflfhhnaaGreatDoor
