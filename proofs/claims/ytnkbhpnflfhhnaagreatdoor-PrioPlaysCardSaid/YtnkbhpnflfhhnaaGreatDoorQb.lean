import Derived.Test.YtnkbhpnflfhhnaaGreatDoorQa
import Derived.Test.YtnkbhpnflfhhnaaGreatDoorShelfB
namespace Go.Proofs.YtnkbhpnflfhhnaaGreatDoor
open Go.ChangeShapes Go.WideShapes Go.ChangeAt Go.RowKit

theorem hasPrefix_one (c : UInt8) (hc : c = 49 ∨ c = 57 ∨ c = 120) (w : World) : Calls Tryz.prog 103 #[.string ⟨#[c]⟩, .string ⟨#[45]⟩] w (Gives w (.bool false)) := by
  rcases hc with rfl | rfl | rfl <;> (go_enter Tryz.func103, Tryz.ntmps103; go_wp2; go_ret; exact ⟨by first | rfl | (simp; decide +kernel), Below.refl _ _⟩)

theorem trimPrefix2_one (c : UInt8) (hc : c = 49 ∨ c = 57 ∨ c = 120) (w : World) : Calls Tryz.prog 147 #[.string ⟨#[c]⟩, .string ⟨#[45]⟩] w (Gives w (.string ⟨#[c]⟩)) := by
  go_enter Tryz.func147, Tryz.ntmps147
  go_wp2_with fail
  refine (hasPrefix_one c hc _).mono ?_
  rintro e w1 ⟨rfl, hb1⟩
  have H1 := Lib.hid hb1
  clear hb1
  go_wp2_with fail
  go_ret
  exact ⟨rfl, H1.out⟩

theorem trimPrefix_one (c : UInt8) (hc : c = 49 ∨ c = 57 ∨ c = 120) (w : World) : Calls Tryz.prog 121 #[.string ⟨#[c]⟩, .string ⟨#[45]⟩] w (Gives w (.string ⟨#[c]⟩)) := by
  go_enter Tryz.func121, Tryz.ntmps121
  go_wp2_with fail
  refine (trimPrefix2_one c hc _).mono ?_
  rintro e w1 ⟨rfl, hb1⟩
  have H1 := Lib.hid hb1
  clear hb1
  go_wp2_with fail
  go_ret
  exact ⟨rfl, H1.out⟩

theorem value_no (w : World) : Calls Tryz.prog 84 #[.string ⟨#[63, 48]⟩] w (Gives w (.tuple #[.int .i64 0, .bool true, .bool true])) := by
  go_enter Tryz.func84, Tryz.ntmps84
  go_wp2
  refine bodyPost_ret (v := .tuple #[.int .i64 0, .bool true, .bool true]) (by simp [results, Tryz.results84, go_sem]) rfl ⟨rfl, Below.refl _ _⟩

theorem value_yes (w : World) : Calls Tryz.prog 84 #[.string ⟨#[63, 49]⟩] w (Gives w (.tuple #[.int .i64 1, .bool true, .bool true])) := by
  go_enter Tryz.func84, Tryz.ntmps84
  go_wp2
  refine bodyPost_ret (v := .tuple #[.int .i64 1, .bool true, .bool true]) (by simp [results, Tryz.results84, go_sem]) rfl ⟨rfl, Below.refl _ _⟩

theorem trim_digits (c : UInt8) (w : World) : Calls Tryz.prog 46 #[.string ⟨#[c]⟩, .string ⟨#[48, 49, 50, 51, 52, 53, 54, 55, 56, 57]⟩] w (Gives w (.string ⟨(Lib.trimS [c] [48, 49, 50, 51, 52, 53, 54, 55, 56, 57]).toArray⟩)) :=
  Any.strings_Trim_laid Tryz.lays160 (by kernel_rfl) ⟨#[c]⟩ ⟨#[48, 49, 50, 51, 52, 53, 54, 55, 56, 57]⟩ w (show [c].length ≤ _ from by simp) (by decide) (ascii_of_all (by decide))
theorem trim_1 : (⟨(Lib.trimS [49] [48, 49, 50, 51, 52, 53, 54, 55, 56, 57]).toArray⟩ : ByteArray) = ⟨#[]⟩ := by rfl
theorem trim_9 : (⟨(Lib.trimS [57] [48, 49, 50, 51, 52, 53, 54, 55, 56, 57]).toArray⟩ : ByteArray) = ⟨#[]⟩ := by rfl
theorem trim_x : (⟨(Lib.trimS [120] [48, 49, 50, 51, 52, 53, 54, 55, 56, 57]).toArray⟩ : ByteArray) = ⟨#[120]⟩ := by rfl

theorem parseInt_one (c : UInt8) (v : Int) (h : Lib.parseIntB 64 [c] = .ok v) (w : World) : Calls Tryz.prog 122 #[.string ⟨#[c]⟩, .int .i64 10, .int .i64 64] w (Gives w (.tuple #[.int .i64 v, .nilIface])) := by
  refine (Any.strconv_ParseInt_10_at64_ok Tryz.laysC174 ⟨#[c]⟩ (show [c].length ≤ _ from by simp) v h w).mono ?_
  rintro e w1 ⟨rfl, h1⟩
  refine ⟨rfl, ?_⟩
  rcases h1 with rfl | ⟨t, rfl⟩
  · exact Below.refl _ _
  · exact Lib.bytesWorld_below _ _ _
theorem parse_1 : Lib.parseIntB 64 [49] = .ok 1 := by rfl
theorem parse_9 : Lib.parseIntB 64 [57] = .ok 9 := by rfl
end Go.Proofs.YtnkbhpnflfhhnaaGreatDoor
