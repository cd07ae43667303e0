import Derived.Test.YtnkbhpnflfhhnaaGreatDoorQb
namespace Go.Proofs.YtnkbhpnflfhhnaaGreatDoor
open Go.ChangeShapes Go.WideShapes Go.ChangeAt Go.RowKit

theorem indexB_one (s : ByteArray) (c : UInt8) (w : World) : Calls Tryz.prog 126 #[.string s, .string ⟨#[c]⟩] w (Gives w (.int .i64 (Lib.indexByte s.data.toList c))) := by
  refine (Tryz.stringslite_Index_one s c w).mono ?_
  rintro e w1 ⟨rfl, rfl⟩
  exact ⟨rfl, Below.refl _ _⟩

set_option maxRecDepth 100000 in
theorem value_1 (w : World) : Calls Tryz.prog 84 #[.string ⟨#[49]⟩] w (Gives w (.tuple #[.int .i64 1, .bool false, .bool true])) := by
  go_enter Tryz.func84, Tryz.ntmps84
  go_wp2_with fail
  refine (trimPrefix_one 49 (by decide) _).mono ?_
  rintro e w1 ⟨rfl, hb1⟩
  have H1 := Lib.hid hb1
  clear hb1
  go_wp2_with fail
  refine (trim_digits 49 _).mono ?_
  rw [trim_1]
  rintro e w2 ⟨rfl, hb2⟩
  have H2 := Lib.hid (H1.out.trans (hb2.mono H1.out.size))
  clear hb2
  go_wp2_with fail
  refine (parseInt_one 49 _ parse_1 _).mono ?_
  rintro e w3 ⟨rfl, hb3⟩
  have H3 := Lib.hid (H2.out.trans (hb3.mono H2.out.size))
  clear hb3
  go_wp2_with fail
  go_quiet (fail)
  go_wp2_with fail
  refine bodyPost_ret (v := .tuple #[.int .i64 1, .bool false, .bool true]) (by simp [results, Tryz.results84, go_sem]) rfl ⟨rfl, below_drewN H3.out _⟩

set_option maxRecDepth 100000 in
theorem value_9 (w : World) : Calls Tryz.prog 84 #[.string ⟨#[57]⟩] w (Gives w (.tuple #[.int .i64 9, .bool false, .bool true])) := by
  go_enter Tryz.func84, Tryz.ntmps84
  go_wp2_with fail
  refine (trimPrefix_one 57 (by decide) _).mono ?_
  rintro e w1 ⟨rfl, hb1⟩
  have H1 := Lib.hid hb1
  clear hb1
  go_wp2_with fail
  refine (trim_digits 57 _).mono ?_
  rw [trim_9]
  rintro e w2 ⟨rfl, hb2⟩
  have H2 := Lib.hid (H1.out.trans (hb2.mono H1.out.size))
  clear hb2
  go_wp2_with fail
  refine (parseInt_one 57 _ parse_9 _).mono ?_
  rintro e w3 ⟨rfl, hb3⟩
  have H3 := Lib.hid (H2.out.trans (hb3.mono H2.out.size))
  clear hb3
  go_wp2_with fail
  go_quiet (fail)
  go_wp2_with fail
  refine bodyPost_ret (v := .tuple #[.int .i64 9, .bool false, .bool true]) (by simp [results, Tryz.results84, go_sem]) rfl ⟨rfl, below_drewN H3.out _⟩

set_option maxRecDepth 100000 in
theorem value_x (w : World) : Calls Tryz.prog 84 #[.string ⟨#[120]⟩] w (Gives w (.tuple #[.int .i64 0, .bool false, .bool false])) := by
  go_enter Tryz.func84, Tryz.ntmps84
  go_wp2_with fail
  refine (trimPrefix_one 120 (by decide) _).mono ?_
  rintro e w1 ⟨rfl, hb1⟩
  have H1 := Lib.hid hb1
  clear hb1
  go_wp2_with fail
  refine (trim_digits 120 _).mono ?_
  rw [trim_x]
  rintro e w2 ⟨rfl, hb2⟩
  have H2 := Lib.hid (H1.out.trans (hb2.mono H1.out.size))
  clear hb2
  go_wp2_with fail
  refine bodyPost_ret (v := .tuple #[.int .i64 0, .bool false, .bool false]) (by simp [results, Tryz.results84, go_sem]) rfl ⟨rfl, H2.out⟩

theorem lower_two (c : Int) (hc : c = 105 ∨ c = 117) (w : World) : Calls Tryz.prog 123 #[.int .u8 c] w (Gives w (.bool true)) := by
  rcases hc with rfl | rfl <;> (go_enter Tryz.func123, Tryz.ntmps123; go_wp2; go_ret; exact ⟨rfl, Below.refl _ _⟩)

theorem key_empty (w : World) : Calls Tryz.prog 85 #[.string ⟨#[]⟩] w (Gives w (.bool false)) := by
  go_enter Tryz.func85, Tryz.ntmps85
  go_wp2
  go_loopw [7] (fun i wr => i = .int .i64 0 ∧ wr = w) (fun _ _ => 0)
  case atStart => exact ⟨rfl, rfl⟩
  case round =>
    obtain ⟨rfl, rfl⟩ := hrel
    go_wp2
    go_ret
    exact ⟨rfl, Below.refl _ _⟩

set_option maxRecDepth 100000 in
theorem key_one (c : UInt8) (hc : c = 105 ∨ c = 117) (w : World) : Calls Tryz.prog 85 #[.string ⟨#[c]⟩] w (Gives w (.bool true)) := by
  rcases hc with rfl | rfl
  · go_enter Tryz.func85, Tryz.ntmps85
    go_wp2_with fail
    go_loopw [7] (fun i wr => ∃ k : Nat, k ≤ 1 ∧ i = .int .i64 k ∧ Below w.heap.size w wr) (fun i _ => 1 - (intOf i).toNat)
    case atStart => exact ⟨0, by omega, rfl, Below.refl _ _⟩
    case round =>
      obtain ⟨k, hk, rfl, hb⟩ := hrel
      have HB := Lib.hid hb
      clear hb
      rcases (show k = 0 ∨ k = 1 from by omega) with rfl | rfl
      · go_wp2_with fail
        refine (lower_two 105 (by decide) _).mono ?_
        rintro e w2 ⟨rfl, hb2⟩
        have H2 := Lib.hid (HB.out.trans (hb2.mono HB.out.size))
        clear hb2
        go_wp2_with fail
        go_roundw
        case rel => exact ⟨1, by omega, by go_num, H2.out⟩
        case measure => simp [intOf]
      · go_wp2_with fail
        go_ret
        exact ⟨rfl, HB.out⟩
  · go_enter Tryz.func85, Tryz.ntmps85
    go_wp2_with fail
    go_loopw [7] (fun i wr => ∃ k : Nat, k ≤ 1 ∧ i = .int .i64 k ∧ Below w.heap.size w wr) (fun i _ => 1 - (intOf i).toNat)
    case atStart => exact ⟨0, by omega, rfl, Below.refl _ _⟩
    case round =>
      obtain ⟨k, hk, rfl, hb⟩ := hrel
      have HB := Lib.hid hb
      clear hb
      rcases (show k = 0 ∨ k = 1 from by omega) with rfl | rfl
      · go_wp2_with fail
        refine (lower_two 117 (by decide) _).mono ?_
        rintro e w2 ⟨rfl, hb2⟩
        have H2 := Lib.hid (HB.out.trans (hb2.mono HB.out.size))
        clear hb2
        go_wp2_with fail
        go_roundw
        case rel => exact ⟨1, by omega, by go_num, H2.out⟩
        case measure => simp [intOf]
      · go_wp2_with fail
        go_ret
        exact ⟨rfl, HB.out⟩
end Go.Proofs.YtnkbhpnflfhhnaaGreatDoor
