import Derived.Test.YtnkbhpnflfhhnaaGreatDoorQd
namespace Go.Proofs.YtnkbhpnflfhhnaaGreatDoor
open Go.ChangeShapes Go.WideShapes Go.ChangeAt Go.RowKit

def PriAt (w : World) (pb : Nat) (u : Int) (i : Bool) : Prop := w.heap[pb]? = some (.cells #[.int .u8 u, .bool i] 42 (0, 0))
def PartDoes (w : World) (pb : Nat) (r : Option (Int × Bool)) (e : Ending) (w' : World) : Prop :=
  (match r with | some (u, i) => e = .returned (.bool true) ∧ PriAt w' pb u i | none => e = .returned (.bool false)) ∧ w.grownBy w' (some pb)

theorem grown_of_below {w w' : World} (h : Below w.heap.size w w') (o : Option Nat) : w.grownBy w' o := ⟨h.os, h.tape, h.output, h.size, fun k hk _ => h.block k hk⟩
theorem grown_trans {a b c : World} {o : Option Nat} (h : a.grownBy b o) (k : b.grownBy c o) : a.grownBy c o :=
  ⟨k.os.trans h.os, k.tape.trans h.tape, k.output.trans h.output, Nat.le_trans h.size k.size, fun i hi hn => (k.block i (Nat.lt_of_lt_of_le hi h.size) hn).trans (h.block i hi hn)⟩
theorem trim_sp (s : ByteArray) (hs : s.size ≤ 9223372036854775807) (w : World) : Calls Tryz.prog 46 #[.string s, .string ⟨#[32]⟩] w (Gives w (.string ⟨(Lib.trimB s.data.toList 32).toArray⟩)) := by
  refine (Tryz.strings_Trim_one s 32 (by decide) w hs).mono ?_
  rintro e w1 ⟨rfl, rfl | rfl⟩
  · exact ⟨rfl, Below.refl _ _⟩
  · exact ⟨rfl, (Below.refl _ _).drew⟩

theorem tr_a : (⟨(Lib.trimB (⟨#[105, 61, 63, 48]⟩ : ByteArray).data.toList 32).toArray⟩ : ByteArray) = ⟨#[105, 61, 63, 48]⟩ := by rfl
set_option maxRecDepth 100000 in
theorem part_a (pb : Nat) (u : Int) (i : Bool) (w : World) (hp : PriAt w pb u i) : Calls Tryz.prog 48 #[.pointer (some ⟨pb, 0, none⟩), .string ⟨#[105, 61, 63, 48]⟩] w (PartDoes w pb (some (u, false))) := by
  have hpw := lt_of_block hp
  have HP := Lib.hid hp
  clear hp
  go_enter Tryz.func48, Tryz.ntmps48
  go_wp2_with fail
  refine (trim_sp ⟨#[105, 61, 63, 48]⟩ (by decide) _).mono ?_
  rw [tr_a]
  rintro e w1 ⟨rfl, hb1⟩
  have H1 := Lib.hid hb1
  clear hb1
  go_wp2_with fail
  refine (cut_a _).mono ?_
  rintro e w2 ⟨rfl, hb2⟩
  have H2 := Lib.hid (H1.out.trans (hb2.mono H1.out.size))
  clear hb2
  go_wp2_with fail
  refine (value_no _).mono ?_
  rintro e w3 ⟨rfl, hb3⟩
  have H3 := Lib.hid (H2.out.trans (hb3.mono H2.out.size))
  clear hb3
  go_wp2_with fail
  refine (key_one 105 (by decide) _).mono ?_
  rintro e w4 ⟨rfl, hb4⟩
  have H4 := Lib.hid (H3.out.trans (hb4.mono H3.out.size))
  clear hb4
  have hp4 : w4.heap[pb]? = some (.cells #[.int .u8 u, .bool i] 42 (0, 0)) := (H4.out.block pb hpw).trans HP.out
  have c0 : w4.cell? ⟨pb, 0, none⟩ = some (.int .u8 u) := by simp [World.cell?, hp4]
  have c1 : w4.cell? ⟨pb, 1, none⟩ = some (.bool i) := by simp [World.cell?, hp4]
  have f0 : w4.frozen? ⟨pb, 0, none⟩ = false := by simp [World.frozen?, hp4]
  have f1 : w4.frozen? ⟨pb, 1, none⟩ = false := by simp [World.frozen?, hp4]
  have HPL := Lib.hid hp4
  clear hp4
  go_wp2_with fail
  go_ret
  exact ⟨⟨rfl, by have := blk_set HPL.out 1 (.bool false); exact this⟩, grown_trans (grown_of_below H4.out _) (grownBy_set w4 pb 1 _)⟩

theorem tr_b : (⟨(Lib.trimB (⟨#[117, 61, 49]⟩ : ByteArray).data.toList 32).toArray⟩ : ByteArray) = ⟨#[117, 61, 49]⟩ := by rfl
set_option maxRecDepth 100000 in
theorem part_b (pb : Nat) (u : Int) (i : Bool) (w : World) (hp : PriAt w pb u i) : Calls Tryz.prog 48 #[.pointer (some ⟨pb, 0, none⟩), .string ⟨#[117, 61, 49]⟩] w (PartDoes w pb (some (1, i))) := by
  have hpw := lt_of_block hp
  have HP := Lib.hid hp
  clear hp
  go_enter Tryz.func48, Tryz.ntmps48
  go_wp2_with fail
  refine (trim_sp ⟨#[117, 61, 49]⟩ (by decide) _).mono ?_
  rw [tr_b]
  rintro e w1 ⟨rfl, hb1⟩
  have H1 := Lib.hid hb1
  clear hb1
  go_wp2_with fail
  refine (cut_b _).mono ?_
  rintro e w2 ⟨rfl, hb2⟩
  have H2 := Lib.hid (H1.out.trans (hb2.mono H1.out.size))
  clear hb2
  go_wp2_with fail
  refine (value_1 _).mono ?_
  rintro e w3 ⟨rfl, hb3⟩
  have H3 := Lib.hid (H2.out.trans (hb3.mono H2.out.size))
  clear hb3
  go_wp2_with fail
  refine (key_one 117 (by decide) _).mono ?_
  rintro e w4 ⟨rfl, hb4⟩
  have H4 := Lib.hid (H3.out.trans (hb4.mono H3.out.size))
  clear hb4
  have hp4 : w4.heap[pb]? = some (.cells #[.int .u8 u, .bool i] 42 (0, 0)) := (H4.out.block pb hpw).trans HP.out
  have c0 : w4.cell? ⟨pb, 0, none⟩ = some (.int .u8 u) := by simp [World.cell?, hp4]
  have c1 : w4.cell? ⟨pb, 1, none⟩ = some (.bool i) := by simp [World.cell?, hp4]
  have f0 : w4.frozen? ⟨pb, 0, none⟩ = false := by simp [World.frozen?, hp4]
  have f1 : w4.frozen? ⟨pb, 1, none⟩ = false := by simp [World.frozen?, hp4]
  have HPL := Lib.hid hp4
  clear hp4
  go_wp2_with fail
  go_ret
  exact ⟨⟨rfl, by have := blk_set (blk_set HPL.out 0 (.int .u8 3)) 0 (.int .u8 1); exact this⟩, grown_trans (grown_of_below H4.out _) (grown_trans (grownBy_set w4 pb 0 _) (grownBy_set _ pb 0 _))⟩

theorem tr_c : (⟨(Lib.trimB (⟨#[117, 61, 57]⟩ : ByteArray).data.toList 32).toArray⟩ : ByteArray) = ⟨#[117, 61, 57]⟩ := by rfl
set_option maxRecDepth 100000 in
theorem part_c (pb : Nat) (u : Int) (i : Bool) (w : World) (hp : PriAt w pb u i) : Calls Tryz.prog 48 #[.pointer (some ⟨pb, 0, none⟩), .string ⟨#[117, 61, 57]⟩] w (PartDoes w pb (some (3, i))) := by
  have hpw := lt_of_block hp
  have HP := Lib.hid hp
  clear hp
  go_enter Tryz.func48, Tryz.ntmps48
  go_wp2_with fail
  refine (trim_sp ⟨#[117, 61, 57]⟩ (by decide) _).mono ?_
  rw [tr_c]
  rintro e w1 ⟨rfl, hb1⟩
  have H1 := Lib.hid hb1
  clear hb1
  go_wp2_with fail
  refine (cut_c _).mono ?_
  rintro e w2 ⟨rfl, hb2⟩
  have H2 := Lib.hid (H1.out.trans (hb2.mono H1.out.size))
  clear hb2
  go_wp2_with fail
  refine (value_9 _).mono ?_
  rintro e w3 ⟨rfl, hb3⟩
  have H3 := Lib.hid (H2.out.trans (hb3.mono H2.out.size))
  clear hb3
  go_wp2_with fail
  refine (key_one 117 (by decide) _).mono ?_
  rintro e w4 ⟨rfl, hb4⟩
  have H4 := Lib.hid (H3.out.trans (hb4.mono H3.out.size))
  clear hb4
  have hp4 : w4.heap[pb]? = some (.cells #[.int .u8 u, .bool i] 42 (0, 0)) := (H4.out.block pb hpw).trans HP.out
  have c0 : w4.cell? ⟨pb, 0, none⟩ = some (.int .u8 u) := by simp [World.cell?, hp4]
  have c1 : w4.cell? ⟨pb, 1, none⟩ = some (.bool i) := by simp [World.cell?, hp4]
  have f0 : w4.frozen? ⟨pb, 0, none⟩ = false := by simp [World.frozen?, hp4]
  have f1 : w4.frozen? ⟨pb, 1, none⟩ = false := by simp [World.frozen?, hp4]
  have HPL := Lib.hid hp4
  clear hp4
  go_wp2_with fail
  go_ret
  exact ⟨⟨rfl, by have := blk_set HPL.out 0 (.int .u8 3); exact this⟩, grown_trans (grown_of_below H4.out _) (grownBy_set w4 pb 0 _)⟩

theorem tr_d : (⟨(Lib.trimB (⟨#[32, 105]⟩ : ByteArray).data.toList 32).toArray⟩ : ByteArray) = ⟨#[105]⟩ := by rfl
set_option maxRecDepth 100000 in
theorem part_d (pb : Nat) (u : Int) (i : Bool) (w : World) (hp : PriAt w pb u i) : Calls Tryz.prog 48 #[.pointer (some ⟨pb, 0, none⟩), .string ⟨#[32, 105]⟩] w (PartDoes w pb (some (u, true))) := by
  have hpw := lt_of_block hp
  have HP := Lib.hid hp
  clear hp
  go_enter Tryz.func48, Tryz.ntmps48
  go_wp2_with fail
  refine (trim_sp ⟨#[32, 105]⟩ (by decide) _).mono ?_
  rw [tr_d]
  rintro e w1 ⟨rfl, hb1⟩
  have H1 := Lib.hid hb1
  clear hb1
  go_wp2_with fail
  refine (cut_d _).mono ?_
  rintro e w2 ⟨rfl, hb2⟩
  have H2 := Lib.hid (H1.out.trans (hb2.mono H1.out.size))
  clear hb2
  go_wp2_with fail
  refine (value_yes _).mono ?_
  rintro e w3 ⟨rfl, hb3⟩
  have H3 := Lib.hid (H2.out.trans (hb3.mono H2.out.size))
  clear hb3
  go_wp2_with fail
  refine (key_one 105 (by decide) _).mono ?_
  rintro e w4 ⟨rfl, hb4⟩
  have H4 := Lib.hid (H3.out.trans (hb4.mono H3.out.size))
  clear hb4
  have hp4 : w4.heap[pb]? = some (.cells #[.int .u8 u, .bool i] 42 (0, 0)) := (H4.out.block pb hpw).trans HP.out
  have c0 : w4.cell? ⟨pb, 0, none⟩ = some (.int .u8 u) := by simp [World.cell?, hp4]
  have c1 : w4.cell? ⟨pb, 1, none⟩ = some (.bool i) := by simp [World.cell?, hp4]
  have f0 : w4.frozen? ⟨pb, 0, none⟩ = false := by simp [World.frozen?, hp4]
  have f1 : w4.frozen? ⟨pb, 1, none⟩ = false := by simp [World.frozen?, hp4]
  have HPL := Lib.hid hp4
  clear hp4
  go_wp2_with fail
  go_ret
  exact ⟨⟨rfl, by have := blk_set HPL.out 1 (.bool true); exact this⟩, grown_trans (grown_of_below H4.out _) (grownBy_set w4 pb 1 _)⟩

theorem tr_e : (⟨(Lib.trimB (⟨#[117, 61, 120]⟩ : ByteArray).data.toList 32).toArray⟩ : ByteArray) = ⟨#[117, 61, 120]⟩ := by rfl
set_option maxRecDepth 100000 in
theorem part_e (pb : Nat) (u : Int) (i : Bool) (w : World) (hp : PriAt w pb u i) : Calls Tryz.prog 48 #[.pointer (some ⟨pb, 0, none⟩), .string ⟨#[117, 61, 120]⟩] w (PartDoes w pb (none)) := by
  have hpw := lt_of_block hp
  have HP := Lib.hid hp
  clear hp
  go_enter Tryz.func48, Tryz.ntmps48
  go_wp2_with fail
  refine (trim_sp ⟨#[117, 61, 120]⟩ (by decide) _).mono ?_
  rw [tr_e]
  rintro e w1 ⟨rfl, hb1⟩
  have H1 := Lib.hid hb1
  clear hb1
  go_wp2_with fail
  refine (cut_e _).mono ?_
  rintro e w2 ⟨rfl, hb2⟩
  have H2 := Lib.hid (H1.out.trans (hb2.mono H1.out.size))
  clear hb2
  go_wp2_with fail
  refine (value_x _).mono ?_
  rintro e w3 ⟨rfl, hb3⟩
  have H3 := Lib.hid (H2.out.trans (hb3.mono H2.out.size))
  clear hb3
  have hp3 : w3.heap[pb]? = some (.cells #[.int .u8 u, .bool i] 42 (0, 0)) := (H3.out.block pb hpw).trans HP.out
  have c0 : w3.cell? ⟨pb, 0, none⟩ = some (.int .u8 u) := by simp [World.cell?, hp3]
  have c1 : w3.cell? ⟨pb, 1, none⟩ = some (.bool i) := by simp [World.cell?, hp3]
  have f0 : w3.frozen? ⟨pb, 0, none⟩ = false := by simp [World.frozen?, hp3]
  have f1 : w3.frozen? ⟨pb, 1, none⟩ = false := by simp [World.frozen?, hp3]
  have HPL := Lib.hid hp3
  clear hp3
  go_wp2_with fail
  go_ret
  exact ⟨rfl, grown_of_below H3.out _⟩

theorem tr_f : (⟨(Lib.trimB (⟨#[]⟩ : ByteArray).data.toList 32).toArray⟩ : ByteArray) = ⟨#[]⟩ := by rfl
set_option maxRecDepth 100000 in
theorem part_f (pb : Nat) (u : Int) (i : Bool) (w : World) (hp : PriAt w pb u i) : Calls Tryz.prog 48 #[.pointer (some ⟨pb, 0, none⟩), .string ⟨#[]⟩] w (PartDoes w pb (none)) := by
  have hpw := lt_of_block hp
  have HP := Lib.hid hp
  clear hp
  go_enter Tryz.func48, Tryz.ntmps48
  go_wp2_with fail
  refine (trim_sp ⟨#[]⟩ (by decide) _).mono ?_
  rw [tr_f]
  rintro e w1 ⟨rfl, hb1⟩
  have H1 := Lib.hid hb1
  clear hb1
  go_wp2_with fail
  refine (cut_f _).mono ?_
  rintro e w2 ⟨rfl, hb2⟩
  have H2 := Lib.hid (H1.out.trans (hb2.mono H1.out.size))
  clear hb2
  go_wp2_with fail
  refine (value_yes _).mono ?_
  rintro e w3 ⟨rfl, hb3⟩
  have H3 := Lib.hid (H2.out.trans (hb3.mono H2.out.size))
  clear hb3
  go_wp2_with fail
  refine (key_empty _).mono ?_
  rintro e w4 ⟨rfl, hb4⟩
  have H4 := Lib.hid (H3.out.trans (hb4.mono H3.out.size))
  clear hb4
  have hp4 : w4.heap[pb]? = some (.cells #[.int .u8 u, .bool i] 42 (0, 0)) := (H4.out.block pb hpw).trans HP.out
  have c0 : w4.cell? ⟨pb, 0, none⟩ = some (.int .u8 u) := by simp [World.cell?, hp4]
  have c1 : w4.cell? ⟨pb, 1, none⟩ = some (.bool i) := by simp [World.cell?, hp4]
  have f0 : w4.frozen? ⟨pb, 0, none⟩ = false := by simp [World.frozen?, hp4]
  have f1 : w4.frozen? ⟨pb, 1, none⟩ = false := by simp [World.frozen?, hp4]
  have HPL := Lib.hid hp4
  clear hp4
  go_wp2_with fail
  go_ret
  exact ⟨rfl, grown_of_below H4.out _⟩

theorem tr_g : (⟨(Lib.trimB (⟨#[105]⟩ : ByteArray).data.toList 32).toArray⟩ : ByteArray) = ⟨#[105]⟩ := by rfl
set_option maxRecDepth 100000 in
theorem part_g (pb : Nat) (u : Int) (i : Bool) (w : World) (hp : PriAt w pb u i) : Calls Tryz.prog 48 #[.pointer (some ⟨pb, 0, none⟩), .string ⟨#[105]⟩] w (PartDoes w pb (some (u, true))) := by
  have hpw := lt_of_block hp
  have HP := Lib.hid hp
  clear hp
  go_enter Tryz.func48, Tryz.ntmps48
  go_wp2_with fail
  refine (trim_sp ⟨#[105]⟩ (by decide) _).mono ?_
  rw [tr_g]
  rintro e w1 ⟨rfl, hb1⟩
  have H1 := Lib.hid hb1
  clear hb1
  go_wp2_with fail
  refine (cut_d _).mono ?_
  rintro e w2 ⟨rfl, hb2⟩
  have H2 := Lib.hid (H1.out.trans (hb2.mono H1.out.size))
  clear hb2
  go_wp2_with fail
  refine (value_yes _).mono ?_
  rintro e w3 ⟨rfl, hb3⟩
  have H3 := Lib.hid (H2.out.trans (hb3.mono H2.out.size))
  clear hb3
  go_wp2_with fail
  refine (key_one 105 (by decide) _).mono ?_
  rintro e w4 ⟨rfl, hb4⟩
  have H4 := Lib.hid (H3.out.trans (hb4.mono H3.out.size))
  clear hb4
  have hp4 : w4.heap[pb]? = some (.cells #[.int .u8 u, .bool i] 42 (0, 0)) := (H4.out.block pb hpw).trans HP.out
  have c0 : w4.cell? ⟨pb, 0, none⟩ = some (.int .u8 u) := by simp [World.cell?, hp4]
  have c1 : w4.cell? ⟨pb, 1, none⟩ = some (.bool i) := by simp [World.cell?, hp4]
  have f0 : w4.frozen? ⟨pb, 0, none⟩ = false := by simp [World.frozen?, hp4]
  have f1 : w4.frozen? ⟨pb, 1, none⟩ = false := by simp [World.frozen?, hp4]
  have HPL := Lib.hid hp4
  clear hp4
  go_wp2_with fail
  go_ret
  exact ⟨⟨rfl, by have := blk_set HPL.out 1 (.bool true); exact this⟩, grown_trans (grown_of_below H4.out _) (grownBy_set w4 pb 1 _)⟩
end Go.Proofs.YtnkbhpnflfhhnaaGreatDoor
