import Derived.Test.YtnkbhpnflfhhnaaGreatDoorPi
namespace Go.Proofs.YtnkbhpnflfhhnaaGreatDoor
open Go.ChangeShapes Go.WideShapes Go.ChangeAt Go.RowKit

def ins (xs : List St) (s : St) : List St := xs.take (placeOf xs s.id) ++ [s] ++ xs.drop (placeOf xs s.id)
def setXs (xs : List St) (id urg : Int) (inc : Bool) : List St :=
  if 7 < urg then xs else if hasId xs id = true then upd xs id (fun s => { s with urg := urg, inc := inc }) else if 256 ≤ xs.length then xs else ins xs ⟨id, urg, inc, false, 0⟩
def setRes (xs : List St) (id urg : Int) : Int := if 7 < urg then 2 else if hasId xs id = true then 0 else if 256 ≤ xs.length then 7 else 0

theorem set_nil (id urg : Int) (inc : Bool) (w : World) : Calls Tryz.prog 21 #[.pointer none, .int .u64 id, .agg #[.int .u8 urg, .bool inc]] w (Gives w (.int .i64 1)) := by
  go_enter Tryz.func21, Tryz.ntmps21
  go_wp2
  go_ret
  exact ⟨rfl, (Below.refl _ _).alloc (Nat.le_refl _) _⟩

set_option maxRecDepth 100000 in
theorem set_arg (B b : Nat) (v : Value) (xs : List St) (clk id urg : Int) (inc : Bool) (w : World) (h : PlanAt B w b v xs clk) (hr : Rising xs) (hu : 7 < urg) :
    Calls Tryz.prog 21 #[.pointer (some ⟨b, 0, none⟩), .int .u64 id, .agg #[.int .u8 urg, .bool inc]] w (Does B w b xs clk (.int .i64 2)) := by
  have H := Lib.hid h
  have HR := Lib.hid hr
  obtain ⟨oa, cap, rfl, h1, h2, hx⟩ := h.read
  have hl := h.len
  have hbw := lt_of_block h.blk
  have hq : PlanAt B (w.alloc (.cells #[.int .u8 urg, .bool inc] 42)) b (.slice oa xs.length cap) xs clk := h.below ((Below.refl _ w).alloc (Nat.le_refl _) _)
  have HX := Lib.hid (hx.below ((Below.refl _ w).alloc (Nat.le_refl _) (.cells #[.int .u8 urg, .bool inc] 42)))
  have HQ := Lib.hid hq
  clear h hr hx hq
  go_enter Tryz.func21, Tryz.ntmps21
  go_wp2_with fail
  refine (find_at b oa xs cap clk id _ HQ.out.blk HX.out HR.out (by omega)).mono ?_
  rintro e w1 ⟨rfl, hb1⟩
  have hx0 : w1.cell? ⟨w.heap.size, 0, none⟩ = some (.int .u8 urg) := by rw [hb1.cell (by simp)]; simp
  have HB1 : Hid (Below w.heap.size w w1) := Lib.hid (((Below.refl _ w).alloc (Nat.le_refl _) _).trans (hb1.mono (by simp)))
  clear hb1
  go_wp2_with fail
  go_ret
  exact ⟨rfl, ⟨_, H.out.below HB1.out⟩, Keeps.of_below HB1.out⟩

set_option maxRecDepth 100000 in
theorem set_is (B b : Nat) (v : Value) (xs : List St) (clk id urg : Int) (inc : Bool) (w : World) (h : PlanAt B w b v xs clk) (hr : Rising xs) (hu : urg ≤ 7) (hh : hasId xs id = true) :
    Calls Tryz.prog 21 #[.pointer (some ⟨b, 0, none⟩), .int .u64 id, .agg #[.int .u8 urg, .bool inc]] w (Does B w b (upd xs id fun s => { s with urg := urg, inc := inc }) clk (.int .i64 0)) := by
  have H := Lib.hid h
  have HR := Lib.hid hr
  obtain ⟨oa, cap, rfl, h1, h2, hx⟩ := h.read
  have hl := h.len
  have hbw := lt_of_block h.blk
  obtain ⟨hp, hpi⟩ := place_has HR.out hh
  have HU : Hid (upd xs id (fun s => { s with urg := urg, inc := inc }) = xs.set (placeOf xs id) { xs[placeOf xs id] with urg := urg, inc := inc }) := Lib.hid (upd_place _ HR.out hh hp)
  have HH := Lib.hid hh
  obtain ⟨p, hpp⟩ : ∃ p, p = placeOf xs id := ⟨_, rfl⟩
  have HP := Lib.hid hpp
  rw [← hpp] at hp
  obtain ⟨g, rfl, -⟩ := h.cellsAt hp
  have hq : PlanAt B (w.alloc (.cells #[.int .u8 urg, .bool inc] 42)) b (.slice (some ⟨g, 0, none⟩) xs.length cap) xs clk := h.below ((Below.refl _ w).alloc (Nat.le_refl _) _)
  have HX := Lib.hid (hx.below ((Below.refl _ w).alloc (Nat.le_refl _) (.cells #[.int .u8 urg, .bool inc] 42)))
  have HQ := Lib.hid hq
  clear h hr hx hq hh hpi hpp
  go_enter Tryz.func21, Tryz.ntmps21
  go_wp2_with fail
  refine (find_at b _ xs cap clk id _ HQ.out.blk HX.out HR.out (by omega)).mono ?_
  rintro e w1 ⟨rfl, hb1⟩
  rw [HH.out, ← HP.out]
  have hx0 : w1.cell? ⟨w.heap.size, 0, none⟩ = some (.int .u8 urg) := by rw [hb1.cell (by simp)]; simp
  have hx1 : w1.cell? ⟨w.heap.size, 1, none⟩ = some (.bool inc) := by rw [hb1.cell (by simp)]; simp
  have hpl := HQ.out.below hb1
  have HB1 : Hid (Below w.heap.size w w1) := Lib.hid (((Below.refl _ w).alloc (Nat.le_refl _) _).trans (hb1.mono (by simp)))
  have c0 : w1.cell? ⟨b, 0, none⟩ = some (.slice (some ⟨g, 0, none⟩) xs.length cap) := by simp [World.cell?, hpl.blk]
  obtain ⟨g', he, -, ⟨x0, x1, x2, x3, x4⟩, fz⟩ := hpl.cellsAt hp
  simp only [Option.some.injEq, Addr.mk.injEq, and_true] at he
  subst he
  have f1 := fz (p * 5 + 1)
  have f2 := fz (p * 5 + 2)
  have HPL := Lib.hid hpl
  clear hb1 hpl fz x0 x3 x4
  go_wp2_with fail
  have hP1 := HPL.out
  refine region_tail 8 (by kernel_rfl) (by kernel_rfl) (fun W => PlanAt B W b (.slice (some ⟨g, 0, none⟩) xs.length cap) xs clk ∧ Keeps B w1 W ∧ W.cell? ⟨w.heap.size, 0, none⟩ = some (.int .u8 urg) ∧ W.cell? ⟨w.heap.size, 1, none⟩ = some (.bool inc)) ⟨hP1.drew, (Keeps.refl _ _).drew, hx0, hx1⟩ ?_
  clear hP1 hx0 hx1 c0 f1 f2 x1 x2
  intro W hW
  obtain ⟨hpl, hk, hx0, hx1⟩ := hW
  have c0 : W.cell? ⟨b, 0, none⟩ = some (.slice (some ⟨g, 0, none⟩) xs.length cap) := by simp [World.cell?, hpl.blk]
  obtain ⟨g', he, -, ⟨x0, x1, x2, x3, x4⟩, fz⟩ := hpl.cellsAt hp
  simp only [Option.some.injEq, Addr.mk.injEq, and_true] at he
  subst he
  have f1 := fz (p * 5 + 1)
  have f2 := fz (p * 5 + 2)
  have HPW := Lib.hid hpl
  have HK := Lib.hid hk
  clear hpl fz hk x0 x3 x4
  simp only [List.take_succ_cons, List.take_zero, List.drop_succ_cons, List.drop_zero]
  have hw1 : (p : Int) < (xs.length : Int) := by omega
  repeat still_step
  refine wpStill_nil ?_
  go_wp2_with fail
  go_ret
  obtain ⟨k1, k2⟩ := HPW.out.store rfl p 1 hp (by omega) (.int .u8 urg) { xs[p] with urg := urg } rfl
  obtain ⟨k3, k4⟩ := k1.store (by simp) p 2 (by simpa using hp) (by omega) (.bool inc) { xs[p] with urg := urg, inc := inc } (by simp [St.cells])
  refine ⟨rfl, ⟨.slice (some ⟨g, 0, none⟩) xs.length cap, ?_⟩, (Keeps.of_below HB1.out).trans (HK.out.trans (k2.trans k4))⟩
  rw [HU.out]
  simp only [List.set_set, ← HP.out] at k3 ⊢
  exact k3
end Go.Proofs.YtnkbhpnflfhhnaaGreatDoor
