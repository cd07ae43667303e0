import Derived.Test.YtnkbhpnflfhhnaaGreatDoorPh
namespace Go.Proofs.YtnkbhpnflfhhnaaGreatDoor
open Go.ChangeShapes Go.WideShapes Go.ChangeAt Go.RowKit

def served (xs : List St) (clk : Int) : List St := if best xs xs.length < 0 then xs else upd xs (xs.getD (best xs xs.length).toNat St.nil).id fun s => { s with srv := clk + 1 }
def servedClk (xs : List St) (clk : Int) : Int := if best xs xs.length < 0 then clk else clk + 1

theorem serve_nil (w : World) : Calls Tryz.prog 19 #[.pointer none] w (Gives w (.tuple #[.int .u64 0, .bool false])) := by
  go_enter Tryz.func19, Tryz.ntmps19
  go_wp2_with fail
  refine (next_nil _).mono ?_
  rintro e w1 ⟨rfl, hb1⟩
  have H1 := Lib.hid hb1
  clear hb1
  go_wp2_with fail
  go_ret2
  exact ⟨rfl, H1.out⟩

theorem blk_set {w : World} {b : Nat} {cs : Array Value} {t : TypeId} {fr : Nat × Nat} (h : w.heap[b]? = some (.cells cs t fr)) (i : Nat) (v : Value) :
    (w.setCell ⟨b, i, none⟩ v).heap[b]? = some (.cells (cs.set! i v) t fr) := by
  have hlt := lt_of_block h
  have h' : w.heap[b] = .cells cs t fr := by simpa [Array.getElem?_eq_getElem hlt] using h
  show (w.heap.modify b _)[b]? = _
  rw [Array.getElem?_eq_getElem (by simpa using hlt), Array.getElem_modify_self, h']
  rfl
theorem grownBy_set (w : World) (b i : Nat) (v : Value) : w.grownBy (w.setCell ⟨b, i, none⟩ v) (some b) :=
  ⟨rfl, rfl, rfl, by simp [World.setCell], fun k hk hne => Below.heap_setCell _ _ _ _ (fun e => hne (by rw [e]))⟩
theorem PlanAt.clock {B : Nat} {w : World} {b : Nat} {v : Value} {xs : List St} {clk : Int} (h : PlanAt B w b v xs clk) (c : Int) : PlanAt B (w.setCell ⟨b, 1, none⟩ (.int .u64 c)) b v xs c ∧ Keeps B w (w.setCell ⟨b, 1, none⟩ (.int .u64 c)) :=
  ⟨⟨blk_set h.blk 1 _, h.own.kept (grownBy_set w b 1 _) (.inr h.apart), h.base, h.len⟩, Keeps.of_grown (grownBy_set w b 1 _) h.base h.blk (.inr rfl)⟩
theorem PlanAt.drew {B : Nat} {w : World} {b : Nat} {v : Value} {xs : List St} {clk : Int} (h : PlanAt B w b v xs clk) : PlanAt B w.drew b v xs clk := ⟨h.blk, h.own, h.base, h.len⟩
theorem Keeps.drew {B : Nat} {w w' : World} (h : Keeps B w w') : Keeps B w w'.drew := ⟨h.os, h.tape, h.output, h.size, h.block⟩

set_option maxRecDepth 100000 in
theorem serve_any (B b : Nat) (v : Value) (xs : List St) (clk : Int) (w : World) (h : PlanAt B w b v xs clk) (hr : Rising xs) (hc0 : 0 ≤ clk) (hc1 : clk < 4611686018427387904) :
    Calls Tryz.prog 19 #[.pointer (some ⟨b, 0, none⟩)] w (Does B w b (served xs clk) (servedClk xs clk) (nextId xs)) := by
  have H := Lib.hid h
  have HR := Lib.hid hr
  obtain ⟨oa, cap, rfl, h1, h2, hx⟩ := h.read
  have hl := h.len
  have hblk := h.blk
  have HB := Lib.hid hblk
  have HX := Lib.hid hx
  clear h hr hx hblk
  obtain ⟨P, hP⟩ : ∃ P, P = best xs xs.length := ⟨_, rfl⟩
  have hbd := best_bd xs xs.length
  rw [← hP] at hbd
  by_cases hneg : P < 0
  · have HN : Hid (nextId xs = .tuple #[.int .u64 0, .bool false]) := Lib.hid (by unfold nextId; rw [← hP, if_pos hneg])
    have HS : Hid (served xs clk = xs) := Lib.hid (by unfold served; rw [← hP, if_pos hneg])
    have HC : Hid (servedClk xs clk = clk) := Lib.hid (by unfold servedClk; rw [← hP, if_pos hneg])
    clear hP
    go_enter Tryz.func19, Tryz.ntmps19
    go_wp2_with fail
    refine (next_at b oa xs cap clk _ HB.out HX.out (by omega)).mono ?_
    rintro e w1 ⟨rfl, hb1⟩
    rw [HN.out]
    have H1 := Lib.hid hb1
    clear hb1
    go_wp2_with fail
    go_ret2
    exact ⟨by rw [HN.out]; rfl, ⟨_, by rw [HS.out, HC.out]; exact H.out.below H1.out⟩, Keeps.of_below H1.out⟩
  · obtain ⟨m, rfl⟩ : ∃ m : Nat, P = m := ⟨P.toNat, by omega⟩
    have hm : m < xs.length := by omega
    have HN : Hid (nextId xs = .tuple #[.int .u64 xs[m].id, .bool true]) := Lib.hid (by unfold nextId; rw [← hP, if_neg hneg, Int.toNat_natCast, getD_lt hm])
    have hhas : hasId xs xs[m].id = true := List.any_eq_true.2 ⟨xs[m], List.getElem_mem _, by simp⟩
    have hpl : placeOf xs xs[m].id = m := placeOf_eq (by omega) (fun i h hi => HR.out i m h hm hi) (fun _ => Int.le_refl _)
    have HS : Hid (served xs clk = xs.set m { xs[m] with srv := clk + 1 }) := Lib.hid (by
      unfold served; rw [← hP, if_neg hneg, Int.toNat_natCast, getD_lt hm]
      exact upd_set _ HR.out hm rfl)
    have HC : Hid (servedClk xs clk = clk + 1) := Lib.hid (by unfold servedClk; rw [← hP, if_neg hneg])
    have HH := Lib.hid hhas
    have HPL := Lib.hid hpl
    obtain ⟨g, rfl, -⟩ := H.out.cellsAt hm
    obtain ⟨id, hid⟩ : ∃ id, id = xs[m].id := ⟨_, rfl⟩
    have HID := Lib.hid hid
    clear hP hhas hpl hid
    go_enter Tryz.func19, Tryz.ntmps19
    go_wp2_with fail
    refine (next_at b _ xs cap clk _ HB.out HX.out (by omega)).mono ?_
    rintro e w1 ⟨rfl, hb1⟩
    rw [HN.out, ← HID.out]
    have hq := H.out.below hb1
    have HX1 := Lib.hid (HX.out.below hb1)
    have H1 := Lib.hid hb1
    have HQ := Lib.hid hq
    clear hb1 hq
    go_wp2_with fail
    refine (find_at b _ xs cap clk id _ HQ.out.blk HX1.out HR.out (by omega)).mono ?_
    rintro e w2 ⟨rfl, hb2⟩
    rw [show placeOf xs id = m from by rw [HID.out]; exact HPL.out, show hasId xs id = true from by rw [HID.out]; exact HH.out]
    have hq := HQ.out.below hb2
    have c0 : w2.cell? ⟨b, 0, none⟩ = some (.slice (some ⟨g, 0, none⟩) xs.length cap) := by simp [World.cell?, hq.blk]
    have c1 : w2.cell? ⟨b, 1, none⟩ = some (.int .u64 clk) := by simp [World.cell?, hq.blk]
    have f1 : w2.frozen? ⟨b, 1, none⟩ = false := by simp [World.frozen?, hq.blk]
    have H2 := Lib.hid (H1.out.trans (hb2.mono H1.out.size))
    have HQ2 := Lib.hid hq
    clear hb2 hq
    go_wp2_with fail
    clear c0 c1 f1
    refine region_tail 11 (by kernel_rfl) (by kernel_rfl) (fun W => PlanAt B W b (.slice (some ⟨g, 0, none⟩) xs.length cap) xs (clk + 1) ∧ Keeps B w2 W) ⟨(HQ2.out.clock (clk + 1)).1.drew, (HQ2.out.clock (clk + 1)).2.drew⟩ ?_
    intro W hW
    obtain ⟨hp, hk⟩ := hW
    have c0 : W.cell? ⟨b, 0, none⟩ = some (.slice (some ⟨g, 0, none⟩) xs.length cap) := by simp [World.cell?, hp.blk]
    have c1 : W.cell? ⟨b, 1, none⟩ = some (.int .u64 (clk + 1)) := by simp [World.cell?, hp.blk]
    obtain ⟨g', he, -, ⟨x0, x1, x2, x3, x4⟩, fz⟩ := hp.cellsAt hm
    simp only [Option.some.injEq, Addr.mk.injEq, and_true] at he
    subst he
    have f4 := fz (m * 5 + 4)
    have HP := Lib.hid hp
    have HK := Lib.hid hk
    clear hp hk fz x0 x1 x2 x3
    simp only [List.take_succ_cons, List.take_zero, List.drop_succ_cons, List.drop_zero]
    have hw1 : (m : Int) < (xs.length : Int) := by omega
    repeat still_step
    refine wpStill_nil ?_
    go_wp2_with fail
    go_ret2
    obtain ⟨k1, k2⟩ := HP.out.store rfl m 4 hm (by omega) (.int .u64 (clk + 1)) { xs[m] with srv := clk + 1 } rfl
    refine ⟨by rw [HN.out, HID.out]; rfl, ⟨.slice (some ⟨g, 0, none⟩) xs.length cap, ?_⟩, (Keeps.of_below H2.out).trans (HK.out.trans k2)⟩
    rw [HS.out, HC.out]
    exact k1
end Go.Proofs.YtnkbhpnflfhhnaaGreatDoor
