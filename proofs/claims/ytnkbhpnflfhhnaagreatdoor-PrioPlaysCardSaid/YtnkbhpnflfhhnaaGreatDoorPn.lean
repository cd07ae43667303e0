import Derived.Test.YtnkbhpnflfhhnaaGreatDoorPm
namespace Go.Proofs.YtnkbhpnflfhhnaaGreatDoor
open Go.ChangeShapes Go.WideShapes Go.ChangeAt Go.RowKit

theorem delete_none (B b box : Nat) (oa oi : Option Addr) (xs : List St) (cap ci : Nat) (clk : Int) (ids : List Int) (w : World) (hp : PlanAt B w b (.slice oa xs.length cap) xs clk) (hi : IdsAt B w box oi ci ids)
    (hidx : idxD ids xs 0 = -1) (hno : ∀ s ∈ xs, delB ids s = false) :
    Calls Tryz.prog 52 #[.slice oa xs.length cap, .func (.func 53) #[] #[.pointer (some ⟨box, 0, none⟩)]] w (DeleteDoes B w b oa cap xs clk ids) := by
  obtain ⟨oa', cap', hv, h1, h2, hx⟩ := hp.read
  simp only [Value.slice.injEq, true_and] at hv
  obtain ⟨rfl, rfl⟩ := hv
  have hl := hp.len
  have hf : xs.filter (fun s => !delB ids s) = xs := List.filter_eq_self.2 fun s hs => by rw [hno s hs]; rfl
  have HF := Lib.hid hf
  have HP := Lib.hid hp
  have HI := Lib.hid hi
  have HX := Lib.hid hx
  have HIDX := Lib.hid hidx
  clear hp hi hx hidx hno hf
  go_enter Tryz.func52, Tryz.ntmps52
  go_wp2_with fail
  refine (indexFunc_any B box _ oi xs cap ci ids _ HX.out HI.out (by omega)).mono ?_
  rintro e w1 ⟨rfl, hb1⟩
  rw [HIDX.out]
  have HB1 := Lib.hid hb1
  clear hb1
  go_wp2_with fail
  go_ret
  exact ⟨by rw [HF.out]; rfl, Keeps.of_below HB1.out, xs, HP.out.below HB1.out, rfl, by rw [HF.out]; simp⟩

theorem delete_any (B b box : Nat) (oa oi : Option Addr) (xs : List St) (cap ci : Nat) (clk : Int) (ids : List Int) (w : World) (hp : PlanAt B w b (.slice oa xs.length cap) xs clk) (hi : IdsAt B w box oi ci ids) :
    Calls Tryz.prog 52 #[.slice oa xs.length cap, .func (.func 53) #[] #[.pointer (some ⟨box, 0, none⟩)]] w (DeleteDoes B w b oa cap xs clk ids) := by
  rcases idxD_cases ids xs 0 with ⟨h1, h2⟩ | ⟨i, h, h1, h2, h3⟩
  · exact delete_none B b box oa oi xs cap ci clk ids w hp hi h1 h2
  · obtain ⟨g, rfl, -⟩ := hp.cellsAt h
    exact delete_some B b box g oi xs cap ci clk ids w hp hi i h (by rw [h1]; simp) h2 h3

theorem ownsRow_prefix {w : World} {B : Nat} {oa : Option Addr} {n cap : Nat} {ys : List St} (h : w.ownsRow B 106 5 (.slice oa n cap) n (rowOf ys)) (hn : n = ys.length) (m : Nat) (hm : m ≤ n) :
    w.ownsRow B 106 5 (.slice oa m cap) m (rowOf (ys.take m)) := by
  subst hn
  refine ⟨by rw [rowOf_length, List.length_take]; omega, ?_⟩
  rcases h.2 with ⟨h', h0⟩ | ⟨g, cap', cur, h', hbg, hgg, hnc, hcm, hcs, htake⟩
  · simp only [Value.slice.injEq] at h'
    obtain ⟨rfl, -, rfl⟩ := h'
    have : m = 0 := by omega
    subst this
    exact .inl ⟨rfl, rfl⟩
  · simp only [Value.slice.injEq] at h'
    obtain ⟨rfl, -, rfl⟩ := h'
    refine .inr ⟨g, cap, cur, rfl, hbg, hgg, by omega, hcm, hcs, ?_⟩
    rw [← rowOf_take, ← htake, List.take_take, show min (m * 5) (ys.length * 5) = m * 5 from by omega]

theorem drop_nil (oi : Option Addr) (n c : Nat) (w : World) : Calls Tryz.prog 23 #[.pointer none, .slice oi n c] w (Gives w (.int .i64 0)) := by
  go_enter Tryz.func23, Tryz.ntmps23
  go_wp2
  go_ret
  exact ⟨rfl, (Below.refl _ _).alloc (Nat.le_refl _) _⟩

def dropped (xs : List St) (ids : List Int) : List St := xs.filter fun s => !delB ids s
theorem dropped_len (xs : List St) (ids : List Int) : (dropped xs ids).length ≤ xs.length := List.length_filter_le _ _

set_option maxRecDepth 100000 in
theorem drop_any (B b : Nat) (v : Value) (oi : Option Addr) (xs : List St) (ci : Nat) (clk : Int) (ids : List Int) (w : World) (hp : PlanAt B w b v xs clk) (hi : U64s w oi ids) (hold : ∀ i (_ : i < ids.length), ∃ g off, oi = some ⟨g, off, none⟩ ∧ Safe B w g) (hil : ids.length ≤ 4611686018427387904) :
    Calls Tryz.prog 23 #[.pointer (some ⟨b, 0, none⟩), .slice oi ids.length ci] w (Does B w b (dropped xs ids) clk (.int .i64 ((xs.length : Int) - ((dropped xs ids).length : Int)))) := by
  obtain ⟨oa, cap, rfl, h1, h2, hx⟩ := hp.read
  have hl := hp.len
  have hbw := lt_of_block hp.blk
  have hb0 : Below w.heap.size w (w.alloc (.cells #[.slice oi ids.length ci] 57)) := (Below.refl _ w).alloc (Nat.le_refl _) _
  have hp1 := hp.below hb0
  have hi1 : IdsAt B (w.alloc (.cells #[.slice oi ids.length ci] 57)) w.heap.size oi ci ids := by
    refine ⟨Go.heap_alloc_new w _, fun i hi' => ?_, fun i hi => (hold i hi).imp fun g h => h.imp fun off h => ⟨h.1, h.2.keeps (Keeps.of_below hb0)⟩, hil⟩
    obtain ⟨g, off, h0, h1⟩ := hi i hi'
    exact ⟨g, off, h0, (hb0.cell (World.block_lt_of_cell? w _ h1)).trans h1⟩
  have c0 : w.cell? ⟨b, 0, none⟩ = some (.slice oa xs.length cap) := by simp [World.cell?, hp.blk]
  have hbase := hp.base
  have HP1 := Lib.hid hp1
  have HI1 := Lib.hid hi1
  have HB0 := Lib.hid hb0
  obtain ⟨m, hm⟩ : ∃ m, m = (dropped xs ids).length := ⟨_, rfl⟩
  have hmx : m ≤ xs.length := by rw [hm]; exact dropped_len xs ids
  have HM := Lib.hid hm
  clear hp hi hx hold hb0 hp1 hi1 hm
  go_enter Tryz.func23, Tryz.ntmps23
  go_wp2_with fail
  refine (delete_any B b w.heap.size oa oi xs cap ci clk ids _ HP1.out HI1.out).mono ?_
  rintro e w1 ⟨rfl, hk1, ys, hpl, hyl, hyt⟩
  have hyt' : ys.take m = dropped xs ids := by rw [HM.out]; exact hyt
  rw [show (xs.filter fun s => !delB ids s).length = m from HM.out.symm]
  have hb1 := hpl.blk
  have c0 : w1.cell? ⟨b, 0, none⟩ = some (.slice oa xs.length cap) := by simp [World.cell?, hb1]
  have f0 : w1.frozen? ⟨b, 0, none⟩ = false := by simp [World.frozen?, hb1]
  have HK1 := Lib.hid hk1
  have HPL := Lib.hid hpl
  have HYL := Lib.hid hyl
  have HYT := Lib.hid hyt'
  clear hk1 hpl hyl hyt hyt' hb1
  go_wp2_with fail
  go_ret
  refine ⟨by rw [← HM.out]; rfl, ⟨.slice oa m cap, blk_set HPL.out.blk 0 _, ?_, hbase, by rw [← HM.out]; omega⟩, ?_⟩
  · have hpre := ownsRow_prefix (by have := HPL.out.own; rw [HYL.out] at this; exact this) HYL.out.symm m hmx
    rw [HYT.out] at hpre
    rw [← HM.out]
    have hap : (Value.slice oa m cap).ownBlock ≠ some b := fun e => HPL.out.apart (by cases oa <;> exact e)
    exact hpre.kept (grownBy_set w1 b 0 (.slice oa m cap)) (.inr hap)
  · exact (Keeps.of_below HB0.out).trans (HK1.out.trans (Keeps.of_grown (grownBy_set w1 b 0 _) hbase HPL.out.blk (.inr rfl)))
end Go.Proofs.YtnkbhpnflfhhnaaGreatDoor
