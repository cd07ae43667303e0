import Derived.Test.YtnkbhpnflfhhnaaGreatDoorPj
import Derived.Deep.RegionWith
import Derived.Deep.RegionHeld3
import Derived.Deep.DeepMust
namespace Go.Proofs.YtnkbhpnflfhhnaaGreatDoor
open Go.ChangeShapes Go.WideShapes Go.ChangeAt Go.RowKit

/-- What the row's law leaves of the plan's own block; the new row lies apart from it. -/
theorem PlanAt.behind {B : Nat} {w w' : World} {b : Nat} {v v' : Value} {n : Nat} {L : List Value} {xs : List St} {clk : Int} (h : PlanAt B w b v xs clk) (hg : w.grownBy w' v.ownBlock) (ho : w'.ownsRow B 106 5 v' n L) :
    w'.heap[b]? = some (.cells #[v, .int .u64 clk] 109 (0, 0)) ∧ v'.ownBlock ≠ some b := by
  have hb : w'.heap[b]? = some (.cells #[v, .int .u64 clk] 109 (0, 0)) := (hg.block b (lt_of_block h.blk) (fun e => h.apart e.symm)).trans h.blk
  refine ⟨hb, ?_⟩
  rcases ho.2 with ⟨rfl, -⟩ | ⟨g, cap, cur, rfl, hbg, hgg, -⟩
  · simp [Value.ownBlock]
  · intro e
    simp [Value.ownBlock] at e
    subst e
    rw [hb] at hgg
    simp at hgg

theorem PlanAt.keeps {B : Nat} {w w' : World} {b : Nat} {v : Value} {xs : List St} {clk : Int} (h : PlanAt B w b v xs clk) (hg : w.grownBy w' v.ownBlock) : Keeps B w w' := by
  rcases h.own.2 with ⟨rfl, -⟩ | ⟨g, cap, cur, rfl, hbg, hgg, -⟩
  · exact Keeps.of_none hg
  · exact Keeps.of_grown hg hbg hgg (.inl rfl)

theorem PlanAt.after {B : Nat} {w w' : World} {b : Nat} {v v' : Value} {n : Nat} {L : List Value} {xs : List St} {clk : Int} (h : PlanAt B w b v xs clk) (hg : w.grownBy w' v.ownBlock) (ho : w'.ownsRow B 106 5 v' n L) :
    Keeps B w w' ∧ w'.heap[b]? = some (.cells #[v, .int .u64 clk] 109 (0, 0)) ∧ v'.ownBlock ≠ some b := ⟨h.keeps hg, h.behind hg ho⟩
theorem blk_facts {w : World} {b : Nat} {v : Value} {clk : Int} (h : w.heap[b]? = some (.cells #[v, .int .u64 clk] 109 (0, 0))) : w.cell? ⟨b, 0, none⟩ = some v ∧ w.frozen? ⟨b, 0, none⟩ = false := ⟨by simp [World.cell?, h], by simp [World.frozen?, h]⟩
theorem slice_of {w : World} {B : Nat} {e : TypeId} {size : Nat} {v : Value} {n : Nat} {L : List Value} (h : w.ownsRow B e size v n L) : ∃ oa n' cap, v = .slice oa n' cap := by
  rcases h.2 with ⟨rfl, -⟩ | ⟨g, cap, cur, rfl, -⟩
  · exact ⟨_, _, _, rfl⟩
  · exact ⟨_, _, _, rfl⟩

set_option maxRecDepth 100000 in
theorem set_full (B b : Nat) (v : Value) (xs : List St) (clk id urg : Int) (inc : Bool) (w : World) (h : PlanAt B w b v xs clk) (hr : Rising xs) (hu : urg ≤ 7) (hh : hasId xs id = false) (hf : 256 ≤ xs.length) :
    Calls Tryz.prog 21 #[.pointer (some ⟨b, 0, none⟩), .int .u64 id, .agg #[.int .u8 urg, .bool inc]] w (Does B w b xs clk (.int .i64 7)) := by
  have H := Lib.hid h
  have HR := Lib.hid hr
  have HH := Lib.hid hh
  obtain ⟨oa, cap, rfl, h1, h2, hx⟩ := h.read
  have hl := h.len
  have hbw := lt_of_block h.blk
  have hq : PlanAt B (w.alloc (.cells #[.int .u8 urg, .bool inc] 42)) b (.slice oa xs.length cap) xs clk := h.below ((Below.refl _ w).alloc (Nat.le_refl _) _)
  have HX := Lib.hid (hx.below ((Below.refl _ w).alloc (Nat.le_refl _) (.cells #[.int .u8 urg, .bool inc] 42)))
  have HQ := Lib.hid hq
  clear h hr hx hq hh
  go_enter Tryz.func21, Tryz.ntmps21
  go_wp2_with fail
  refine (find_at b oa xs cap clk id _ HQ.out.blk HX.out HR.out (by omega)).mono ?_
  rintro e w1 ⟨rfl, hb1⟩
  rw [HH.out]
  have hpl := HQ.out.below hb1
  have c0 : w1.cell? ⟨b, 0, none⟩ = some (.slice oa xs.length cap) := by simp [World.cell?, hpl.blk]
  have hx0 : w1.cell? ⟨w.heap.size, 0, none⟩ = some (.int .u8 urg) := by rw [hb1.cell (by simp)]; simp
  have HB1 : Hid (Below w.heap.size w w1) := Lib.hid (((Below.refl _ w).alloc (Nat.le_refl _) _).trans (hb1.mono (by simp)))
  clear hb1 hpl
  go_wp2_with fail
  go_ret
  exact ⟨rfl, ⟨_, H.out.below HB1.out⟩, Keeps.of_below HB1.out⟩

set_option maxRecDepth 100000 in
theorem set_new (B b : Nat) (v : Value) (xs : List St) (clk id urg : Int) (inc : Bool) (w : World) (h : PlanAt B w b v xs clk) (hr : Rising xs) (hu : urg ≤ 7) (hh : hasId xs id = false) (hf : xs.length < 256) :
    Calls Tryz.prog 21 #[.pointer (some ⟨b, 0, none⟩), .int .u64 id, .agg #[.int .u8 urg, .bool inc]] w (Does B w b (ins xs ⟨id, urg, inc, false, 0⟩) clk (.int .i64 0)) := by
  have H := Lib.hid h
  have HR := Lib.hid hr
  have HH := Lib.hid hh
  obtain ⟨oa, cap, rfl, h1, h2, hx⟩ := h.read
  have hl := h.len
  have hbw := lt_of_block h.blk
  have hq : PlanAt B (w.alloc (.cells #[.int .u8 urg, .bool inc] 42)) b (.slice oa xs.length cap) xs clk := h.below ((Below.refl _ w).alloc (Nat.le_refl _) _)
  have HX := Lib.hid (hx.below ((Below.refl _ w).alloc (Nat.le_refl _) (.cells #[.int .u8 urg, .bool inc] 42)))
  have HQ := Lib.hid hq
  have hbase := h.base
  clear h hr hx hq hh
  go_enter Tryz.func21, Tryz.ntmps21
  go_wp2_with fail
  refine (find_at b oa xs cap clk id _ HQ.out.blk HX.out HR.out (by omega)).mono ?_
  rintro e w1 ⟨rfl, hb1⟩
  rw [HH.out]
  have hp := place_le xs id
  obtain ⟨p, hpp⟩ : ∃ p, p = placeOf xs id := ⟨_, rfl⟩
  have HP := Lib.hid hpp
  rw [← hpp] at hp ⊢
  have hpl := HQ.out.below hb1
  have c0 : w1.cell? ⟨b, 0, none⟩ = some (.slice oa xs.length cap) := by simp [World.cell?, hpl.blk]
  have hx0 : w1.cell? ⟨w.heap.size, 0, none⟩ = some (.int .u8 urg) := by rw [hb1.cell (by simp)]; simp
  have hx1 : w1.cell? ⟨w.heap.size, 1, none⟩ = some (.bool inc) := by rw [hb1.cell (by simp)]; simp
  have HB1 : Hid (Below w.heap.size w w1) := Lib.hid (((Below.refl _ w).alloc (Nat.le_refl _) _).trans (hb1.mono (by simp)))
  have HPL := Lib.hid hpl
  clear hb1 hpl hpp
  go_wp2_with fail
  have HPW := HPL
  have hbs : B ≤ (w1.alloc (.cells #[.int .u64 id, .int .u8 urg, .bool inc, .bool false, .int .u64 0] 106)).drew.heap.size := by
    have := lt_of_block HPW.out.blk; simp; omega
  have hpa := (HPW.out.below ((Below.refl _ w1).alloc (Nat.le_refl _) (.cells #[.int .u64 id, .int .u8 urg, .bool inc, .bool false, .int .u64 0] 106))).drew
  have hne : (Value.slice oa xs.length cap).ownBlock ≠ some w1.heap.size := by
    intro e
    have := (HPW.out.own.lt _ e).2
    omega
  have hbw1 : b < w1.heap.size := lt_of_block HPW.out.blk
  have hww1 : w.heap.size < w1.heap.size := World.block_lt_of_cell? w1 _ hx0
  have HBS := Lib.hid hbs
  have HPA := Lib.hid hpa
  have HNE := Lib.hid hne
  clear hbs hpa hne
  go_region_with (go_at_call 51; go_must (refine (insert_any B _ (.slice oa xs.length cap) xs.length p (rowOf xs) [.int .u64 id, .int .u8 urg, .bool inc, .bool false, .int .u64 0] w1.heap.size HPA.out.own HBS.out (by omega) hp (Go.heap_alloc_new w1 _) HNE.out rfl (fun u hu => rowOf_one [⟨id, urg, inc, false, 0⟩] u (by simpa [rowOf, St.cells] using hu)) (rowOf_one xs)).mono ?_); go_must (rintro e w2 ⟨v', rfl, hown', hgr⟩); (obtain ⟨oa', n', cap', hv'⟩ := slice_of hown'; subst hv'; obtain ⟨hk2, hb2, hap⟩ := HPA.out.after hgr hown'; obtain ⟨c0, f0⟩ := blk_facts hb2; have HB2 := Lib.hid hb2; have HAP := Lib.hid hap; have HK2 := Lib.hid hk2; have HO := Lib.hid hown'; clear hb2 hap hk2 hown' hgr))
  all_goals
    go_wp2_with fail
    go_ret
    refine ⟨rfl, ⟨.slice oa' n' cap', ⟨blk_set HB2.out 0 _, ?_, hbase, ?_⟩⟩, ?_⟩
    · have hkk := HO.out.kept (grownBy_set w2 b 0 (.slice oa' n' cap')) (.inr HAP.out)
      have hlen : (ins xs ⟨id, urg, inc, false, 0⟩).length = xs.length + 1 := by simp [ins]; have := place_le xs id; omega
      rw [hlen]
      unfold ins
      rw [rowOf_append, rowOf_append, ← HP.out, ← rowOf_take, ← rowOf_drop]
      exact hkk
    · simp [ins]; have := place_le xs id; omega
    · refine (Keeps.of_below HB1.out).trans ((Keeps.of_below (((Below.refl _ w1).alloc (Nat.le_refl _) _).drew)).trans (HK2.out.trans ?_))
      exact Keeps.of_grown (grownBy_set w2 b 0 _) hbase HB2.out (.inr rfl)

theorem setXs_any (B b : Nat) (v : Value) (xs : List St) (clk id urg : Int) (inc : Bool) (w : World) (h : PlanAt B w b v xs clk) (hr : Rising xs) :
    Calls Tryz.prog 21 #[.pointer (some ⟨b, 0, none⟩), .int .u64 id, .agg #[.int .u8 urg, .bool inc]] w (Does B w b (setXs xs id urg inc) clk (.int .i64 (setRes xs id urg))) := by
  unfold setXs setRes
  by_cases hu : 7 < urg
  · rw [if_pos hu, if_pos hu]; exact set_arg B b v xs clk id urg inc w h hr hu
  · rw [if_neg hu, if_neg hu]
    cases hh : hasId xs id
    · rw [if_neg (show ¬ (false = true) by simp), if_neg (show ¬ (false = true) by simp)]
      by_cases hf : 256 ≤ xs.length
      · rw [if_pos hf, if_pos hf]; exact set_full B b v xs clk id urg inc w h hr (by omega) hh hf
      · rw [if_neg hf, if_neg hf]; exact set_new B b v xs clk id urg inc w h hr (by omega) hh (by omega)
    · rw [if_pos rfl, if_pos rfl]; exact set_is B b v xs clk id urg inc w h hr (by omega) hh
end Go.Proofs.YtnkbhpnflfhhnaaGreatDoor
