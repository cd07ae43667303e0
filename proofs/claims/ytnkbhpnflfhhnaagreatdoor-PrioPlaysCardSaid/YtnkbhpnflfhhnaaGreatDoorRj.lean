import Derived.Test.YtnkbhpnflfhhnaaGreatDoorRi
import Derived.Test.YtnkbhpnflfhhnaaGreatDoorRe
import Derived.Test.YtnkbhpnflfhhnaaGreatDoorRf
import Derived.Deep.Cut
import Derived.IntWalk
import Derived.Deep.CutRange
import Derived.Deep.DeepCutAuto
import Derived.Deep.CutBlock
namespace Go.Proofs.YtnkbhpnflfhhnaaGreatDoor
open Go.ChangeShapes Go.WideShapes Go.ChangeAt Go.RowKit

theorem box_keeps {B : Nat} {w w' : World} {b : Nat} {cs : Array Value} (h : w.heap[b]? = some (.cells cs 59 (0, 0))) (hk : Keeps B w w') : w'.heap[b]? = some (.cells cs 59 (0, 0)) :=
  (hk.block b (lt_of_block h) (.inr fun cs' t fr e => by rw [h] at e; simp only [Option.some.injEq, Obj.cells.injEq] at e; obtain ⟨-, rfl, -⟩ := e; exact ⟨by decide, by decide⟩)).trans h
def PlaysRel (w0 : World) (b : Nat) (l : List DoV) (q : Nat) (v4 v5 i : Value) (wr : World) : Prop :=
  ∃ (k : Nat) (xs r : List St) (clk : Nat), k + q = l.length ∧ i = .int .i64 k ∧ v5 = .int .i64 clk ∧ clk ≤ k ∧ Rp w0 b v4 xs r clk wr ∧ Sim xs r
def MidP (w0 : World) (b n : Nat) (s4 s5 s9 : Value) (wx : World) : Prop :=
  ∃ (xs r : List St) (clk : Nat), s5 = .int .i64 clk ∧ s9 = .bool true ∧ clk ≤ n ∧ Rp w0 b s4 xs r clk wx ∧ Sim xs r

def DropP (w0 : World) (b bx : Nat) (cs : Array Value) (xs r : List St) (ids : List Int) (clk q : Nat) (s4 s12 s159 : Value) (wr : World) : Prop :=
  ∃ (j : Nat) (c : Int), j + q = ids.length ∧ s159 = .int .i64 j ∧ s12 = .int .i64 c ∧ c = (r.length : Int) - ((dropped r (ids.take j)).length : Int) ∧ Rp w0 b s4 xs (dropped r (ids.take j)) clk wr ∧ wr.heap[bx]? = some (.cells cs 59 (0, 0))

set_option maxHeartbeats 8000000 in
set_option maxRecDepth 100000 in
theorem plays_any (oa : Option Addr) (l : List DoV) (cap : Nat) (w : World) (hx : DoRow w.heap.size w oa l) (hl : l.length ≤ 4611686018427387904) :
    Calls Tryz.prog 5 #[.slice oa l.length cap] w (Gives w (.bool true)) := by
  have HX := Lib.hid hx
  clear hx
  go_enter Tryz.func5, Tryz.ntmps5
  go_wp2_with fail
  refine (heavy_any oa l cap w HX.out hl).mono ?_
  rintro e w1 ⟨rfl, hb1⟩
  have H1 := Lib.hid hb1
  clear hb1
  by_cases hv : 600 < heavyN l
  · rw [show decide (600 < heavyN l) = true from decide_eq_true hv]
    go_wp2_with fail
    refine (works_any _).mono ?_
    rintro e w2 ⟨rfl, hb2⟩
    have H2 := Lib.hid (H1.out.trans (hb2.mono H1.out.size))
    clear hb2
    go_wp2_with fail
    go_ret
    exact ⟨rfl, H2.out⟩
  · rw [show decide (600 < heavyN l) = false from decide_eq_false hv]
    have hl600 : l.length ≤ 600 := by have := heavyN_len l; omega
    go_wp2_with fail
    refine (new_any _).mono ?_
    rintro e w2 ⟨rfl, hw2⟩
    have hn : Rp w w1.heap.size (.slice none 0 0) [] [] (0 : Nat) w2 := by
      rw [hw2]
      exact ⟨⟨_, new_plan w.heap.size w1 H1.out.size⟩, World.ownsRow_nil _ _ _ _, H1.out.alloc H1.out.size _⟩
    clear hw2
    generalize w1.heap.size = b at hn ⊢
    have N2 := Lib.hid hn
    clear hn
    go_wp2_with fail
    go_loopg [4, 5, 25] l.length (fun q v4 v5 i wr => PlaysRel w b l q v4 v5 i wr)
    case atStart => exact ⟨0, [], [], 0, by omega, rfl, rfl, by omega, N2.out, Sim.nil⟩
    case round =>
      obtain ⟨k, xs, r, clk, hk, rfl, rfl, hclk, hn, hsim⟩ := hrel
      have NR := Lib.hid hn
      have SM := Lib.hid hsim
      clear hn N2 hsim
      by_cases hlt : k < l.length
      · obtain ⟨g, off, rfl, x0, x1, x2, x3, x4, x5, hg, h7, h8, h9⟩ := (HX.out.below NR.out.bel) k hlt
        obtain ⟨x, hxk⟩ : ∃ x, x = l[k] := ⟨_, rfl⟩
        have HXK := Lib.hid hxk
        have H8 := Lib.hid h8
        have H9 := Lib.hid h9
        rw [← hxk] at x0 x1 x2 x3 x4 x5 h7 H8 H9
        obtain ⟨oi, hoi⟩ : ∃ oi, oi = x.oi := ⟨_, rfl⟩
        rw [← hoi] at x5 H8 H9
        clear hxk h8 h9 hoi
        obtain ⟨oa, cap4, rfl, hc1, hc2, hrr⟩ := NR.out.read
        have hrl : r.length ≤ 256 := by obtain ⟨v, hv⟩ := NR.out.plan; rw [← SM.out.len]; exact hv.len
        obtain ⟨rn, hrn⟩ : ∃ rn, rn = r.length := ⟨_, rfl⟩
        rw [← hrn] at hrl hc1 NR ⊢
        have HRN := Lib.hid hrn
        have HRR := Lib.hid hrr
        clear hrr hrn
        go_wp2_with fail
        have hba : Below wr.heap.size wr (wr.alloc (.cells #[.int .u8 x.kind, .int .u64 x.id, .int .u8 x.urg, .bool x.inc, .bool x.is, .slice oi x.ids.length x.ci] 59)) := (Below.refl _ _).alloc (Nat.le_refl _) _
        have hx0 : (wr.alloc (.cells #[.int .u8 x.kind, .int .u64 x.id, .int .u8 x.urg, .bool x.inc, .bool x.is, .slice oi x.ids.length x.ci] 59)).heap[wr.heap.size]? = some (.cells #[.int .u8 x.kind, .int .u64 x.id, .int .u8 x.urg, .bool x.inc, .bool x.is, .slice oi x.ids.length x.ci] 59 (0, 0)) := World.alloc_heap_new wr _
        have hpl := place_any oa r cap4 x.id _ (HRR.out.below hba) (by rw [← HRN.out]; omega)
        rw [← HRN.out] at hpl
        refine hpl.mono ?_
        rintro e w3 ⟨rfl, hb3⟩
        have hT1 := (NR.out.gives hba).gives hb3
        have hx1 := (hb3.block _ (lt_of_block hx0)).trans hx0
        have hb1 := (hba.trans (hb3.mono hba.size)).mono NR.out.bel.size
        have H8' : Hid (U64s w oi x.ids) := Lib.hid (H8.out.back (B := w.heap.size) NR.out.bel H9.out)
        have HBR := Lib.hid (NR.out.bel)
        have HB1 := Lib.hid hb1
        clear hb3 hba hx0 x0 x1 x2 x3 x4 x5 hpl hb1 NR HRR H8
        generalize wr.heap.size = bx at hx1 ⊢
        have T1 := Lib.hid hT1
        have X1 := Lib.hid hx1
        have y0 : w3.cell? ⟨bx, 0, none⟩ = some (.int .u8 x.kind) := by simp [World.cell?, hx1]
        have y1 : w3.cell? ⟨bx, 1, none⟩ = some (.int .u64 x.id) := by simp [World.cell?, hx1]
        have y2 : w3.cell? ⟨bx, 2, none⟩ = some (.int .u8 x.urg) := by simp [World.cell?, hx1]
        have y3 : w3.cell? ⟨bx, 3, none⟩ = some (.bool x.inc) := by simp [World.cell?, hx1]
        have y4 : w3.cell? ⟨bx, 4, none⟩ = some (.bool x.is) := by simp [World.cell?, hx1]
        have y5 : w3.cell? ⟨bx, 5, none⟩ = some (.slice oi x.ids.length x.ci) := by simp [World.cell?, hx1]
        clear hT1 hx1
        go_upto_block 2 with (fail)
        go_cut [4, 5, 9, 34] (fun s4 s5 s9 _ wx => MidP w b (k + 1) s4 s5 s9 wx)
        case first =>
          by_cases hk0 : x.kind = 0
          · as_aux_lemma =>
              go_wp2_with fail
              obtain ⟨v, hv⟩ := T1.out.plan
              refine (setXs_any _ _ v xs _ _ _ _ _ hv SM.out.rise).mono ?_
              rintro e w4 hd
              obtain ⟨rfl, hT3, hk3⟩ := T1.out.does hd
              have T3 := Lib.hid hT3
              have hx3 := box_keeps X1.out hk3
              have X3 := Lib.hid hx3
              have SS := Lib.hid (sim_set SM.out x.id x.urg x.inc)
              clear hd hT3 hv hk3 T1 X1 y0 y1 y2 y3 y4 y5
              have hres := SM.out.res x.id x.urg
              by_cases hu : 7 < x.urg
              · rw [hres, if_pos hu]
                have hR : setR r x.id x.urg x.inc = r := by unfold setR; rw [if_pos hu]
                rw [hR] at SS
                have y2 : w4.cell? ⟨bx, 2, none⟩ = some (.int .u8 x.urg) := by simp [World.cell?, hx3]
                clear hres hR hx3
                go_wp2_with fail
                go_meet
                case rel => exact ⟨_, r, clk, rfl, rfl, by omega, T3.out, SS.out⟩
              · rw [hres, if_neg hu]
                clear hres
                rcases plc_has r x.id with ⟨hp1, hp2⟩ | ⟨i, hi, hp1, hp2, hp3⟩
                · rw [if_neg (by rw [hp2]; simp)]
                  obtain ⟨pl, hpl⟩ : ∃ pl, pl = plc x.id r 0 := ⟨_, rfl⟩
                  rw [← hpl] at hp1 ⊢
                  clear hpl
                  by_cases hf : 256 ≤ rn
                  · have hf' : 256 ≤ r.length := by rw [← HRN.out]; exact hf
                    rw [if_pos hf']
                    have hR : setR r x.id x.urg x.inc = r := by unfold setR; rw [if_neg hu, hp2, if_neg (by simp), if_pos hf']
                    rw [hR] at SS
                    have y2 : w4.cell? ⟨bx, 2, none⟩ = some (.int .u8 x.urg) := by simp [World.cell?, hx3]
                    clear hR hp2 hf' hx3
                    go_wp2_with fail
                    go_meet
                    case rel => exact ⟨_, r, clk, rfl, rfl, by omega, T3.out, SS.out⟩
                  · have hf' : ¬ 256 ≤ r.length := by rw [← HRN.out]; exact hf
                    rw [if_neg hf']
                    have hR : setR r x.id x.urg x.inc = r ++ [⟨x.id, x.urg, x.inc, false, 0⟩] := by unfold setR; rw [if_neg hu, hp2, if_neg (by simp), if_neg hf']
                    have HSR := Lib.hid hR
                    have y1 : w4.cell? ⟨bx, 1, none⟩ = some (.int .u64 x.id) := by simp [World.cell?, hx3]
                    have y2 : w4.cell? ⟨bx, 2, none⟩ = some (.int .u8 x.urg) := by simp [World.cell?, hx3]
                    obtain ⟨i0, hi0, hz0, hz1, hz2⟩ := info_parts info62
                    clear hR hp2 hf' hx3
                    have hba4 : Below w4.heap.size w4 (w4.alloc (.cells #[.int .u64 x.id, .int .u8 0, .bool false, .bool false, .int .i64 0] 62)) := (Below.refl _ _).alloc (Nat.le_refl _) _
                    have T4 := Lib.hid (T3.out.gives hba4)
                    have X4 := Lib.hid ((hba4.block _ (lt_of_block X3.out)).trans X3.out)
                    clear hba4 T3 X3
                    have hrn1 : r.length + 1 = rn + 1 := by rw [← HRN.out]
                    have hlim : r.length + 1 ≤ maxLen := by rw [← HRN.out]; unfold maxLen; omega
                    have hlim2 : (r.length + 1) * 24 ≤ 140737488355328 := by rw [← HRN.out]; omega
                    have HRN1 := Lib.hid hrn1
                    have HLIM := Lib.hid hlim
                    have HLIM2 := Lib.hid hlim2
                    clear hrn1 hlim hlim2
                    go_wp2_with (at_builtin; go_loud (refine wpList_append_own _ rfl _ _ 56 rfl w.heap.size 62 i0 (.agg #[.int .u64 0, .int .u8 0, .bool false, .bool false, .int .i64 0]) 5 24 Tryz.underlying56 hi0 hz0 hz1 hz2 rfl (by decide) _ _ _ rfl T4.out.row ⟨w4.heap.size, 0, none⟩ 1 1 (St.rc ⟨x.id, 0, false, false, 0⟩) rfl rfl (cells_new w4 _ 62) (rc_one _) HLIM.out HLIM2.out T4.out.bel.size ?_); intro v' w5 hown5 hg5 _; go_loud (obtain ⟨oa5, cap5, rfl, hT5, hx5⟩ := T4.out.appended X4.out hown5 hg5); go_loud (rw [HRN1.out] at hT5); go_loud (rw [HRN1.out]); go_loud (have y2 : w5.cell? ⟨bx, 2, none⟩ = some (.int .u8 x.urg) := by simp [World.cell?, hx5]); go_loud (have y3 : w5.cell? ⟨bx, 3, none⟩ = some (.bool x.inc) := by simp [World.cell?, hx5]); go_loud (have T5 := Lib.hid hT5); go_loud (clear hT5 hx5 hown5 hg5))
                    obtain ⟨g4, rfl, -, ⟨v1, v2, -, -, c1, c2, -, -⟩, fz⟩ := T5.out.slots rn (by rw [HRN.out]; simp)
                    have f1 := fz (rn * 5 + 1)
                    have f2 := fz (rn * 5 + 2)
                    have hin : (rn : Int) < ((rn + 1 : Nat) : Int) := by omega
                    clear fz T4 X4 y1
                    go_region
                    go_wp2_with fail
                    go_meet
                    case rel =>
                      refine ⟨_, setR r x.id x.urg x.inc, clk, rfl, rfl, by omega, ?_, SS.out⟩
                      have hl2 : rn < (r ++ [(⟨x.id, 0, false, false, 0⟩ : St)]).length := by rw [HRN.out]; simp
                      have h2 := T5.out.two (by rw [HRN.out]; simp) rn hl2 x.urg x.inc
                      rw [snoc_two r _ rn HRN.out hl2] at h2
                      rw [HSR.out]
                      exact h2.drew
                · rw [if_pos (by rw [hp3]), hp1]
                  have hR : setR r x.id x.urg x.inc = r.set i { r[i] with urg := x.urg, inc := x.inc } := by
                    unfold setR
                    rw [if_neg hu, if_pos hp3]
                    rw [← hp2]
                    exact upd_one SM.out.apart i hi (fun s => { s with urg := x.urg, inc := x.inc })
                  have HSR := Lib.hid hR
                  have y2 : w4.cell? ⟨bx, 2, none⟩ = some (.int .u8 x.urg) := by simp [World.cell?, hx3]
                  have y3 : w4.cell? ⟨bx, 3, none⟩ = some (.bool x.inc) := by simp [World.cell?, hx3]
                  obtain ⟨g4, rfl, -, ⟨v1, v2, -, -, c1, c2, -, -⟩, fz⟩ := T3.out.slots i hi
                  have f1 := fz (i * 5 + 1)
                  have f2 := fz (i * 5 + 2)
                  have hin : i < rn := by rw [HRN.out]; exact hi
                  have hin' : (i : Int) < (rn : Int) := by omega
                  clear hR hp1 hp2 hp3 fz hx3
                  go_wp2_with fail
                  go_region
                  go_wp2_with fail
                  go_meet
                  case rel =>
                    refine ⟨_, setR r x.id x.urg x.inc, clk, rfl, rfl, by omega, ?_, SS.out⟩
                    have h2 := T3.out.two HRN.out i hi x.urg x.inc
                    rw [HSR.out]
                    exact h2.drew
          · by_cases hk1 : x.kind = 1
            · as_aux_lemma =>
                go_wp2_with fail
                obtain ⟨v, hv⟩ := T1.out.plan
                refine (ready_any _ _ v xs _ _ _ _ hv SM.out.rise).mono ?_
                rintro e w4 hd
                obtain ⟨rfl, hT3, hk3⟩ := T1.out.does hd
                have T3 := Lib.hid hT3
                have hx3 := box_keeps X1.out hk3
                have y4 : w4.cell? ⟨bx, 3 + 1, none⟩ = some (.bool x.is) := by simp [World.cell?, hx3]
                have SS := Lib.hid (sim_upd SM.out x.id (fun s => { s with rdy := x.is }) (fun _ => rfl) (fun _ h => h))
                rw [SM.out.has x.id]
                clear hd hT3 hv hk3 hx3 T1 X1 y0 y1 y2 y3 y5
                rcases plc_has r x.id with ⟨hp1, hp2⟩ | ⟨i, hi, hp1, hp2, hp3⟩
                · rw [hp2, if_neg (by simp)]
                  rw [upd_none _ hp2] at SS
                  obtain ⟨pl, hpl⟩ : ∃ pl, pl = plc x.id r 0 := ⟨_, rfl⟩
                  rw [← hpl] at hp1 ⊢
                  clear hpl hp2
                  go_wp2_with fail
                  go_meet
                  case rel => exact ⟨_, r, clk, rfl, rfl, by omega, T3.out, SS.out⟩
                · rw [hp3, if_pos rfl, hp1]
                  have hup : upd r x.id (fun s => { s with rdy := x.is }) = r.set i { r[i] with rdy := x.is } := by
                    rw [← hp2]
                    exact upd_one SM.out.apart i hi (fun s => { s with rdy := x.is })
                  rw [hup] at SS
                  obtain ⟨g4, rfl, -, ⟨c0, c1, c2, c3, c4⟩, fz⟩ := T3.out.at hi
                  have f3 := fz (i * 5 + 3)
                  have hin : i < rn := by rw [HRN.out]; exact hi
                  have hin' : (i : Int) < (rn : Int) := by omega
                  have HI := Lib.hid hi
                  clear hp1 hp2 hp3 hup c0 c1 c2 c4 fz
                  go_wp2_with fail
                  go_meet
                  case rel => exact ⟨_, _, clk, rfl, rfl, by omega, T3.out.store HRN.out i 3 HI.out (by omega) _ { r[i]'HI.out with rdy := x.is } rfl, SS.out⟩
            · by_cases hk2 : x.kind = 2
              · obtain ⟨n5, hn5⟩ : ∃ n5, n5 = x.ids.length := ⟨_, rfl⟩
                rw [← hn5] at y5 h7
                have HN5 := Lib.hid hn5
                clear hn5 y0 y1 y2 y3 y4
                go_wp2_with fail
                have HK2 := Lib.hid hk2
                clear y5 hk2
                go_loopg [4, 12, 159] n5 (fun q s4 s12 s159 wr => DropP w b bx #[.int .u8 x.kind, .int .u64 x.id, .int .u8 x.urg, .bool x.inc, .bool x.is, .slice oi x.ids.length x.ci] xs r x.ids clk q s4 s12 s159 wr)
                case atStart => exact ⟨0, 0, by rw [HN5.out]; omega, rfl, rfl, by rw [List.take_zero, show dropped r [] = r from dropped_nil r]; omega, by rw [List.take_zero, show dropped r [] = r from dropped_nil r]; exact T1.out, X1.out⟩
                case round =>
                  obtain ⟨j, c, hj, rfl, rfl, hc, hT, hX⟩ := hrel
                  have TD := Lib.hid hT
                  have XD := Lib.hid hX
                  have hdl := dropped_len r (x.ids.take j)
                  have hc0 : 0 ≤ c := by omega
                  have hc1' : c ≤ 256 := by rw [hc, ← HRN.out]; omega
                  have HC := Lib.hid hc
                  rw [← HN5.out] at hj
                  obtain ⟨r2, hr2⟩ : ∃ r2, r2 = dropped r (x.ids.take j) := ⟨_, rfl⟩
                  rw [← hr2] at TD hdl HC
                  have hap : Apart r2 := by rw [hr2]; exact SM.out.apart.dropped _
                  have HAP := Lib.hid hap
                  have HR2 := Lib.hid hr2
                  obtain ⟨oa2, cap2, rfl, hcc1, hcc2, -⟩ := TD.out.read
                  obtain ⟨m, hm⟩ : ∃ m, m = r2.length := ⟨_, rfl⟩
                  rw [← hm] at TD hcc1
                  have HM := Lib.hid hm
                  have hm256 : m ≤ 256 := by rw [hm]; rw [← HRN.out] at hdl; omega
                  rw [← hm]
                  clear hT hX T1 X1 hc hdl hap hr2 hm
                  by_cases hlj : j < n5
                  · have hlj' : j < x.ids.length := by rw [← HN5.out]; exact hlj
                    obtain ⟨g2, off2, rfl, hcell⟩ := H8'.out j hlj'
                    obtain ⟨g3, off3, ho3, hg3⟩ := H9.out j hlj'
                    simp only [Option.some.injEq, Addr.mk.injEq, and_true] at ho3
                    obtain ⟨rfl, rfl⟩ := ho3
                    obtain ⟨y, hy⟩ : ∃ y, y = x.ids[j] := ⟨_, rfl⟩
                    have HY := Lib.hid hy
                    rw [← hy] at hcell
                    have hc2 := (TD.out.bel.cell hg3).trans hcell
                    have htk : x.ids.take (j + 1) = x.ids.take j ++ [y] := by rw [List.take_succ_eq_append_getElem hlj', ← hy]
                    have HTK := Lib.hid htk
                    clear hcell hy hg3 htk
                    go_wp2_with fail
                    obtain ⟨oa5, cap5, he5, -, -, hrr5⟩ := TD.out.read
                    have hpl := place_any oa5 r2 cap5 y _ hrr5 (by rw [← HM.out]; omega)
                    rw [← he5] at hpl
                    refine hpl.mono ?_
                    rintro e w5 ⟨rfl, hb5⟩
                    have T5 := Lib.hid (TD.out.gives hb5)
                    have X5 := Lib.hid ((hb5.block _ (lt_of_block XD.out)).trans XD.out)
                    clear hpl he5 hrr5 hb5 TD XD hc2
                    rcases plc_has r2 y with ⟨hp1, hp2⟩ | ⟨i, hi, hp1, hp2, hp3⟩
                    · obtain ⟨pl, hpl⟩ : ∃ pl, pl = plc y r2 0 := ⟨_, rfl⟩
                      rw [← hpl] at hp1 ⊢
                      have hd' : dropped r (x.ids.take (j + 1)) = r2 := by rw [HTK.out, HR2.out]; exact dropped_no (by rw [← HR2.out]; exact hp2)
                      have HD := Lib.hid hd'
                      have hdp : decide (0 ≤ pl) = false := decide_eq_false (by omega)
                      clear hpl hp2 hd'
                      go_wp2_with fail
                      go_roundg (gk - 1)
                      case measure => omega
                      case rel => exact ⟨j + 1, c, by rw [← HN5.out]; omega, by go_num, rfl, by rw [HD.out]; exact HC.out, by rw [HD.out]; exact T5.out, X5.out⟩
                    · rw [hp1]
                      have hd' : dropped r (x.ids.take (j + 1)) = r2.take i ++ r2.drop (i + 1) := by
                        rw [HTK.out, ← dropped_snoc, ← HR2.out]
                        exact (erase_place HAP.out i hi y hp2).symm
                      have hlen : (r2.take i ++ r2.drop (i + 1)).length + 1 = r2.length := by rw [List.length_append, List.length_take, List.length_drop]; omega
                      have HD := Lib.hid hd'
                      have HL := Lib.hid hlen
                      have HI := Lib.hid hi
                      obtain ⟨g4, rfl, -, -, -⟩ := T5.out.slots i hi
                      have him : i < m := by rw [HM.out]; exact hi
                      clear hp1 hp2 hp3 hd' hlen hi
                      obtain ⟨i0, hi0, hz0, hz1, hz2⟩ := info_parts info62
                      have him' : (i : Int) < (m : Int) := by omega
                      by_cases hcap : i + 1 = cap2
                      · subst hcap
                        have hic : i ≤ i + 1 := by omega
                        have hii : (i : Int) ≤ (i : Int) + 1 := by omega
                        have hic2 : i + 1 ≤ m := by omega
                        have hB5 : Below w5.heap.size w5 (w5.alloc (.cells #[] 62)).drew := ((Below.refl _ w5).alloc (Nat.le_refl _) _).drew
                        have own0 : (w5.alloc (.cells #[] 62)).drew.ownsRow w5.heap.size 62 5 (.slice (some ⟨w5.heap.size, 0, none⟩) 0 0) 0 [] := own_empty w5 w5.heap.size (Nat.le_refl _)
                        have p1 := (T5.out.part HM.out hB5).1 i (by rw [← HM.out]; omega)
                        have HB5 := Lib.hid hB5
                        have OWN0 := Lib.hid own0
                        have P1 := Lib.hid p1
                        clear hB5 own0 p1
                        go_wp2_with fail
                        have hint1 : (i : Int) + 1 ≤ (m : Int) := by omega
                        have lt6 : (refOf (r2.take i)).length = i * 5 := by rw [refOf_length, List.length_take, ← HM.out]; omega
                        have lt7 : (refOf (r2.drop (i + 1))).length = (m - (i + 1)) * 5 := by rw [refOf_length, List.length_drop, ← HM.out]
                        have hm1 : 0 + i ≤ maxLen := by unfold maxLen; omega
                        have hm2 : (0 + i) * 24 ≤ 140737488355328 := by omega
                        have hm3 : i + 0 ≤ maxLen := by unfold maxLen; omega
                        have hm4 : (i + 0) * 24 ≤ 140737488355328 := by omega
                        have hm5 : i + 1 ≤ r2.length := by rw [← HM.out]; omega
                        have he0 : refOf (r2.drop (i + 1)) = [] := by rw [List.drop_of_length_le (by rw [← HM.out]; omega)]; rfl
                        have HE := Lib.hid he0
                        clear he0
                        have HM1 := Lib.hid hm1
                        have HM2 := Lib.hid hm2
                        have HM3 := Lib.hid hm3
                        have HM4 := Lib.hid hm4
                        have HM5 := Lib.hid hm5
                        have hwr : IntKind.i64.wrap ((i : Int) + 1) = (i : Int) + 1 := IntWalk.i64_in _ (by omega)
                        have hwn : ((i : Int) + 1).toNat = i + 1 := by omega
                        have hw0 : (0 : Int) ≤ (i : Int) + 1 := by omega
                        clear hm1 hm2 hm3 hm4 hm5
                        have HT6 := Lib.hid lt6
                        have HT7 := Lib.hid lt7
                        clear lt6 lt7
                        go_region_law (first | (refine step_append_own rfl _ _ 56 rfl w5.heap.size 62 i0 (.agg #[.int .u64 0, .int .u8 0, .bool false, .bool false, .int .i64 0]) 5 24 Tryz.underlying56 hi0 hz0 hz1 hz2 rfl (by decide) _ _ _ rfl OWN0.out ⟨g4, 0, none⟩ i (i + 1) (refOf (r2.take i)) rfl HT6.out P1.out (refOf_one _) HM1.out HM2.out (by simp) ?_; intro v6 w6 ho6 hg6; rw [Nat.zero_add, List.nil_append] at ho6; have HB6 := Lib.hid (below_own (by simp) HB5.out OWN0.out hg6); have P6 : Hid (∀ (q : Nat) (u : Value), (refOf (r2.drop (i + 1)))[q]? = some u → w6.cell? ((⟨g4, 0, none⟩ : Addr).add q) = some u) := Lib.hid (fun q u hq => by rw [HE.out] at hq; cases hq); have HO6 := Lib.hid ho6; clear ho6 hg6) | (go_loud (refine step_append_own rfl _ _ 56 rfl w5.heap.size 62 i0 (.agg #[.int .u64 0, .int .u8 0, .bool false, .bool false, .int .i64 0]) 5 24 Tryz.underlying56 hi0 hz0 hz1 hz2 rfl (by decide) _ _ _ rfl HO6.out ⟨g4, 0, none⟩ 0 0 [] rfl rfl (fun q u hq => (by cases hq)) (fun u hu => (by cases hu)) HM3.out HM4.out HB6.out.size ?_); intro v7 w7 ho7 hg7; have HB7 := Lib.hid (below_own HB6.out.size HB6.out HO6.out hg7); have HO7 := Lib.hid ho7; clear ho7 hg7))
                        all_goals
                          clear hwr hwn hw0
                          go_wp2_with fail
                          go_roundg (gk - 1)
                          case measure => omega
                          case rel =>
                            refine ⟨j + 1, c + 1, by rw [← HN5.out]; omega, by go_num, by go_num, ?_, ?_, (HB7.out.block _ (lt_of_block X5.out)).trans X5.out⟩
                            · rw [HD.out]
                              have h1 := HC.out
                              have h2 := HL.out
                              omega
                            · rw [HD.out]
                              refine T5.out.cut HI.out HM.out ?_ HB7.out
                              rw [HE.out, show m - (i + 1) = 0 from by omega]
                              exact HO7.out
                      · have hcap' : ¬ (cap2 = i + 1) := by omega
                        have hic : i ≤ cap2 := by omega
                        have hic2 : i + 1 ≤ m := by omega
                        have hB5 : Below w5.heap.size w5 (w5.alloc (.cells #[] 62)).drew := ((Below.refl _ w5).alloc (Nat.le_refl _) _).drew
                        have own0 : (w5.alloc (.cells #[] 62)).drew.ownsRow w5.heap.size 62 5 (.slice (some ⟨w5.heap.size, 0, none⟩) 0 0) 0 [] := own_empty w5 w5.heap.size (Nat.le_refl _)
                        have p1 := (T5.out.part HM.out hB5).1 i (by rw [← HM.out]; omega)
                        have HB5 := Lib.hid hB5
                        have OWN0 := Lib.hid own0
                        have P1 := Lib.hid p1
                        clear hB5 own0 p1
                        go_wp2_with fail
                        have hint1 : (i : Int) + 1 ≤ (m : Int) := by omega
                        have lt6 : (refOf (r2.take i)).length = i * 5 := by rw [refOf_length, List.length_take, ← HM.out]; omega
                        have lt7 : (refOf (r2.drop (i + 1))).length = (m - (i + 1)) * 5 := by rw [refOf_length, List.length_drop, ← HM.out]
                        have hm1 : 0 + i ≤ maxLen := by unfold maxLen; omega
                        have hm2 : (0 + i) * 24 ≤ 140737488355328 := by omega
                        have hm3 : i + (m - (i + 1)) ≤ maxLen := by unfold maxLen; omega
                        have hm4 : (i + (m - (i + 1))) * 24 ≤ 140737488355328 := by omega
                        have hm5 : i + 1 ≤ r2.length := by rw [← HM.out]; omega
                        have HM1 := Lib.hid hm1
                        have HM2 := Lib.hid hm2
                        have HM3 := Lib.hid hm3
                        have HM4 := Lib.hid hm4
                        have HM5 := Lib.hid hm5
                        have hwr : IntKind.i64.wrap ((i : Int) + 1) = (i : Int) + 1 := IntWalk.i64_in _ (by omega)
                        have hwn : ((i : Int) + 1).toNat = i + 1 := by omega
                        have hw0 : (0 : Int) ≤ (i : Int) + 1 := by omega
                        clear hm1 hm2 hm3 hm4 hm5
                        have HT6 := Lib.hid lt6
                        have HT7 := Lib.hid lt7
                        clear lt6 lt7
                        go_region_law (first | (refine step_append_own rfl _ _ 56 rfl w5.heap.size 62 i0 (.agg #[.int .u64 0, .int .u8 0, .bool false, .bool false, .int .i64 0]) 5 24 Tryz.underlying56 hi0 hz0 hz1 hz2 rfl (by decide) _ _ _ rfl OWN0.out ⟨g4, 0, none⟩ i cap2 (refOf (r2.take i)) rfl HT6.out P1.out (refOf_one _) HM1.out HM2.out (by simp) ?_; intro v6 w6 ho6 hg6; rw [Nat.zero_add, List.nil_append] at ho6; have HB6 := Lib.hid (below_own (by simp) HB5.out OWN0.out hg6); have P6 := Lib.hid ((T5.out.part HM.out HB6.out).2 (i + 1) HM5.out); have HO6 := Lib.hid ho6; clear ho6 hg6) | (go_loud (refine step_append_own rfl _ _ 56 rfl w5.heap.size 62 i0 (.agg #[.int .u64 0, .int .u8 0, .bool false, .bool false, .int .i64 0]) 5 24 Tryz.underlying56 hi0 hz0 hz1 hz2 rfl (by decide) _ _ _ rfl HO6.out ⟨g4, (i + 1) * 5, none⟩ (m - (i + 1)) (cap2 - (i + 1)) (refOf (r2.drop (i + 1))) rfl HT7.out P6.out (refOf_one _) HM3.out HM4.out HB6.out.size ?_); intro v7 w7 ho7 hg7; have HB7 := Lib.hid (below_own HB6.out.size HB6.out HO6.out hg7); have HO7 := Lib.hid ho7; clear ho7 hg7))
                        all_goals
                          clear hwr hwn hw0
                          go_wp2_with fail
                          go_roundg (gk - 1)
                          case measure => omega
                          case rel =>
                            refine ⟨j + 1, c + 1, by rw [← HN5.out]; omega, by go_num, by go_num, ?_, ?_, (HB7.out.block _ (lt_of_block X5.out)).trans X5.out⟩
                            · rw [HD.out]
                              have h1 := HC.out
                              have h2 := HL.out
                              omega
                            · rw [HD.out]
                              exact T5.out.cut HI.out HM.out HO7.out HB7.out
                  · obtain rfl : j = n5 := by omega
                    have htk : x.ids.take j = x.ids := by rw [HN5.out]; exact List.take_length
                    rw [htk] at HR2
                    have hx5 := XD.out
                    have y5 : wr.cell? ⟨bx, 5, none⟩ = some (.slice oi j x.ci) := by simp [World.cell?, hx5, ← HN5.out]
                    have U := Lib.hid (H8'.out.below (B := w.heap.size) TD.out.bel H9.out)
                    have hdr : ((dropped xs x.ids).length : Int) = (dropped r x.ids).length := by rw [(sim_drop SM.out x.ids).len]
                    have hcc : (xs.length : Int) - ((dropped xs x.ids).length : Int) = c := by rw [hdr, SM.out.len, ← HR2.out]; exact HC.out.symm
                    have HCC := Lib.hid hcc
                    clear htk hx5 hdr hcc
                    go_wp2_with fail
                    obtain ⟨v, hv⟩ := TD.out.plan
                    have hdp := drop_any _ _ v oi xs x.ci _ x.ids _ hv U.out (fun i hi => by obtain ⟨g', off', h1, h2⟩ := H9.out i hi; exact ⟨g', off', h1, .inl h2⟩) (by rw [← HN5.out]; omega)
                    rw [← HN5.out, HCC.out] at hdp
                    refine hdp.mono ?_
                    rintro e w6 hd
                    obtain ⟨rfl, hT6, -⟩ := TD.out.does hd
                    have T6 := Lib.hid hT6
                    clear hd hT6 hdp hv y5
                    go_wp2_with fail
                    go_meet
                    case rel => exact ⟨_, r2, clk, rfl, rfl, by omega, T6.out, by rw [HR2.out]; exact sim_drop SM.out x.ids⟩
              · as_aux_lemma =>
                  go_wp2_with fail
                  obtain ⟨v, hv⟩ := T1.out.plan
                  refine (next_plan _ _ v xs _ _ hv).mono ?_
                  rintro e w4 ⟨rfl, hb4⟩
                  have T4 := Lib.hid (T1.out.gives hb4)
                  have hx4 := (hb4.block _ (lt_of_block X1.out)).trans X1.out
                  have X4 := Lib.hid hx4
                  have y0 : w4.cell? ⟨bx, 0, none⟩ = some (.int .u8 x.kind) := by simp [World.cell?, hx4]
                  clear hb4 hv y1 y2 y3 y4 y5 hx4 T1 X1
                  rcases SM.out.first with ⟨f1, f2⟩ | ⟨i, j, hi, hj, f1, f2, f3⟩
                  · have hnx : nextId xs = .tuple #[.int .u64 0, .bool false] := by unfold nextId; rw [if_pos f1]
                    have hsv : served xs clk = xs := by unfold served; rw [if_pos f1]
                    have hsc : servedClk xs clk = clk := by unfold servedClk; rw [if_pos f1]
                    have HNX := Lib.hid hnx
                    have HSV := Lib.hid hsv
                    have HSC := Lib.hid hsc
                    obtain ⟨nk, hnk⟩ : ∃ nk, nk = refNext r := ⟨_, rfl⟩
                    rw [← hnk] at f2
                    have HNK := Lib.hid hnk
                    rw [hnx]
                    have hdk : decide (0 ≤ nk) = false := decide_eq_false (by omega)
                    clear hnx hsv hsc hnk f1
                    by_cases hk4 : x.kind = 4
                    · go_wp2_with fail
                      obtain ⟨v, hv⟩ := T4.out.plan
                      refine (serve_any _ _ v xs _ _ hv SM.out.rise (by omega) (by omega)).mono ?_
                      rintro e w5 hd
                      rw [HNX.out, HSC.out, HSV.out] at hd
                      obtain ⟨rfl, hT5, -⟩ := T4.out.does hd
                      have T5 := Lib.hid hT5
                      clear hd hT5 hv y0
                      go_wp2_with fail
                      obtain ⟨oa5, cap5, he5, -, -, hrr5⟩ := T5.out.read
                      have hrf := refNext_any oa5 r cap5 _ hrr5 (by rw [← HRN.out]; omega)
                      rw [← he5] at hrf
                      refine hrf.mono ?_
                      rintro e w6 ⟨rfl, hb6⟩
                      have T6 := Lib.hid (T5.out.gives hb6)
                      rw [← HNK.out]
                      clear hrf hb6 he5 hrr5 T5
                      go_wp2_with fail
                      go_meet
                      case rel => exact ⟨_, r, clk, rfl, rfl, by omega, T6.out, SM.out⟩
                    · go_wp2_with fail
                      obtain ⟨oa5, cap5, he5, -, -, hrr5⟩ := T4.out.read
                      have hrf := refNext_any oa5 r cap5 _ hrr5 (by rw [← HRN.out]; omega)
                      rw [← he5] at hrf
                      refine hrf.mono ?_
                      rintro e w6 ⟨rfl, hb6⟩
                      have T6 := Lib.hid (T4.out.gives hb6)
                      rw [← HNK.out]
                      clear hrf hb6 he5 hrr5 T4
                      go_wp2_with fail
                      go_meet
                      case rel => exact ⟨_, r, clk, rfl, rfl, by omega, T6.out, SM.out⟩
                  · have hnx : nextId xs = .tuple #[.int .u64 r[j].id, .bool true] := by
                      unfold nextId
                      rw [f1, if_neg (by omega), Int.toNat_natCast, getD_at hi, f3]
                    have hsc : servedClk xs clk = (clk + 1 : Nat) := by
                      unfold servedClk
                      rw [f1, if_neg (by omega)]
                      rfl
                    have hsm := sim_served SM.out clk
                    rw [f2, if_neg (by omega), Int.toNat_natCast, getD_at hj, upd_one SM.out.apart j hj] at hsm
                    have HSM := Lib.hid hsm
                    have HNX := Lib.hid hnx
                    have HSC := Lib.hid hsc
                    have HF2 := Lib.hid f2
                    obtain ⟨y, hy⟩ : ∃ y, y = r[j].id := ⟨_, rfl⟩
                    have HY := Lib.hid hy
                    rw [hnx, ← hy]
                    have hjn : j < rn := by rw [HRN.out]; exact hj
                    have hjn' : (j : Int) < (rn : Int) := by omega
                    have HJ := Lib.hid hj
                    clear hnx hsc hsm f1 f2 f3 hi hy
                    by_cases hk4 : x.kind = 4
                    · go_wp2_with fail
                      obtain ⟨v, hv⟩ := T4.out.plan
                      refine (serve_any _ _ v xs _ _ hv SM.out.rise (by omega) (by omega)).mono ?_
                      rintro e w5 hd
                      rw [HNX.out, HSC.out, ← HY.out] at hd
                      obtain ⟨rfl, hT5, hk5⟩ := T4.out.does hd
                      have T5 := Lib.hid hT5
                      have X5 := Lib.hid (box_keeps X4.out hk5)
                      clear hd hT5 hv y0 hk5
                      go_wp2_with fail
                      obtain ⟨oa5, cap5, he5, -, -, hrr5⟩ := T5.out.read
                      have hrf := refNext_any oa5 r cap5 _ hrr5 (by rw [← HRN.out]; omega)
                      rw [← he5] at hrf
                      refine hrf.mono ?_
                      rintro e w6 ⟨rfl, hb6⟩
                      have T6 := Lib.hid (T5.out.gives hb6)
                      have hx6 := (hb6.block _ (lt_of_block X5.out)).trans X5.out
                      have y0 : w6.cell? ⟨bx, 0, none⟩ = some (.int .u8 x.kind) := by simp [World.cell?, hx6]
                      rw [HF2.out]
                      obtain ⟨g4, rfl, -, ⟨c0, c1, c2, c3, c4⟩, fz⟩ := T6.out.at HJ.out
                      rw [← HY.out] at c0
                      have f4 := fz (j * 5 + 4)
                      clear hrf hb6 he5 hrr5 T5 X5 X4 T4 hx6 c1 c2 c3 fz
                      go_wp2_with fail
                      go_meet
                      case rel => exact ⟨_, _, clk + 1, by go_num, rfl, by omega, T6.out.store HRN.out j 4 HJ.out (by omega) _ { r[j]'HJ.out with srv := (clk : Int) + 1 } rfl, HSM.out⟩
                    · go_wp2_with fail
                      obtain ⟨oa5, cap5, he5, -, -, hrr5⟩ := T4.out.read
                      have hrf := refNext_any oa5 r cap5 _ hrr5 (by rw [← HRN.out]; omega)
                      rw [← he5] at hrf
                      refine hrf.mono ?_
                      rintro e w6 ⟨rfl, hb6⟩
                      have T6 := Lib.hid (T4.out.gives hb6)
                      have hx6 := (hb6.block _ (lt_of_block X4.out)).trans X4.out
                      have y0 : w6.cell? ⟨bx, 0, none⟩ = some (.int .u8 x.kind) := by simp [World.cell?, hx6]
                      rw [HF2.out]
                      obtain ⟨g4, rfl, -, ⟨c0, c1, c2, c3, c4⟩, fz⟩ := T6.out.at HJ.out
                      rw [← HY.out] at c0
                      clear hrf hb6 he5 hrr5 T4 X4 hx6 c1 c2 c3 c4 fz
                      go_wp2_with fail
                      go_meet
                      case rel => exact ⟨_, r, clk, rfl, rfl, by omega, T6.out, SM.out⟩
        case rest =>
          obtain ⟨ys, r', c', rfl, rfl, hc', hT, hS⟩ := hcut
          obtain ⟨oa', cap', rfl, -, -, -⟩ := hT.read
          have TC := Lib.hid hT
          have SC := Lib.hid hS
          clear hT hS T1 X1 HB1 HBR H8' H9 SM
          go_wp2_with fail
          obtain ⟨v, hv⟩ := TC.out.plan
          refine (len_any _ _ v ys _ _ hv).mono ?_
          rintro e w9 ⟨rfl, hb9⟩
          have N9 := Lib.hid (TC.out.gives hb9)
          rw [SC.out.len]
          clear hb9 hv
          go_wp2_with fail
          go_roundg (l.length - (k + 1))
          case measure => omega
          case rel => exact ⟨k + 1, _, _, c', by omega, by go_num, rfl, hc', N9.out, SC.out⟩
      · obtain rfl : k = l.length := by omega
        go_wp2_with fail
        refine (works_any _).mono ?_
        rintro e w3 ⟨rfl, hb3⟩
        have H3 := Lib.hid (NR.out.bel.trans (hb3.mono NR.out.bel.size))
        clear hb3
        go_wp2_with fail
        go_ret
        exact ⟨rfl, H3.out⟩
end Go.Proofs.YtnkbhpnflfhhnaaGreatDoor
