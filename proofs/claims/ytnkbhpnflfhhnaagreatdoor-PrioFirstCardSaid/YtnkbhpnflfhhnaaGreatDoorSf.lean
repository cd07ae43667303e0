import Derived.Test.YtnkbhpnflfhhnaaGreatDoorSe
import Derived.Test.YtnkbhpnflfhhnaaGreatDoorRc
import Derived.Deep.Cut
import Derived.Deep.CutRange
import Derived.Deep.DeepCutAuto
import Derived.Deep.CutBlock
namespace Go.Proofs.YtnkbhpnflfhhnaaGreatDoor
open Go.ChangeShapes Go.WideShapes Go.ChangeAt Go.RowKit Go.Maps

def FirstRel (w0 : World) (b bs bm : Nat) (l : List DoV) (q : Nat) (i : Value) (wr : World) : Prop :=
  ∃ (k : Nat) (xs : List St) (clk : Nat) (rd : List Int) (f : Int → Int × Bool), k + q = l.length ∧ i = .int .i64 k ∧ clk ≤ k ∧ Fi w0 b bs bm k xs clk rd f wr ∧ FInv rd f xs

def MidRel (w0 : World) (b bs bm n clk : Nat) (wr : World) : Prop := ∃ (xs : List St) (rd : List Int) (f : Int → Int × Bool), Fi w0 b bs bm n xs clk rd f wr ∧ FInv rd f xs

/-- The lists of what is dropped are gone through. -/
def DelRel1 (w0 : World) (b bs bm n clk : Nat) (xs : List St) (rd : List Int) (f : Int → Int × Bool) (ids : List Int) (q : Nat) (i : Value) (wr : World) : Prop :=
  ∃ (j : Nat) (rd' : List Int) (f' : Int → Int × Bool), j + q = ids.length ∧ i = .int .i64 j ∧ Fi w0 b bs bm n xs clk rd' f' wr ∧ (∀ k, k ∈ rd' ↔ k ∈ rd ∧ k ∉ ids.take j) ∧ (∀ k, k ∉ ids.take j → f' k = f k)
def RngRel (W2 : World) (bm r n : Nat) (rd : List Int) (q : Nat) (wr : World) : Prop := Below W2.heap.size W2 wr ∧ RangeAt wr bm r n rd ∧ q = wr.rangeLeft bm r

theorem box_keeps {B : Nat} {w w' : World} {b : Nat} {cs : Array Value} (h : w.heap[b]? = some (.cells cs 59 (0, 0))) (hk : Keeps B w w') : w'.heap[b]? = some (.cells cs 59 (0, 0)) :=
  (hk.block b (lt_of_block h) (.inr fun cs' t fr e => by rw [h] at e; simp only [Option.some.injEq, Obj.cells.injEq] at e; obtain ⟨-, rfl, -⟩ := e; exact ⟨by decide, by decide⟩)).trans h

set_option maxHeartbeats 8000000 in
set_option maxRecDepth 100000 in
theorem first_any (oa : Option Addr) (l : List DoV) (cap : Nat) (w : World) (hx : DoRow w.heap.size w oa l) (hl : l.length ≤ 4611686018427387904) (hw : ∀ y ∈ l, W64 y.id ∧ 0 ≤ y.urg ∧ y.urg ≤ 255 ∧ ∀ id ∈ y.ids, W64 id) :
    Calls Tryz.prog 6 #[.slice oa l.length cap] w (Gives w (.bool true)) := by
  have HX := Lib.hid hx
  have HW := Lib.hid hw
  have hmm := @run_makeMap Tryz.prog
  clear hx hw
  go_enter Tryz.func6, Tryz.ntmps6
  go_wp2_with fail
  refine (heavy_any oa l cap w HX.out hl).mono ?_
  rintro e w1 ⟨rfl, hb1⟩
  have H1 := Lib.hid hb1
  clear hb1
  by_cases hv : 600 < heavyN l
  · rw [show decide (600 < heavyN l) = true from decide_eq_true hv]
    go_wp2_with fail
    refine (works_any _).mono ?_
    rintro e w2 ⟨rfl, hb2⟩
    have H2 := Lib.hid (H1.out.trans (hb2.mono H1.out.size))
    clear hb2
    go_wp2_with fail
    go_ret
    exact ⟨rfl, H2.out⟩
  · rw [show decide (600 < heavyN l) = false from decide_eq_false hv]
    have hl600 : l.length ≤ 600 := by have := heavyN_len l; omega
    go_wp2_with fail
    refine (new_any _).mono ?_
    rintro e w2 ⟨rfl, hw2⟩
    go_wp2_with fail
    have hba : Below w1.heap.size w1 (((w1.alloc (.cells #[.slice none 0 0, .int .u64 0] 109)).alloc (.map #[] 0)).alloc (.map #[] 0)) := (((Below.refl _ w1).alloc (Nat.le_refl _) _).alloc (by simp) _).alloc (by simp; omega) _
    have hsz := H1.out.size
    have hT : Fi w w1.heap.size (w1.heap.size + 1) (w1.heap.size + 1 + 1) 0 [] 0 [] (fun _ => (0, false)) (((w1.alloc (.cells #[.slice none 0 0, .int .u64 0] 109)).alloc (.map #[] 0)).alloc (.map #[] 0)) :=
      ⟨⟨_, ((new_plan w.heap.size w1 hsz).below ((Below.refl _ _).alloc (Nat.le_refl _) _)).below ((Below.refl _ _).alloc (Nat.le_refl _) _)⟩,
        by have := SetAt.made ((w1.alloc (.cells #[.slice none 0 0, .int .u64 0] 109)).alloc (.map #[] 0)); rwa [World.size_alloc, World.size_alloc] at this,
        by have := (MapAt.made (w1.alloc (.cells #[.slice none 0 0, .int .u64 0] 109))).below ((Below.refl _ _).alloc (Nat.le_refl _) (.map #[] 0)); rwa [World.size_alloc] at this,
        H1.out.trans (hba.mono hsz), by omega, by omega, by omega⟩
    clear hw2 hba hsz
    generalize ((w1.alloc (.cells #[.slice none 0 0, .int .u64 0] 109)).alloc (.map #[] 0)).alloc (.map #[] 0) = W0 at hT ⊢
    generalize w1.heap.size + 1 + 1 = bm at hT ⊢
    generalize w1.heap.size + 1 = bs at hT ⊢
    generalize w1.heap.size = b at hT ⊢
    have T0 := Lib.hid hT
    clear hT
    go_loopg [25] l.length (fun q i wr => FirstRel w b bs bm l q i wr)
    case atStart => exact ⟨0, [], 0, [], _, by omega, rfl, by omega, T0.out, FInv.nil _⟩
    case round =>
      obtain ⟨k, xs, clk, rd, f, hk, rfl, hclk, hT, hI⟩ := hrel
      have TR := Lib.hid hT
      have IR := Lib.hid hI
      clear hT hI T0
      by_cases hlt : k < l.length
      · obtain ⟨g, off, rfl, x0, x1, x2, x3, x4, x5, hg, h7, h8, h9⟩ := (HX.out.below TR.out.bel) k hlt
        obtain ⟨x, hxk⟩ : ∃ x, x = l[k] := ⟨_, rfl⟩
        have HXK := Lib.hid hxk
        rw [← hxk] at x0 x1 x2 x3 x4 x5 h7
        have H8 := Lib.hid h8
        have H9 := Lib.hid h9
        have HWX := Lib.hid (HW.out x (by rw [hxk]; exact List.getElem_mem _))
        rw [← hxk] at H8 H9
        obtain ⟨oi, hoi⟩ : ∃ oi, oi = x.oi := ⟨_, rfl⟩
        rw [← hoi] at x5 H8 H9
        clear hxk h8 h9 hoi
        go_upto_block 2 with (fail)
        have hba : Below wr.heap.size wr (wr.alloc (.cells #[.int .u8 x.kind, .int .u64 x.id, .int .u8 x.urg, .bool x.inc, .bool x.is, .slice oi x.ids.length x.ci] 59)) := (Below.refl _ _).alloc (Nat.le_refl _) _
        have hT1 := (TR.out.gives hba)
        have hbr := TR.out.bel
        have hx1 : (wr.alloc (.cells #[.int .u8 x.kind, .int .u64 x.id, .int .u8 x.urg, .bool x.inc, .bool x.is, .slice oi x.ids.length x.ci] 59)).heap[wr.heap.size]? = some (.cells #[.int .u8 x.kind, .int .u64 x.id, .int .u8 x.urg, .bool x.inc, .bool x.is, .slice oi x.ids.length x.ci] 59 (0, 0)) := World.alloc_heap_new wr _
        clear TR x0 x1 x2 x3 x4 x5
        generalize wr.alloc (.cells #[.int .u8 x.kind, .int .u64 x.id, .int .u8 x.urg, .bool x.inc, .bool x.is, .slice oi x.ids.length x.ci] 59) = W1 at hT1 hx1 hba ⊢
        generalize wr.heap.size = bx at hx1 ⊢
        have T1 := Lib.hid hT1
        have X1 := Lib.hid hx1
        have HB1 := Lib.hid (hba.mono hbr.size)
        have HBR := Lib.hid hbr
        clear hT1 hx1 hba hbr
        go_cut [30] (fun _ wx => MidRel w b bs bm (k + 1) clk wx)
        case first =>
          have y0 : W1.cell? ⟨bx, 0, none⟩ = some (.int .u8 x.kind) := by simp [World.cell?, X1.out]
          have y1 : W1.cell? ⟨bx, 1, none⟩ = some (.int .u64 x.id) := by simp [World.cell?, X1.out]
          have y2 : W1.cell? ⟨bx, 2, none⟩ = some (.int .u8 x.urg) := by simp [World.cell?, X1.out]
          have y3 : W1.cell? ⟨bx, 3, none⟩ = some (.bool x.inc) := by simp [World.cell?, X1.out]
          have y4 : W1.cell? ⟨bx, 4, none⟩ = some (.bool x.is) := by simp [World.cell?, X1.out]
          have y5 : W1.cell? ⟨bx, 5, none⟩ = some (.slice oi x.ids.length x.ci) := by simp [World.cell?, X1.out]
          have BW := HBR
          have U8 : Hid (U64s W1 oi x.ids) := Lib.hid (H8.out.below (B := w.heap.size) HB1.out H9.out)
          by_cases hk0 : x.kind = 0
          · go_wp2_with fail
            obtain ⟨v, hv⟩ := T1.out.plan
            refine (setXs_any _ _ v xs _ _ _ _ _ hv IR.out.rise).mono ?_
            rintro e w3 hd
            obtain ⟨rfl, hT3, hk3⟩ := T1.out.does hd
            have T3 := Lib.hid hT3
            have X3 := Lib.hid (box_keeps X1.out hk3)
            clear hd hT3 hv hk3 y0 y1 y2 y3 y4 y5 T1 X1
            by_cases hr : setRes xs x.id x.urg = 0
            · rw [hr]
              have HR := Lib.hid hr
              clear hr
              have y1 : w3.cell? ⟨bx, 1, none⟩ = some (.int .u64 x.id) := by simp [World.cell?, X3.out]
              have y2 : w3.cell? ⟨bx, 2, none⟩ = some (.int .u8 x.urg) := by simp [World.cell?, X3.out]
              have y3 : w3.cell? ⟨bx, 3, none⟩ = some (.bool x.inc) := by simp [World.cell?, X3.out]
              go_wp2_with (at_mapUpdate; go_must (refine wpList_pri_put rfl _ _ _ rfl bs k f x.id x.urg x.inc rfl T3.out.map (by omega) rfl HWX.out.1 rfl ?_); intro w5 hs5 hg5)
              have T5 := Lib.hid (T3.out.putMap hs5 hg5 (Nat.le_succ k))
              clear hs5 hg5
              go_wp2_with fail
              go_meet
              case rel => exact ⟨_, _, _, T5.out, IR.out.setOk HR.out⟩
            · obtain ⟨c, hc⟩ : ∃ c, c = setRes xs x.id x.urg := ⟨_, rfl⟩
              rw [← hc] at hr ⊢
              have hb : (c == 0) = false := by simpa using hr
              have hsx : setXs xs x.id x.urg x.inc = xs := set_no (by rw [← hc]; exact hr)
              rw [hsx] at T3
              clear hsx hc hr
              go_wp2_with fail
              go_meet
              case rel => exact ⟨_, _, _, T3.out.more (Nat.le_succ k), IR.out⟩
          · by_cases hk1 : x.kind = 1
            · go_wp2_with fail
              obtain ⟨v, hv⟩ := T1.out.plan
              refine (ready_any _ _ v xs _ _ _ _ hv IR.out.rise).mono ?_
              rintro e w3 hd
              obtain ⟨rfl, hT3, hk3⟩ := T1.out.does hd
              have T3 := Lib.hid hT3
              have X3 := Lib.hid (box_keeps X1.out hk3)
              clear hd hT3 hv hk3 y0 y1 y2 y3 y4 y5 T1 X1
              have y1 : w3.cell? ⟨bx, 1, none⟩ = some (.int .u64 x.id) := by simp [World.cell?, X3.out]
              have y4 : w3.cell? ⟨bx, 4, none⟩ = some (.bool x.is) := by simp [World.cell?, X3.out]
              cases hh : hasId xs x.id
              · have HH := Lib.hid hh
                rw [if_neg (by simp)]
                clear hh
                go_wp2_with (at_delete; go_must (refine wpList_set_del rfl _ _ rfl bm k rd x.id rfl T3.out.set rfl HWX.out.1 ?_); intro w5 hs5 hg5)
                have T5 := Lib.hid (T3.out.putSet hs5 hg5 (Nat.le_refl k))
                clear hs5 hg5
                go_wp2_with fail
                go_meet
                case rel => exact ⟨_, _, _, T5.out.more (Nat.le_succ k), IR.out.ready x.id x.is (fun j => by rw [mem_delI]; by_cases e : j = x.id <;> simp [e, HH.out])⟩
              · have HH := Lib.hid hh
                rw [if_pos rfl]
                clear hh
                cases hi : x.is
                · rw [hi] at y4
                  have HI := Lib.hid hi
                  clear hi
                  go_wp2_with (at_delete; go_must (refine wpList_set_del rfl _ _ rfl bm k rd x.id rfl T3.out.set rfl HWX.out.1 ?_); intro w5 hs5 hg5)
                  have T5 := Lib.hid (T3.out.putSet hs5 hg5 (Nat.le_refl k))
                  clear hs5 hg5
                  go_wp2_with fail
                  go_meet
                  case rel => exact ⟨_, _, _, T5.out.more (Nat.le_succ k), IR.out.ready x.id x.is (fun j => by rw [mem_delI]; by_cases e : j = x.id <;> simp [e, HI.out])⟩
                · rw [hi] at y4
                  have HI := Lib.hid hi
                  clear hi
                  go_wp2_with (at_mapUpdate; go_must (refine wpList_set_put rfl _ _ _ rfl bm k rd x.id rfl T3.out.set (by omega) rfl HWX.out.1 rfl ?_); intro w5 hs5 hg5)
                  have T5 := Lib.hid (T3.out.putSet hs5 hg5 (Nat.le_succ k))
                  clear hs5 hg5
                  go_wp2_with fail
                  go_meet
                  case rel => exact ⟨_, _, _, T5.out, IR.out.ready x.id x.is (fun j => by rw [mem_addI]; by_cases e : j = x.id <;> simp [e, HI.out, HH.out])⟩
            · by_cases hk2 : x.kind = 2
              · go_wp2_with fail
                obtain ⟨v, hv⟩ := T1.out.plan
                refine (drop_any _ _ v oi xs _ _ x.ids _ hv U8.out (fun i hi => by obtain ⟨g', off', h1, h2⟩ := H9.out i hi; exact ⟨g', off', h1, .inl h2⟩) (by omega)).mono ?_
                rintro e w3 hd
                obtain ⟨rfl, hT3, hk3⟩ := T1.out.does hd
                have T3 := Lib.hid hT3
                have X3 := Lib.hid (box_keeps X1.out hk3)
                clear hd hT3 hv hk3 y0 y1 y2 y3 y4 y5 T1 X1 U8
                have y5 : w3.cell? ⟨bx, 5, none⟩ = some (.slice oi x.ids.length x.ci) := by simp [World.cell?, X3.out]
                obtain ⟨n5, hn5⟩ : ∃ n5, n5 = x.ids.length := ⟨_, rfl⟩
                rw [← hn5] at y5 h7
                have HN5 := Lib.hid hn5
                clear hn5
                go_wp2_with fail
                clear y5
                go_loopg [74] n5 (fun q i wr => DelRel1 w b bs bm k clk (dropped xs x.ids) rd f x.ids q i wr)
                case atStart => exact ⟨0, rd, f, by rw [HN5.out]; omega, rfl, T3.out, by simp, by simp⟩
                case round =>
                  obtain ⟨j, rd', f', hj, rfl, hT, hr1, hf1⟩ := hrel
                  have TD := Lib.hid hT
                  have R1 := Lib.hid hr1
                  have F1 := Lib.hid hf1
                  rw [← HN5.out] at hj
                  clear hT hr1 hf1 T3 X3
                  by_cases hlj : j < n5
                  · have hlj' : j < x.ids.length := by rw [← HN5.out]; exact hlj
                    obtain ⟨g2, off2, rfl, hc⟩ := H8.out j hlj'
                    obtain ⟨g3, off3, ho3, hg3⟩ := H9.out j hlj'
                    simp only [Option.some.injEq, Addr.mk.injEq, and_true] at ho3
                    obtain ⟨rfl, rfl⟩ := ho3
                    obtain ⟨y, hy⟩ : ∃ y, y = x.ids[j] := ⟨_, rfl⟩
                    have HY := Lib.hid hy
                    rw [← hy] at hc
                    have hc2 := (TD.out.bel.cell hg3).trans ((BW.out.cell hg3).symm.trans hc)
                    have HWY := Lib.hid (HWX.out.2.2.2 y (by rw [hy]; exact List.getElem_mem _))
                    clear hc hy hg3
                    go_wp2_with (first | (at_delete; refine wpList_pri_del rfl _ _ rfl bs k f' y rfl TD.out.map rfl HWY.out ?_; intro w5 hs5 hg5; have T5 := Lib.hid (TD.out.putMap hs5 hg5 (Nat.le_refl k)); clear hs5 hg5) | (at_delete; go_must (refine wpList_set_del rfl _ _ rfl bm k rd' y rfl T5.out.set rfl HWY.out ?_); intro w6 hs6 hg6; have T6 := Lib.hid (T5.out.putSet hs6 hg6 (Nat.le_refl k)); clear hs6 hg6))
                    go_roundg (gk - 1)
                    case measure => omega
                    case rel =>
                      have htk : x.ids.take (j + 1) = x.ids.take j ++ [y] := by rw [take_snoc' hlj', HY.out]
                      refine ⟨j + 1, _, _, by rw [← HN5.out]; omega, by go_num, T6.out, fun p => ?_, fun p hp => ?_⟩
                      · rw [mem_delI, R1.out p, htk]
                        simp only [List.mem_append, List.mem_singleton, not_or]
                        exact ⟨fun ⟨⟨q1, q2⟩, q3⟩ => ⟨q1, q2, q3⟩, fun ⟨q1, q2, q3⟩ => ⟨⟨q1, q2⟩, q3⟩⟩
                      · rw [htk] at hp
                        simp only [List.mem_append, List.mem_singleton, not_or] at hp
                        unfold putF
                        rw [if_neg hp.2]
                        exact F1.out p hp.1
                  · obtain rfl : j = n5 := by omega
                    have htk : x.ids.take j = x.ids := by rw [HN5.out]; exact List.take_length
                    have R2 : Hid (∀ p, p ∈ rd' ↔ p ∈ rd ∧ p ∉ x.ids) := Lib.hid (by have := R1.out; rw [htk] at this; exact this)
                    have F2 : Hid (∀ p, p ∉ x.ids → f' p = f p) := Lib.hid (by have := F1.out; rw [htk] at this; exact this)
                    clear htk R1 F1
                    go_wp2_with fail
                    go_meet
                    case rel => exact ⟨_, _, _, TD.out.more (Nat.le_succ k), IR.out.drop x.ids R2.out F2.out⟩
              · go_wp2_with fail
                go_meet
                case rel => exact ⟨_, _, _, T1.out.more (Nat.le_succ k), IR.out⟩
        case rest =>
          obtain ⟨ys, rd', f', hT, hI⟩ := hcut
          have TC := Lib.hid hT
          have IC := Lib.hid hI
          clear hT hI T1 X1 HB1 HBR IR H8 H9 HWX
          go_wp2_with fail
          obtain ⟨v, hv⟩ := TC.out.plan
          refine (next_plan _ _ v ys _ _ hv).mono ?_
          rintro e w4 ⟨rfl, hb4⟩
          have T4 := Lib.hid (TC.out.gives hb4)
          clear hb4 hv TC
          rcases IC.out.first with ⟨b1, b2⟩ | ⟨i, hi, hb, hin, hbest⟩
          · have hnx : nextId ys = .tuple #[.int .u64 0, .bool false] := by unfold nextId; rw [if_pos b1]
            have hck : servedClk ys clk = clk := by unfold servedClk; rw [if_pos b1]
            have HNX := Lib.hid hnx
            have HCK := Lib.hid hck
            subst b2
            rw [hnx]
            clear hnx hck b1
            go_wp2_with fail
            obtain ⟨v, hv⟩ := T4.out.plan
            refine (serve_any _ _ v ys _ _ hv IC.out.rise (by omega) (by omega)).mono ?_
            rintro e w5 hd
            rw [HNX.out, HCK.out] at hd
            obtain ⟨rfl, hT5, -⟩ := T4.out.does hd
            have T5 := Lib.hid hT5
            clear hd hT5 hv
            go_wp2_with (at_len; go_must (refine wpList_set_len_g rfl _ rfl bm (k + 1) [] rfl T5.out.set ?_))
            go_roundg (gk - 1)
            case measure => omega
            case rel => exact ⟨k + 1, _, clk, _, _, by omega, by go_num, by omega, T5.out, IC.out.serve clk⟩
          · have hnx : nextId ys = .tuple #[.int .u64 ys[i].id, .bool true] := by
              unfold nextId
              rw [hb, if_neg (by omega), Int.toNat_natCast, getD_at hi]
            have hck : servedClk ys clk = (clk + 1 : Nat) := by
              unfold servedClk
              rw [hb, if_neg (by omega)]
              rfl
            obtain ⟨y, hy⟩ : ∃ y, y = ys[i].id := ⟨_, rfl⟩
            rw [← hy] at hnx hin hbest
            have HNX := Lib.hid hnx
            have HCK := Lib.hid hck
            have HIN := Lib.hid hin
            have HBEST := Lib.hid hbest
            have HWY := Lib.hid (T4.out.set.wf y hin)
            rw [hnx]
            clear hnx hck hb hi hy hin hbest
            go_wp2_with fail
            obtain ⟨v, hv⟩ := T4.out.plan
            refine (serve_any _ _ v ys _ _ hv IC.out.rise (by omega) (by omega)).mono ?_
            rintro e w5 hd
            rw [HNX.out, HCK.out] at hd
            obtain ⟨rfl, hT5, -⟩ := T4.out.does hd
            have T5 := Lib.hid hT5
            clear hd hT5 hv
            obtain ⟨n, hn⟩ : ∃ n, n = rd'.length := ⟨_, rfl⟩
            have hn0 : 0 < n := by rw [hn]; exact List.length_pos_of_mem HIN.out
            have HN := Lib.hid hn
            clear hn
            go_wp2_with (first | (at_len; go_must (refine wpList_set_len_g rfl _ rfl bm (k + 1) rd' rfl T5.out.set ?_); rw [← HN.out]) | (at_lookup; go_must (refine wpList_set_yes rfl _ _ rfl bm (k + 1) rd' y rfl T5.out.set rfl HWY.out HIN.out ?_)) | (at_range; go_must (refine wpList_set_range rfl _ rfl bm (k + 1) rd' rfl (T5.out.set.below ((Below.refl _ _).alloc (Nat.le_refl _) _)) ?_); intro w6 hr6 hg6))
            go_frame
            have hT2 : Fi w b bs bm (k + 1) (served ys clk) (clk + 1 : Nat) rd' f' (w5.alloc (.cells #[] 66)) := T5.out.gives ((Below.refl _ _).alloc (Nat.le_refl _) _)
            have hbel : Below (w5.alloc (.cells #[] 66)).heap.size (w5.alloc (.cells #[] 66)) w6 := ⟨hg6.os, hg6.tape, hg6.output, hg6.size, fun q hq => hg6.block q hq (by simp)⟩
            clear hg6
            generalize w5.alloc (.cells #[] 66) = W2 at hT2 hbel hr6 ⊢
            obtain ⟨r, hr⟩ : ∃ r, r = W2.heap.size := ⟨_, rfl⟩
            rw [← hr] at hr6 ⊢
            have HR := Lib.hid hr
            have T2 := Lib.hid hT2
            have R6 := Lib.hid hr6
            have B6 := Lib.hid hbel
            clear hr hT2 hr6 hbel T5
            go_loopg [16] (w6.rangeLeft bm r) (fun q _ wr => RngRel W2 bm r (k + 1) rd' q wr)
            case atStart => exact ⟨B6.out, R6.out, rfl⟩
            case round =>
              obtain ⟨hB, hR, hq⟩ := hrel
              have BQ := Lib.hid hB
              have RQ := Lib.hid hR
              have HQ := Lib.hid hq
              clear hB hR hq R6 B6
              go_wp2_with (at_next; go_must (refine wpList_set_next rfl _ rfl bm r (k + 1) rd' rfl RQ.out ?_ ?_))
              · go_roundg (l.length - (k + 1))
                case measure => omega
                case rel => exact ⟨k + 1, _, clk + 1, _, _, by omega, by go_num, by omega, T2.out.gives BQ.out, IC.out.serve clk⟩
              · intro z w7 hz hwz hR7 hlt7 hg7 hen
                have hB7 : Below W2.heap.size W2 w7 := BQ.out.trans ⟨hg7.os, hg7.tape, hg7.output, hg7.size, fun q hq => hg7.block q (Nat.lt_of_lt_of_le hq BQ.out.size) (fun e => by cases e; rw [HR.out] at hq; exact Nat.lt_irrefl _ hq)⟩
                have hmap : MapAt w7 bs (k + 1) f' := T2.out.map.below hB7
                have l1 := hmap.look hwz
                have l2 := hmap.look HWY.out
                have hbz := HBEST.out z hz
                have q0 := field42_0
                have q1 := field42_1
                obtain ⟨p1, hp1⟩ : ∃ p1, p1 = f' z := ⟨_, rfl⟩
                obtain ⟨p2, hp2⟩ : ∃ p2, p2 = f' y := ⟨_, rfl⟩
                rw [← hp1] at l1 hbz
                rw [← hp2] at l2 hbz
                obtain ⟨u1, i1⟩ := p1
                obtain ⟨u2, i2⟩ := p2
                simp only at l1 l2 hbz
                obtain ⟨hb1, hb2⟩ := hbz
                have HB7 := Lib.hid hB7
                have HR7 := Lib.hid hR7
                clear hp1 hp2 hmap hz hB7 hR7 hg7
                by_cases hu : u1 = u2
                · subst hu
                  cases i2
                  · clear hb2
                    go_wp2_with fail
                    go_roundg (w7.rangeLeft bm r)
                    case measure => rw [HQ.out]; exact hlt7
                    case rel => exact ⟨HB7.out, HR7.out, rfl⟩
                  · cases i1
                    · exact absurd ⟨rfl, rfl, rfl⟩ hb2
                    · clear hb2
                      go_wp2_with fail
                      go_roundg (w7.rangeLeft bm r)
                      case measure => rw [HQ.out]; exact hlt7
                      case rel => exact ⟨HB7.out, HR7.out, rfl⟩
                · have hu' : (u1 == u2) = false := by simpa using hu
                  clear hb2
                  go_wp2_with fail
                  go_roundg (w7.rangeLeft bm r)
                  case measure => rw [HQ.out]; exact hlt7
                  case rel => exact ⟨HB7.out, HR7.out, rfl⟩
      · obtain rfl : k = l.length := by omega
        go_wp2_with fail
        refine (works_any _).mono ?_
        rintro e w3 ⟨rfl, hb3⟩
        have H3 := Lib.hid (TR.out.bel.trans (hb3.mono TR.out.bel.size))
        clear hb3
        go_wp2_with fail
        go_ret
        exact ⟨rfl, H3.out⟩
end Go.Proofs.YtnkbhpnflfhhnaaGreatDoor
