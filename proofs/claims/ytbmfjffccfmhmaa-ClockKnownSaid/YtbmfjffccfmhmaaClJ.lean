import Derived.Test.YtbmfjffccfmhmaaClI
import Derived.Deep.RegionHeld3
namespace Go.Proofs.Ytbmfjffccfmhmaa
open Go.ChangeShapes Go.WideShapes Go.ChangeAt Go.RowKit
theorem ready_cons {P : Program} {md : Region.Mode} {ops : Array Oper} {Q : Exit → Act → World → Prop} {S : World → Prop} {fuel : Nat} {listed : Array Bool} {a : Act} {w : World} {i : Nat} (o : Oper) {rs : List Nat} (ho : ops[i]? = some o) (hg : o.guard = none)
    (h : ∀ K' : Act → World → Prop, Kpt (∀ a w, S w → (S w → wpAnyH P md ops Q S fuel (listed.setIfInBounds i true) a w) → K' a w) → Oper.wp P o a w K' Q)
    (hs : AllReadyH P md ops Q S fuel listed a w rs) : AllReadyH P md ops Q S fuel listed a w (i :: rs) :=
  AllReadyH.cons ho (fun K hK => by rw [if_pos (by simp [Region.wanted, hg])]; exact h K ⟨hK.out⟩) hs
theorem wanted_out {o : Oper} {y : Nat → Option Bool} {A E : Prop} (hg : o.guard = none) (h : if Region.wanted o y = true then A else E) : A := by
  rwa [if_pos (by simp [Region.wanted, hg])] at h
theorem flat_one (l : List T3) : ∀ u ∈ flat l, u.oneCell' = true := by
  intro u hu
  simp only [flat, List.mem_flatMap, T3.cells] at hu
  obtain ⟨t, -, hu⟩ := hu
  simp at hu
  rcases hu with rfl | rfl | rfl <;> rfl
theorem rng_of {W : World} {bs : Nat} {C : Array Value} (h : W.heap[bs]? = some (.cells C 80 (0, 0))) : W.rangeAt bs 0 C.toList := fun j u hu => by
  rw [Nat.zero_add, cell_of_row _ _ _ _ _ _ h]; simpa using hu
theorem first_len (s : St) : s.first.length ≤ 1 := by unfold St.first; split <;> simp
theorem ptosOf_len (s : St) : (ptosOf s).length ≤ 3 := by unfold ptosOf; split; simp; exact ptoL_len s 3
set_option maxHeartbeats 8000000 in
set_option maxRecDepth 100000 in
theorem all_live (C : Array Value) (s : St) (w : World) (h : StAt C s) (hph : s.phase ≠ 3 ∧ s.phase ≠ 4 ∧ s.phase ≠ 5) (hL : ∀ n, n < 3 → LAt w (s.sp n).l (s.sp n).q) (hp : (s.pto : Int) < 18446744073709551616) (hla : ∀ n, n < 3 → 0 ≤ (s.sp n).la ∧ (s.sp n).la ≤ 1000000) :
    Calls Try.prog 19 #[.agg C] w (TimesDoes w (s.before ++ putL s 5 (fun n => (s.sp n).due) 3)) := by
  obtain ⟨i0, hi, hz0, hz1, hz2⟩ := info_parts info83
  have H : Kpt _ := ⟨h⟩
  have HL : Kpt _ := ⟨hL⟩
  have HP : Kpt _ := ⟨hp⟩
  have HLA : Kpt _ := ⟨hla⟩
  have HI := Lib.hid hi
  have HZ0 := Lib.hid hz0
  have HZ1 := Lib.hid hz1
  have HZ2 := Lib.hid hz2
  clear h hL hp hla hi hz0 hz1 hz2
  have p3 : (s.phase == 3) = false := by simpa using hph.1
  have p4 : (s.phase == 4) = false := by simpa using hph.2.1
  have p5 : (s.phase == 5) = false := by simpa using hph.2.2
  clear hph
  go_enter Try.func19, Try.ntmps19
  go_upto_region 1 with (with_reducible refine at_box 80 C rfl ?_)
  have C0 := Lib.hid (heap_alloc_last w (.cells C 80))
  have B0 := Lib.hid (show Below w.heap.size w (w.alloc (.cells C 80)) from (Below.refl _ _).alloc (Nat.le_refl _) _)
  have S0 : Hid ((w.alloc (.cells C 80)).heap.size = w.heap.size + 1) := Lib.hid (by simp)
  generalize w.alloc (.cells C 80) = w0 at C0 B0 S0 ⊢
  have c1 : w0.cell? ⟨w.heap.size, 1, none⟩ = some (.int .u8 s.phase) := (cell_of_row _ _ _ _ _ _ C0.out).trans H.out.c1
  have c2 : w0.cell? ⟨w.heap.size, 909, none⟩ = some (.int .u64 s.idle) := (cell_of_row _ _ _ _ _ _ C0.out).trans H.out.i
  obtain ⟨bs, hbs⟩ : ∃ bs, bs = w.heap.size := ⟨_, rfl⟩
  rw [← hbs] at C0 S0 c1 c2 ⊢
  have HBS := Lib.hid hbs
  clear hbs
  go_upto_region 7 with (fail)
  clear c1 p3 p4 p5
  go_upto_region 8 with (fail)
  have D1 := Lib.hid (heap_alloc_last w0 (.cells #[.slice none 0 0] 87))
  have C1 := Lib.hid ((heap_alloc_old w0 (.cells #[.slice none 0 0] 87) (lt_of_block C0.out)).trans C0.out)
  have B1 : Hid (Below w.heap.size w (w0.alloc (.cells #[.slice none 0 0] 87))) := Lib.hid (B0.out.alloc (by have := S0.out; have := HBS.out; omega) _)
  have S1 : Hid ((w0.alloc (.cells #[.slice none 0 0] 87)).heap.size = bs + 2) := Lib.hid (by have := S0.out; simp; omega)
  have c3 : (w0.alloc (.cells #[.slice none 0 0] 87)).cell? ⟨bs, 909, none⟩ = some (.int .u64 s.idle) := (cell_of_row _ _ _ _ _ _ C1.out).trans H.out.i
  rw [S0.out] at D1 ⊢
  generalize w0.alloc (.cells #[.slice none 0 0] 87) = w1 at D1 C1 B1 S1 c3 ⊢
  have d0 : w1.cell? ⟨bs + 1, 0, none⟩ = some (.slice none 0 0) := (cell_of_row _ _ _ _ _ _ D1.out).trans rfl
  have d1 : w1.frozen? ⟨bs + 1, 0, none⟩ = false := frozen_of_row _ _ _ _ _ D1.out
  have dl : bs + 1 < w1.heap.size := lt_of_block D1.out
  --have hm : ∃ w2, (∃ v, w2.heap[bs + 1]? = some (.cells #[v] 87 (0, 0)) ∧ w2.ownsRow (bs + 2) 83 3 v s.first.length (flat s.first)) ∧ True := ⟨_, ⟨_, D1.out, by sorry⟩, trivial⟩
  by_cases hid : s.idle = 0
  case' pos =>
    have hf : s.first = [] := by unfold St.first; rw [if_neg (by simpa using hid)]
    rw [hid] at c3
    clear hid
    go_upto_region 11 with (fail)
    have O2 : Hid (OutAt w1 (bs + 2) (bs + 1) s.first) := Lib.hid ⟨_, D1.out, by rw [hf]; exact World.ownsRow_nil _ _ _ _⟩
    have B2 : Hid (Below (bs + 1) w1 w1) := Lib.hid (Below.refl _ _)
    clear hf
    obtain ⟨W3, hW3⟩ : ∃ W3, W3 = w1 := ⟨_, rfl⟩
    have O2' : Hid (OutAt W3 (bs + 2) (bs + 1) s.first) := Lib.hid (by rw [hW3]; exact O2.out)
    have B2' : Hid (Below (bs + 1) w1 W3) := Lib.hid (by rw [hW3]; exact B2.out)
    rw [← hW3]
    clear hW3 O2 B2
    have O2 := O2'
    have B2 := B2'
    clear O2' B2'
  case' neg =>
    have hf : s.first = [⟨s.idle, 2, 0⟩] := by unfold St.first; rw [if_pos hid]
    have hid2 : (s.idle != 0) = true := by simpa using hid
    have HF := Lib.hid hf
    clear hid hf
    go_upto_region 11 with (at_builtin; go_loud (refine wpList_append_own _ rfl _ _ 87 rfl (bs + 2) 83 i0 (.agg #[.int .u64 0, .int .u8 0, .int .u8 0]) 3 16 Try.underlying87 HI.out HZ0.out HZ1.out HZ2.out rfl (by decide) _ _ _ rfl (World.ownsRow_nil _ _ _ _) ⟨w1.heap.size, 0, none⟩ 1 1 (T3.cells ⟨s.idle, 2, 0⟩) rfl rfl (news_new w1 #[.int .u64 s.idle, .int .u8 2, .int .u8 0] 83) (by simp [T3.cells, Value.oneCell']) (by unfold maxLen; omega) (by omega) (by simp; have := S1.out; omega) ?_); intro v' w3 hown3 hgrow _; obtain ⟨oa3, cap3, rfl⟩ := own_slice hown3; have g3 : Hid (w3.heap[bs + 1]? = w1.heap[bs + 1]?) := Lib.hid ((hgrow.block (bs + 1) (by simp; omega) (fun e => by have := ((World.ownsRow_nil w1 (bs + 2) 83 3).lt (bs + 1) e.symm).1; omega)).trans (heap_alloc_old w1 _ dl)); have x0 : w3.cell? ⟨bs + 1, 0, none⟩ = some (.slice none 0 0) := ((cell_of_row _ _ _ _ _ _ (g3.out.trans D1.out)).trans rfl); have x1 : w3.frozen? ⟨bs + 1, 0, none⟩ = false := frozen_of_row _ _ _ _ _ (g3.out.trans D1.out); have H3 := Lib.hid hown3; have B3 : Hid (Below (bs + 1) w1 w3) := Lib.hid ((((Below.refl _ w1).alloc (by omega) (.cells #[.int .u64 s.idle, .int .u8 2, .int .u8 0] 83))).grown hgrow (by simp; omega) (fun j e => by have := ((World.ownsRow_nil w1 (bs + 2) 83 3).lt j e).1; omega)); clear hown3 hgrow)
    have O2 : Hid (OutAt (w3.setCell ⟨bs + 1, 0, none⟩ (.slice oa3 1 cap3)) (bs + 2) (bs + 1) s.first) := Lib.hid ⟨_, blk_set (g3.out.trans D1.out) 0 _, by rw [HF.out]; exact ownsRow_setCell_below H3.out (by simp) _⟩
    have B2 : Hid (Below (bs + 1) w1 (w3.setCell ⟨bs + 1, 0, none⟩ (.slice oa3 1 cap3))) := Lib.hid (B3.out.setCell (by simp) _)
    clear HF H3 B3 g3 x0 x1
    generalize w3.setCell ⟨bs + 1, 0, none⟩ (.slice oa3 1 cap3) = W3 at O2 B2 ⊢
  all_goals
    have C3 := Lib.hid ((B2.out.block bs (by omega)).trans C1.out)
    have Z3 : Hid (bs + 2 ≤ W3.heap.size) := Lib.hid (by have := B2.out.size; have := S1.out; omega)
    have HFL := first_len s
    obtain ⟨v, hv, hown⟩ := O2.out
    obtain ⟨oa, cap, rfl⟩ := own_slice hown
    have v0 : W3.cell? ⟨bs + 1, 0, none⟩ = some (.slice oa s.first.length cap) := (cell_of_row _ _ _ _ _ _ hv).trans rfl
    clear hv hown c2 c3 d0 d1
    go_upto_region 12 with (fail)
    clear v0
    go_upto_region 13 with (go_at_call 25; refine (put_loss C s 3 (fun n => (s.sp n).ls) bs (bs + 2) (bs + 1) s.first _ H.out C3.out (by omega) (by omega) Z3.out (by omega) O2.out (ls_of C s H.out)).mono ?_; rintro e w4 ⟨rfl, ho4, hb4⟩)
    have O4 : Hid (OutAt w4 (bs + 2) (bs + 1) s.losses) := Lib.hid ho4
    have C4 := Lib.hid ((hb4.block bs (by omega)).trans C3.out)
    have Z4 : Hid (bs + 2 ≤ w4.heap.size) := Lib.hid (by have := hb4.size; have := Z3.out; omega)
    have B4 := Lib.hid (B2.out.trans hb4)
    have HLL : s.losses.length ≤ 4 := by unfold St.losses; rw [List.length_append]; have := putL_len s 3 (fun n => (s.sp n).ls) 3; omega
    obtain ⟨v, hv, hown⟩ := O4.out
    obtain ⟨oa, cap, rfl⟩ := own_slice hown
    have V4 := Lib.hid hv
    have W4 := Lib.hid hown
    have v0 : w4.cell? ⟨bs + 1, 0, none⟩ = some (.slice oa s.losses.length cap) := (cell_of_row _ _ _ _ _ _ hv).trans rfl
    clear ho4 hb4 hv hown
    by_cases he : s.losses.length = s.first.length
    case' pos =>
      have he2 : ((s.losses.length : Int) == (s.first.length : Int)) = true := by rw [he]; simp
      have HE := Lib.hid he
      clear he
      go_upto_region 14 with (fail)
      clear he2
      have HLW : Hid (∀ n, n < 3 → LAt w4.drew (s.sp n).l (s.sp n).q) := Lib.hid (fun n hn => (HL.out n hn).below (B1.out.trans ((B4.out.drew).mono (by have := HBS.out; omega))))
      have W5 : Hid (w4.drew.ownsRow (bs + 2) 83 3 (.slice oa s.losses.length cap) s.losses.length (flat s.losses)) := Lib.hid (ownsRow_blocks W4.out (fun _ _ => rfl))
      have V5 : Hid (w4.drew.heap[bs + 1]? = some (.cells #[.slice oa s.losses.length cap] 87 (0, 0))) := Lib.hid V4.out
      have f0 : w4.frozen? ⟨bs + 1, 0, none⟩ = false := frozen_of_row _ _ _ _ _ V4.out
      have HPO := ptosOf_len s
      have Z5 : Hid (bs + 2 ≤ w4.drew.heap.size) := Lib.hid Z4.out
      have B5 := Lib.hid B4.out.drew
      have v6 : w4.drew.cell? ⟨bs + 1, 0, none⟩ = some (.slice oa s.losses.length cap) := v0
      refine wp_region_held_drew (S := fun W => W.heap[bs]? = some (.cells C 80 (0, 0))) (by kernel_rfl) C4.out (fun _ => ?_)
      simp only [List.size_toArray, List.length_cons, List.length_nil, Nat.reduceAdd]
      refine wpAnyH_take (i := 1) (oi := ⟨some 37, .load 80 (.tmp 1), 80, _, _, none⟩) (v := .agg C) rfl (by kernel_rfl) (by kernel_rfl) (by kernel_rfl) (fun _ _ _ h => h) (yieldsIf_load_mid rfl 80 (.tmp 1) rfl bs 0 rfl C.toList _ (fun W hW => rng_of hW) U80 rfl (by rw [size80, Array.length_toList, H.out.size])) C4.out ?_
      simp only [Act.put, List.setIfInBounds_toArray, List.set_cons_zero, List.set_cons_succ]
      refine wpAnyH_ready (rs := [0, 2]) (by kernel_rfl) (by simp) ?_
      refine ready_cons ⟨some 36, .load 87 (.tmp 3), 87, _, _, none⟩ rfl rfl (fun K hK => ?_) (ready_cons ⟨some 38, .call ⟨.value (.func 27), #[.tmp 37], #[80]⟩, 87, _, _, none⟩ rfl rfl (fun K hK => ?_) AllReadyH.nil)
      case' refine_1 =>
        go_step
        refine hK.out _ _ C4.out (fun _ => ?_)
        clear hK K
        refine wpAnyH_ready (rs := [2]) (by kernel_rfl) (by simp) ?_
        refine ready_cons ⟨some 38, .call ⟨.value (.func 27), #[.tmp 37], #[80]⟩, 87, _, _, none⟩ rfl rfl (fun K hK => ?_) AllReadyH.nil
        go_step
        try go_step
        go_at_call 27
        refine (ptos_any C s _ H.out HLW.out HP.out HLA.out).mono ?_
        rintro e w5 ⟨vv, rfl, ho5, hb5⟩
        obtain ⟨ob, capb, rfl⟩ := own_slice ho5
        have v5 : w5.cell? ⟨bs + 1, 0, none⟩ = some (.slice oa s.losses.length cap) := ((cell_of_row _ _ _ _ _ _ ((hb5.block _ (lt_of_block V5.out)).trans V5.out)).trans rfl)
        have O5 := Lib.hid (ownsRow_blocks W5.out hb5.block)
        have V6 := Lib.hid ((hb5.block _ (lt_of_block V5.out)).trans V5.out)
        have R5 := Lib.hid ho5
        have B6 := Lib.hid (B5.out.trans (hb5.mono (by have := Z5.out; omega)))
        have Z6 := Lib.hid (Nat.le_trans Z5.out hb5.size)
        have C6 := Lib.hid ((hb5.block _ (lt_of_block C4.out)).trans C4.out)
        clear ho5 hb5
        refine hK.out _ _ C6.out (fun _ => ?_)
        clear hK K
      case' refine_2 =>
        go_step
        try go_step
        go_at_call 27
        refine (ptos_any C s _ H.out HLW.out HP.out HLA.out).mono ?_
        rintro e w5 ⟨vv, rfl, ho5, hb5⟩
        obtain ⟨ob, capb, rfl⟩ := own_slice ho5
        have v5 : w5.cell? ⟨bs + 1, 0, none⟩ = some (.slice oa s.losses.length cap) := ((cell_of_row _ _ _ _ _ _ ((hb5.block _ (lt_of_block V5.out)).trans V5.out)).trans rfl)
        have O5 := Lib.hid (ownsRow_blocks W5.out hb5.block)
        have V6 := Lib.hid ((hb5.block _ (lt_of_block V5.out)).trans V5.out)
        have R5 := Lib.hid ho5
        have B6 := Lib.hid (B5.out.trans (hb5.mono (by have := Z5.out; omega)))
        have Z6 := Lib.hid (Nat.le_trans Z5.out hb5.size)
        have C6 := Lib.hid ((hb5.block _ (lt_of_block C4.out)).trans C4.out)
        clear ho5 hb5
        refine hK.out _ _ C6.out (fun _ => ?_)
        clear hK K
        refine wpAnyH_ready (rs := [0]) (by kernel_rfl) (by simp) ?_
        refine ready_cons ⟨some 36, .load 87 (.tmp 3), 87, _, _, none⟩ rfl rfl (fun K hK => ?_) AllReadyH.nil
        go_step
        try go_step
        refine hK.out _ _ C6.out (fun _ => ?_)
        clear hK K
      all_goals
        refine wpAnyH_ready (rs := [3]) (by kernel_rfl) (by simp) ?_
        refine ready_cons ⟨some 39, .call ⟨.builtin .append, #[.tmp 36, .tmp 38], #[87, 87]⟩, 87, _, _, none⟩ rfl rfl (fun K hK => ?_) AllReadyH.nil
        refine wanted_out (o := ⟨some 39, .call ⟨.builtin .append, #[.tmp 36, .tmp 38], #[87, 87]⟩, 87, _, _, none⟩) (E := True) (y := yielded #[] _) rfl (step_append_row (ops := #[]) rfl (.tmp 36) (.tmp 38) 87 rfl (bs + 2) 83 i0 (.agg #[.int .u64 0, .int .u8 0, .int .u8 0]) 3 16 Try.underlying87 HI.out HZ0.out HZ1.out HZ2.out rfl (by decide) _ _ _ rfl O5.out _ _ _ _ rfl R5.out (flat_one _) (by unfold maxLen; omega) (by omega) Z6.out ?_)
        intro v' w7 hown7 hg7
        obtain ⟨oc, capc, rfl⟩ := own_slice hown7
        have g7 : Hid (w7.heap[bs + 1]? = w5.heap[bs + 1]?) := Lib.hid (hg7.block (bs + 1) (lt_of_block V6.out) (fun e => by have := (O5.out.lt (bs + 1) e.symm).1; omega))
        have x0 : w7.cell? ⟨bs + 1, 0, none⟩ = some (.slice oa s.losses.length cap) := (cell_of_row _ _ _ _ _ _ (g7.out.trans V6.out)).trans rfl
        have x1 : w7.frozen? ⟨bs + 1, 0, none⟩ = false := frozen_of_row _ _ _ _ _ (g7.out.trans V6.out)
        have C7 := Lib.hid ((hg7.block bs (lt_of_block C6.out) (fun e => by have := (O5.out.lt bs e.symm).1; omega)).trans C6.out)
        have H7 := Lib.hid hown7
        have B7 := Lib.hid (B6.out.grown hg7 (by have := Z6.out; omega) (fun j e => by have := (O5.out.lt j e).1; omega))
        clear hown7 hg7
        refine hK.out _ _ C7.out (fun _ => ?_)
        clear hK K
        refine wpAnyH_ready (rs := [4]) (by kernel_rfl) (by simp) ?_
        refine ready_cons ⟨none, .store 87 (.tmp 3) (.tmp 39), 0, _, _, none⟩ rfl rfl (fun K hK => ?_) AllReadyH.nil
        go_step
        try go_step
        refine hK.out _ _ ((heap_setCell_other _ _ _ _ (by simp)).trans C7.out) (fun _ => ?_)
        clear hK K
        refine wpAnyH_done (by kernel_rfl) ?_ _
        have hlen : s.before.length = s.losses.length + (ptosOf s).length := by unfold St.before; rw [if_pos HE.out, List.length_append]
        have O8 : Hid (OutAt (w7.setCell ⟨bs + 1, 0, none⟩ (.slice oc (s.losses.length + (ptosOf s).length) capc)) (bs + 2) (bs + 1) s.before) := Lib.hid ⟨_, blk_set (g7.out.trans V6.out) 0 _, by rw [hlen]; unfold St.before; rw [if_pos HE.out]; simp only [flat, List.flatMap_append]; exact ownsRow_setCell_below H7.out (by simp) _⟩
        have B8 : Hid (Below (bs + 1) w1 (w7.setCell ⟨bs + 1, 0, none⟩ (.slice oc (s.losses.length + (ptosOf s).length) capc))) := Lib.hid (B7.out.setCell (by simp) _)
        have C8 : Hid ((w7.setCell ⟨bs + 1, 0, none⟩ (.slice oc (s.losses.length + (ptosOf s).length) capc)).heap[bs]? = some (.cells C 80 (0, 0))) := Lib.hid ((heap_setCell_other _ _ _ _ (by simp)).trans C7.out)
        have Z8 : Hid (bs + 2 ≤ (w7.setCell ⟨bs + 1, 0, none⟩ (.slice oc (s.losses.length + (ptosOf s).length) capc)).heap.size) := Lib.hid (by have := B7.out.size; have := S1.out; simp; omega)
        have HBL : s.before.length ≤ 10 := by omega
        clear hlen x0 x1 v6 v5
        generalize (w7.setCell ⟨bs + 1, 0, none⟩ (.slice oc (s.losses.length + (ptosOf s).length) capc)) = w8 at O8 B8 C8 Z8 ⊢
        go_upto_region 16 with (go_at_call 25; refine (put_due C s 5 (fun n => (s.sp n).due) bs (bs + 2) (bs + 1) s.before _ H.out C8.out (by omega) (by omega) Z8.out (by omega) O8.out (due_of C s H.out)).mono ?_; rintro e w9 ⟨rfl, ho9, hb9⟩)
        obtain ⟨v, hv, hown⟩ := ho9
        obtain ⟨od, capd, hvd⟩ := own_slice hown
        subst hvd
        have v9 : w9.cell? ⟨bs + 1, 0, none⟩ = some (.slice od (s.before ++ putL s 5 (fun n => (s.sp n).due) 3).length capd) := (cell_of_row _ _ _ _ _ _ hv).trans rfl
        have W9 := Lib.hid hown
        have B9 := Lib.hid (B8.out.trans hb9)
        clear hv hown hb9
        generalize hnn : (s.before ++ putL s 5 (fun n => (s.sp n).due) 3).length = nn at v9 W9
        have HNN := Lib.hid hnn
        clear hnn
        go_wp2_with fail
        go_ret
        refine ⟨_, rfl, ?_, B1.out.trans (B9.out.mono (by have := HBS.out; omega))⟩
        rw [HNN.out]
        exact own_mono W9.out (by have := HBS.out; omega)
    case' neg =>
      have he2 : ((s.losses.length : Int) == (s.first.length : Int)) = false := by simpa using (fun h => he (by omega))
      have HE := Lib.hid he
      clear he
      go_upto_region 15 with (fail)
      have O8 : Hid (OutAt w4 (bs + 2) (bs + 1) s.before) := Lib.hid (by unfold St.before; rw [if_neg HE.out]; exact O4.out)
      have HBL : s.before.length ≤ 10 := by unfold St.before; rw [if_neg HE.out]; omega
      have B8 := B4
      have C8 := C4
      have Z8 := Z4
      clear v0 he2
      go_upto_region 16 with (go_at_call 25; refine (put_due C s 5 (fun n => (s.sp n).due) bs (bs + 2) (bs + 1) s.before _ H.out C8.out (by omega) (by omega) Z8.out (by omega) O8.out (due_of C s H.out)).mono ?_; rintro e w9 ⟨rfl, ho9, hb9⟩)
      obtain ⟨v, hv, hown⟩ := ho9
      obtain ⟨od, capd, hvd⟩ := own_slice hown
      subst hvd
      have v9 : w9.cell? ⟨bs + 1, 0, none⟩ = some (.slice od (s.before ++ putL s 5 (fun n => (s.sp n).due) 3).length capd) := (cell_of_row _ _ _ _ _ _ hv).trans rfl
      have W9 := Lib.hid hown
      have B9 := Lib.hid (B8.out.trans hb9)
      clear hv hown hb9
      generalize hnn : (s.before ++ putL s 5 (fun n => (s.sp n).due) 3).length = nn at v9 W9
      have HNN := Lib.hid hnn
      clear hnn
      go_wp2_with fail
      go_ret
      refine ⟨_, rfl, ?_, B1.out.trans (B9.out.mono (by have := HBS.out; omega))⟩
      rw [HNN.out]
      exact own_mono W9.out (by have := HBS.out; omega)
end Go.Proofs.Ytbmfjffccfmhmaa
