import Derived.Test.YtbmfjffccfmhmaaClF
import Derived.Laws.AppendOwn
import Derived.Laws.OwnMore
namespace Go.Proofs.Ytbmfjffccfmhmaa
open Go.ChangeShapes Go.WideShapes Go.ChangeAt Go.RowKit

theorem news_new (w : World) (cs : Array Value) (t : TypeId) : ∀ j u, cs.toList[j]? = some u → (w.alloc (.cells cs t)).cell? ((⟨w.heap.size, 0, none⟩ : Addr).add j) = some u := fun j u hu => by
  have hadd : (⟨w.heap.size, 0, none⟩ : Addr).add j = ⟨w.heap.size, j, none⟩ := by unfold Addr.add; split <;> simp_all
  rw [hadd, cell_of_row _ _ j cs t (0, 0) (heap_alloc_last w _)]
  simpa using hu
def flat (l : List T3) : List Value := l.flatMap T3.cells
theorem flat_snoc (l : List T3) (t : T3) : flat (l ++ [t]) = flat l ++ t.cells := by simp [flat]
theorem flat_length (l : List T3) : (flat l).length = l.length * 3 := by
  induction l with
  | nil => rfl
  | cons t r ih => simp only [flat, List.flatMap_cons, List.length_append, List.length_cons] at ih ⊢; rw [ih]; simp [T3.cells]; omega
/-- The variable in block bo holds a slice of the call's own, of these times. -/
def OutAt (w : World) (base bo : Nat) (l : List T3) : Prop := ∃ v, w.heap[bo]? = some (.cells #[v] 87 (0, 0)) ∧ w.ownsRow base 83 3 v l.length (flat l)
theorem ownsRow_blocks {w w' : World} {base : Nat} {e : TypeId} {size : Nat} {v : Value} {n : Nat} {xs : List Value} (h : w.ownsRow base e size v n xs) (hb : ∀ k, k < w.heap.size → w'.heap[k]? = w.heap[k]?) : w'.ownsRow base e size v n xs := by
  obtain ⟨h1, h2⟩ := h
  refine ⟨h1, ?_⟩
  rcases h2 with h2 | ⟨g, cap, cur, r1, r2, r3, r4⟩
  · exact .inl h2
  · exact .inr ⟨g, cap, cur, r1, r2, (hb g (lt_of_block r3)).trans r3, r4⟩
theorem own_slice {w : World} {base : Nat} {e : TypeId} {size : Nat} {v : Value} {n : Nat} {xs : List Value} (h : w.ownsRow base e size v n xs) : ∃ oa cap, v = .slice oa n cap := by
  obtain ⟨-, h2⟩ := h
  rcases h2 with ⟨rfl, rfl⟩ | ⟨g, cap, cur, rfl, -⟩
  · exact ⟨none, 0, rfl⟩
  · exact ⟨_, _, rfl⟩
theorem OutAt.keep {w w' : World} {base bo : Nat} {l : List T3} (h : OutAt w base bo l) (hb : Below w.heap.size w w') : OutAt w' base bo l := by
  obtain ⟨v, h1, h2⟩ := h
  exact ⟨v, (hb.block _ (lt_of_block h1)).trans h1, ownsRow_blocks h2 hb.block⟩
theorem OutAt.appended {w w3 : World} {base bo : Nat} {l : List T3} {v v' : Value} {t : T3} (_h : OutAt w base bo l) (hv : w.heap[bo]? = some (.cells #[v] 87 (0, 0))) (hbo : bo < base)
    (h3 : w3.ownsRow base 83 3 v' (l.length + 1) (flat l ++ t.cells)) (hg : w3.heap[bo]? = w.heap[bo]?) : OutAt (w3.setCell ⟨bo, 0, none⟩ v') base bo (l ++ [t]) := by
  refine ⟨v', ?_, ?_⟩
  · exact blk_set (hg.trans hv) 0 v'
  · rw [flat_snoc, List.length_append]
    exact ownsRow_setCell_below h3 hbo v'
def putL (s : St) (kind : Int) (f : Nat → Int) : Nat → List T3
  | 0 => []
  | k + 1 => putL s kind f k ++ (if (s.sp k).has = true ∧ f k ≠ 0 then [⟨f k, kind, k⟩] else [])
theorem putL_len (s : St) (kind : Int) (f : Nat → Int) (k : Nat) : (putL s kind f k).length ≤ k := by
  induction k with
  | zero => exact Nat.le_refl _
  | succ k ih => rw [putL, List.length_append]; split <;> simp <;> omega
theorem putL_no (s : St) (kind : Int) (f : Nat → Int) (k : Nat) (h : ¬ ((s.sp k).has = true ∧ f k ≠ 0)) : putL s kind f (k + 1) = putL s kind f k := by rw [putL, if_neg h, List.append_nil]
def PutDoes (w : World) (base bo : Nat) (l : List T3) (e : Ending) (w' : World) : Prop := e = .returned (.tuple #[]) ∧ OutAt w' base bo l ∧ Below bo w w'
def PutRel (w : World) (base bo : Nat) (l : List T3) (s : St) (kind : Int) (f : Nat → Int) (q : Nat) (i : Value) (wr : World) : Prop :=
  ∃ k : Nat, k + q = 3 ∧ i = .int .i64 k ∧ OutAt wr base bo (l ++ putL s kind f k) ∧ Below bo w wr ∧ base ≤ wr.heap.size
theorem info83 : (Try.prog.info? 83).map (fun i => (i.zero, i.size, i.bytes)) = some (some (.agg #[.int .u64 0, .int .u8 0, .int .u8 0]), 3, 16) := by kernel_rfl
set_option maxHeartbeats 4000000 in
set_option maxRecDepth 100000 in
theorem put_loss (C : Array Value) (s : St) (kind : Int) (f : Nat → Int) (bs base bo : Nat) (l : List T3) (w : World) (h : StAt C s) (hC : w.heap[bs]? = some (.cells C 80 (0, 0))) (_hbs : bs < bo) (hbo : bo < base) (hbw : base ≤ w.heap.size)
    (hl : l.length ≤ 10) (ho : OutAt w base bo l)
    (hg : ∀ (k : Nat) (w : World), k < 3 → Calls Try.prog 26 #[.agg (spc C k)] w (Gives w (.int .u64 (f k)))) :
    Calls Try.prog 25 #[.int .u8 kind, .func (.func 26) #[] #[], .pointer (some ⟨bs, 0, none⟩), .pointer (some ⟨bo, 0, none⟩)] w (PutDoes w base bo (l ++ putL s kind f 3)) := by
  obtain ⟨i0, hi, hz0, hz1, hz2⟩ := info_parts info83
  have H := Lib.hid h
  have HO := Lib.hid ho
  have HG := Lib.hid hg
  have HCC := Lib.hid hC
  have HI := Lib.hid hi
  have HZ0 := Lib.hid hz0
  have HZ1 := Lib.hid hz1
  have HZ2 := Lib.hid hz2
  clear h ho hg hi hz0 hz1 hz2 hC
  go_enter Try.func25, Try.ntmps25
  go_wp2_with ((with_reducible refine at_load_mid 68 bs 297 585 80 C HCC.out _ U68 rfl size68 ?_ ?_ ?_); (· rw [H.out.size]; decide); (· rfl))
  go_loopg [11] 3 (fun q i wr => PutRel w base bo l s kind f q i wr)
  case atStart => exact ⟨0, rfl, rfl, by simpa [putL] using HO.out, Below.refl _ _, hbw⟩
  case round =>
    obtain ⟨k, hk, rfl, ho, hb, hz⟩ := hrel
    have OR := Lib.hid ho
    have BR := Lib.hid hb
    clear ho hb HO
    by_cases hk3 : k < 3
    · go_upto_region 3 with (first
        | ((with_reducible refine at_index 68 67 3 195 (C.extract 297 (297 + 585)) k _ U68 U67 rfl size67 hk3 (spc C k) rfl ?_ ?_ ?_); (· rfl); (· rfl))
        | (with_reducible refine at_alloc 67 Z67 alloc67 ?_)
        | ((with_reducible refine at_store_new 67 Z67 (spc C k) 67 (by rw [size67, spc_size C k H.out.size hk3]) (by rw [Z67_size, spc_size C k H.out.size hk3]) (spc_ones C k H.out.ones) ?_ ?_ ?_); (· rfl); (· rfl)))
      have P1 := Lib.hid (heap_alloc_last wr (.cells (spc C k) 67))
      have O1 : Hid (OutAt (wr.alloc (.cells (spc C k) 67)) base bo (l ++ putL s kind f k)) := by
        obtain ⟨v, h1, h2⟩ := OR.out
        exact Lib.hid ⟨v, (heap_alloc_old _ _ (lt_of_block h1)).trans h1, h2.alloc _⟩
      have B1 := Lib.hid (BR.out.alloc (by omega) (.cells (spc C k) 67))
      have hz1 : Hid (wr.heap.size < (wr.alloc (.cells (spc C k) 67)).heap.size) := Lib.hid (by simp)
      obtain ⟨p0, -⟩ := H.out.sp k hk3
      rw [show 297 + 195 * k = 297 + 195 * k + 0 from rfl, ← spc_get C k 0 H.out.size hk3 (by omega)] at p0
      have P0 := Lib.hid p0
      clear p0 OR BR
      generalize wr.alloc (.cells (spc C k) 67) = W at P1 O1 B1 hz1 ⊢
      go_upto_region 4 with (first
        | ((with_reducible refine at_load_row 67 wr.heap.size 67 (spc C k) P1.out _ U67 rfl ?_ ?_ ?_); (· rw [size67, spc_size C k H.out.size hk3]); (· rfl))
        | (go_at_call 26; refine (HG.out k _ hk3).mono ?_; rintro e w2 ⟨rfl, hb2⟩))
      have P2 := Lib.hid ((hb2.block _ hz1.out).trans P1.out)
      have B2 := Lib.hid (B1.out.trans (hb2.mono (by have := B1.out.size; omega)))
      have O2 := Lib.hid (O1.out.keep hb2)
      have Z2 := Lib.hid (Nat.le_trans (Nat.le_of_lt hz1.out) hb2.size)
      obtain ⟨v, hv, hown⟩ := O2.out
      have V2 := Lib.hid hv
      have W2 := Lib.hid hown
      have v0 : w2.cell? ⟨bo, 0, none⟩ = some v := by rw [cell_of_row _ _ _ _ _ _ hv]; rfl
      have v1 : w2.frozen? ⟨bo, 0, none⟩ = false := frozen_of_row _ _ _ _ _ hv
      have vlt : bo < w2.heap.size := lt_of_block hv
      have q0 : w2.cell? ⟨wr.heap.size, 0, none⟩ = some (.bool (s.sp k).has) := by rw [cell_of_row _ _ _ _ _ _ P2.out]; exact P0.out
      have hll := putL_len s kind f k
      clear hb2 hv hown hz1 O1 B1 P1
      by_cases hh : (s.sp k).has = true ∧ f k ≠ 0
      · rw [hh.1] at q0
        have hf : ((f k) == 0) = false := by simpa using hh.2
        have hf2 : ((f k) != 0) = true := by simpa using hh.2
        have HH := Lib.hid hh
        have hwk : IntKind.u8.wrap (k : Int) = k := by rw [IntKind.wrap_u8]; omega
        clear hh
        go_wp2_with (at_builtin; go_loud (refine wpList_append_own _ rfl _ _ 87 rfl base 83 i0 (.agg #[.int .u64 0, .int .u8 0, .int .u8 0]) 3 16 Try.underlying87 HI.out HZ0.out HZ1.out HZ2.out rfl (by decide) _ _ _ rfl (W2.out.alloc _) ⟨w2.heap.size, 0, none⟩ 1 1 (T3.cells ⟨f k, kind, k⟩) rfl rfl (news_new w2 #[.int .u64 (f k), .int .u8 kind, .int .u8 k] 83) (by simp [T3.cells, Value.oneCell']) (by unfold maxLen; simp; omega) (by simp; omega) (by simp; have := Z2.out; omega) ?_); intro v' w3 hown3 hgrow _; obtain ⟨oa3, cap3, rfl⟩ := own_slice hown3; have g3 : Hid (w3.heap[bo]? = w2.heap[bo]?) := Lib.hid ((hgrow.block bo (by simp; omega) (fun e => by have := (W2.out.lt bo e.symm).1; omega)).trans (heap_alloc_old w2 _ vlt)); have x0 : w3.cell? ⟨bo, 0, none⟩ = some v := ((cell_of_row _ _ _ _ _ _ (g3.out.trans V2.out)).trans rfl); have x1 : w3.frozen? ⟨bo, 0, none⟩ = false := frozen_of_row _ _ _ _ _ (g3.out.trans V2.out); have H3 := Lib.hid hown3; have B3 := Lib.hid ((B2.out.alloc (by omega) (.cells #[.int .u64 (f k), .int .u8 kind, .int .u8 k] 83)).grown hgrow (by simp; omega) (fun j e => by have := (W2.out.lt j e).1; omega)); clear hown3 hgrow)
        have B4 := Lib.hid (B3.out.setCell (p := ⟨bo, 0, none⟩) (Nat.le_refl _) (.slice oa3 ((l ++ putL s kind f k).length + 1) cap3))
        have O4 := Lib.hid (O2.out.appended V2.out hbo H3.out g3.out)
        have Z4 : Hid (base ≤ (w3.setCell ⟨bo, 0, none⟩ (.slice oa3 ((l ++ putL s kind f k).length + 1) cap3)).heap.size) := Lib.hid (by have := B3.out.size; have := Z2.out; have := hz; simp; omega)
        simp only [List.length_append] at B4 O4 Z4
        go_roundg (gk - 1)
        case measure => omega
        case rel =>
          refine ⟨k + 1, by omega, by go_num, ?_, B4.out, Z4.out⟩
          rw [putL, if_pos HH.out, ← List.append_assoc]
          exact O4.out
      · have HH := Lib.hid hh
        by_cases hs1 : (s.sp k).has = true
        · have hf : f k = 0 := by rcases Classical.not_and_iff_not_or_not.1 HH.out with h | h; exact absurd hs1 h; simpa using h
          rw [hs1] at q0
          have HF := Lib.hid hf
          rw [hf]
          clear hf hh hs1
          go_wp2_with fail
          go_roundg (gk - 1)
          case measure => omega
          case rel => exact ⟨k + 1, by omega, by go_num, by rw [putL_no s kind f k HH.out]; exact O2.out, B2.out, by have := Z2.out; omega⟩
        · rw [show (s.sp k).has = false by simpa using hs1] at q0
          clear hs1 hh
          go_wp2_with fail
          go_roundg (gk - 1)
          case measure => omega
          case rel => exact ⟨k + 1, by omega, by go_num, by rw [putL_no s kind f k HH.out]; exact O2.out, B2.out, by have := Z2.out; omega⟩
    · obtain rfl : k = 3 := by omega
      go_wp2_with fail
      refine bodyPost_ret (results_none rfl _ _ _) rfl ?_
      exact ⟨rfl, OR.out, BR.out⟩
set_option maxHeartbeats 4000000 in
set_option maxRecDepth 100000 in
theorem put_due (C : Array Value) (s : St) (kind : Int) (f : Nat → Int) (bs base bo : Nat) (l : List T3) (w : World) (h : StAt C s) (hC : w.heap[bs]? = some (.cells C 80 (0, 0))) (_hbs : bs < bo) (hbo : bo < base) (hbw : base ≤ w.heap.size)
    (hl : l.length ≤ 10) (ho : OutAt w base bo l)
    (hg : ∀ (k : Nat) (w : World), k < 3 → Calls Try.prog 28 #[.agg (spc C k)] w (Gives w (.int .u64 (f k)))) :
    Calls Try.prog 25 #[.int .u8 kind, .func (.func 28) #[] #[], .pointer (some ⟨bs, 0, none⟩), .pointer (some ⟨bo, 0, none⟩)] w (PutDoes w base bo (l ++ putL s kind f 3)) := by
  obtain ⟨i0, hi, hz0, hz1, hz2⟩ := info_parts info83
  have H := Lib.hid h
  have HO := Lib.hid ho
  have HG := Lib.hid hg
  have HCC := Lib.hid hC
  have HI := Lib.hid hi
  have HZ0 := Lib.hid hz0
  have HZ1 := Lib.hid hz1
  have HZ2 := Lib.hid hz2
  clear h ho hg hi hz0 hz1 hz2 hC
  go_enter Try.func25, Try.ntmps25
  go_wp2_with ((with_reducible refine at_load_mid 68 bs 297 585 80 C HCC.out _ U68 rfl size68 ?_ ?_ ?_); (· rw [H.out.size]; decide); (· rfl))
  go_loopg [11] 3 (fun q i wr => PutRel w base bo l s kind f q i wr)
  case atStart => exact ⟨0, rfl, rfl, by simpa [putL] using HO.out, Below.refl _ _, hbw⟩
  case round =>
    obtain ⟨k, hk, rfl, ho, hb, hz⟩ := hrel
    have OR := Lib.hid ho
    have BR := Lib.hid hb
    clear ho hb HO
    by_cases hk3 : k < 3
    · go_upto_region 3 with (first
        | ((with_reducible refine at_index 68 67 3 195 (C.extract 297 (297 + 585)) k _ U68 U67 rfl size67 hk3 (spc C k) rfl ?_ ?_ ?_); (· rfl); (· rfl))
        | (with_reducible refine at_alloc 67 Z67 alloc67 ?_)
        | ((with_reducible refine at_store_new 67 Z67 (spc C k) 67 (by rw [size67, spc_size C k H.out.size hk3]) (by rw [Z67_size, spc_size C k H.out.size hk3]) (spc_ones C k H.out.ones) ?_ ?_ ?_); (· rfl); (· rfl)))
      have P1 := Lib.hid (heap_alloc_last wr (.cells (spc C k) 67))
      have O1 : Hid (OutAt (wr.alloc (.cells (spc C k) 67)) base bo (l ++ putL s kind f k)) := by
        obtain ⟨v, h1, h2⟩ := OR.out
        exact Lib.hid ⟨v, (heap_alloc_old _ _ (lt_of_block h1)).trans h1, h2.alloc _⟩
      have B1 := Lib.hid (BR.out.alloc (by omega) (.cells (spc C k) 67))
      have hz1 : Hid (wr.heap.size < (wr.alloc (.cells (spc C k) 67)).heap.size) := Lib.hid (by simp)
      obtain ⟨p0, -⟩ := H.out.sp k hk3
      rw [show 297 + 195 * k = 297 + 195 * k + 0 from rfl, ← spc_get C k 0 H.out.size hk3 (by omega)] at p0
      have P0 := Lib.hid p0
      clear p0 OR BR
      generalize wr.alloc (.cells (spc C k) 67) = W at P1 O1 B1 hz1 ⊢
      go_upto_region 4 with (first
        | ((with_reducible refine at_load_row 67 wr.heap.size 67 (spc C k) P1.out _ U67 rfl ?_ ?_ ?_); (· rw [size67, spc_size C k H.out.size hk3]); (· rfl))
        | (go_at_call 28; refine (HG.out k _ hk3).mono ?_; rintro e w2 ⟨rfl, hb2⟩))
      have P2 := Lib.hid ((hb2.block _ hz1.out).trans P1.out)
      have B2 := Lib.hid (B1.out.trans (hb2.mono (by have := B1.out.size; omega)))
      have O2 := Lib.hid (O1.out.keep hb2)
      have Z2 := Lib.hid (Nat.le_trans (Nat.le_of_lt hz1.out) hb2.size)
      obtain ⟨v, hv, hown⟩ := O2.out
      have V2 := Lib.hid hv
      have W2 := Lib.hid hown
      have v0 : w2.cell? ⟨bo, 0, none⟩ = some v := by rw [cell_of_row _ _ _ _ _ _ hv]; rfl
      have v1 : w2.frozen? ⟨bo, 0, none⟩ = false := frozen_of_row _ _ _ _ _ hv
      have vlt : bo < w2.heap.size := lt_of_block hv
      have q0 : w2.cell? ⟨wr.heap.size, 0, none⟩ = some (.bool (s.sp k).has) := by rw [cell_of_row _ _ _ _ _ _ P2.out]; exact P0.out
      have hll := putL_len s kind f k
      clear hb2 hv hown hz1 O1 B1 P1
      by_cases hh : (s.sp k).has = true ∧ f k ≠ 0
      · rw [hh.1] at q0
        have hf : ((f k) == 0) = false := by simpa using hh.2
        have hf2 : ((f k) != 0) = true := by simpa using hh.2
        have HH := Lib.hid hh
        have hwk : IntKind.u8.wrap (k : Int) = k := by rw [IntKind.wrap_u8]; omega
        clear hh
        go_wp2_with (at_builtin; go_loud (refine wpList_append_own _ rfl _ _ 87 rfl base 83 i0 (.agg #[.int .u64 0, .int .u8 0, .int .u8 0]) 3 16 Try.underlying87 HI.out HZ0.out HZ1.out HZ2.out rfl (by decide) _ _ _ rfl (W2.out.alloc _) ⟨w2.heap.size, 0, none⟩ 1 1 (T3.cells ⟨f k, kind, k⟩) rfl rfl (news_new w2 #[.int .u64 (f k), .int .u8 kind, .int .u8 k] 83) (by simp [T3.cells, Value.oneCell']) (by unfold maxLen; simp; omega) (by simp; omega) (by simp; have := Z2.out; omega) ?_); intro v' w3 hown3 hgrow _; obtain ⟨oa3, cap3, rfl⟩ := own_slice hown3; have g3 : Hid (w3.heap[bo]? = w2.heap[bo]?) := Lib.hid ((hgrow.block bo (by simp; omega) (fun e => by have := (W2.out.lt bo e.symm).1; omega)).trans (heap_alloc_old w2 _ vlt)); have x0 : w3.cell? ⟨bo, 0, none⟩ = some v := ((cell_of_row _ _ _ _ _ _ (g3.out.trans V2.out)).trans rfl); have x1 : w3.frozen? ⟨bo, 0, none⟩ = false := frozen_of_row _ _ _ _ _ (g3.out.trans V2.out); have H3 := Lib.hid hown3; have B3 := Lib.hid ((B2.out.alloc (by omega) (.cells #[.int .u64 (f k), .int .u8 kind, .int .u8 k] 83)).grown hgrow (by simp; omega) (fun j e => by have := (W2.out.lt j e).1; omega)); clear hown3 hgrow)
        have B4 := Lib.hid (B3.out.setCell (p := ⟨bo, 0, none⟩) (Nat.le_refl _) (.slice oa3 ((l ++ putL s kind f k).length + 1) cap3))
        have O4 := Lib.hid (O2.out.appended V2.out hbo H3.out g3.out)
        have Z4 : Hid (base ≤ (w3.setCell ⟨bo, 0, none⟩ (.slice oa3 ((l ++ putL s kind f k).length + 1) cap3)).heap.size) := Lib.hid (by have := B3.out.size; have := Z2.out; have := hz; simp; omega)
        simp only [List.length_append] at B4 O4 Z4
        go_roundg (gk - 1)
        case measure => omega
        case rel =>
          refine ⟨k + 1, by omega, by go_num, ?_, B4.out, Z4.out⟩
          rw [putL, if_pos HH.out, ← List.append_assoc]
          exact O4.out
      · have HH := Lib.hid hh
        by_cases hs1 : (s.sp k).has = true
        · have hf : f k = 0 := by rcases Classical.not_and_iff_not_or_not.1 HH.out with h | h; exact absurd hs1 h; simpa using h
          rw [hs1] at q0
          have HF := Lib.hid hf
          rw [hf]
          clear hf hh hs1
          go_wp2_with fail
          go_roundg (gk - 1)
          case measure => omega
          case rel => exact ⟨k + 1, by omega, by go_num, by rw [putL_no s kind f k HH.out]; exact O2.out, B2.out, by have := Z2.out; omega⟩
        · rw [show (s.sp k).has = false by simpa using hs1] at q0
          clear hs1 hh
          go_wp2_with fail
          go_roundg (gk - 1)
          case measure => omega
          case rel => exact ⟨k + 1, by omega, by go_num, by rw [putL_no s kind f k HH.out]; exact O2.out, B2.out, by have := Z2.out; omega⟩
    · obtain rfl : k = 3 := by omega
      go_wp2_with fail
      refine bodyPost_ret (results_none rfl _ _ _) rfl ?_
      exact ⟨rfl, OR.out, BR.out⟩
end Go.Proofs.Ytbmfjffccfmhmaa
