import Derived.Test.YtnkbhpnflfhhnaaGreatDoorQh
namespace Go.Proofs.YtnkbhpnflfhhnaaGreatDoor
open Go.ChangeShapes Go.WideShapes Go.ChangeAt Go.RowKit Go.Shelf
attribute [local go_sem] Oper.semAt_some

def foldParts (f : ByteArray → Int × Bool → Option (Int × Bool)) : List ByteArray → Int × Bool → Option (Int × Bool)
  | [], s => some s
  | x :: xs, s => match f x s with | none => none | some s' => foldParts f xs s'

theorem default_any (w : World) : Calls Tryz.prog 16 #[] w (Gives w (.agg #[.int .u8 3, .bool false])) := by
  go_enter Tryz.func16, Tryz.ntmps16
  go_wp2
  exact bodyPost_ret (v := .agg #[.int .u8 3, .bool false]) (by simp [results, Tryz.results16, go_sem]) rfl ⟨rfl, (Below.refl _ _).alloc (Nat.le_refl _) _⟩

theorem foldParts_snoc (f : ByteArray → Int × Bool → Option (Int × Bool)) (x : ByteArray) : ∀ (xs : List ByteArray) (s : Int × Bool), foldParts f (xs ++ [x]) s = (foldParts f xs s).bind (f x)
  | [], s => by
    show (match f x s with | none => none | some s' => foldParts f [] s') = f x s
    cases f x s <;> rfl
  | y :: ys, s => by
    show (match f y s with | none => none | some s' => foldParts f (ys ++ [x]) s') = (match f y s with | none => none | some s' => foldParts f ys s').bind (f x)
    cases f y s with
    | none => rfl
    | some s' => exact foldParts_snoc f x ys s'
theorem foldParts_none (f : ByteArray → Int × Bool → Option (Int × Bool)) : ∀ (xs ys : List ByteArray) (s : Int × Bool), foldParts f xs s = none → foldParts f (xs ++ ys) s = none
  | [], ys, s, h => by simp [foldParts] at h
  | x :: xs, ys, s, h => by
    simp only [List.cons_append, foldParts] at h ⊢
    cases hx : f x s with
    | none => rfl
    | some s' => rw [hx] at h; exact foldParts_none f xs ys s' h

/-- What a round of Parse finds. -/
def ParseI (f : ByteArray → Int × Bool → Option (Int × Bool)) (w : World) (pb : Nat) (pre : List ByteArray) (W : World) : Prop :=
  ∃ u i, foldParts f pre (3, false) = some (u, i) ∧ PriAt W pb u i ∧ PriAt W w.heap.size 0 false ∧ W.heap[w.heap.size + 1]? = some (.cells #[.int .i64 0] 25 (0, 0)) ∧ Below w.heap.size w W
def ParseX (f : ByteArray → Int × Bool → Option (Int × Bool)) (xs : List ByteArray) (w : World) (pre : List ByteArray) (W : World) : Prop :=
  (foldParts f pre (3, false) = none ∧ ∃ rest, xs = pre ++ rest) ∧ PriAt W w.heap.size 0 false ∧ W.heap[w.heap.size + 1]? = some (.cells #[.int .i64 2] 25 (0, 0)) ∧ Below w.heap.size w W

theorem block_set {W : World} {b k : Nat} {v : Value} {j : Nat} {o : Obj} (h : W.heap[k]? = some o) (hn : b ≠ k) : (W.setCell ⟨b, j, none⟩ v).heap[k]? = some o :=
  ((grownBy_set W b j v).block k (Array.getElem?_eq_some_iff.1 h).1 (fun e => hn (Option.some.inj e).symm)).trans h
theorem block_put {W : World} {l k : Nat} {o o' : Obj} (h : W.heap[k]? = some o) (hn : k ≠ l) : (W.putObj l o').heap[k]? = some o := (World.putObj_heap_other (fun e => hn e)).trans h
theorem block_alloc {W : World} {k : Nat} {o o' : Obj} (h : W.heap[k]? = some o) : (W.alloc o').heap[k]? = some o := (Below.heap_alloc W _ _ (Array.getElem?_eq_some_iff.1 h).1).trans h
theorem below_put {n : Nat} {w W : World} (l : Nat) (o : Obj) (h : Below n w W) (hl : n ≤ l) (hW : n ≤ W.heap.size) : Below n w (W.putObj l o) :=
  h.trans (by
    by_cases hn : n ≤ W.heap.size
    · exact (Below.refl n W).grown (grownBy_putObj' W l o) hn (fun k e => by cases e; exact hl)
    · exact absurd hW hn)

theorem pri_cells {W : World} {b : Nat} {u : Int} {i : Bool} (h : PriAt W b u i) : W.cell? ⟨b, 0, none⟩ = some (.int .u8 u) ∧ W.cell? ⟨b, 1, none⟩ = some (.bool i) ∧ W.frozen? ⟨b, 0, none⟩ = false ∧ W.frozen? ⟨b, 1, none⟩ = false := by
  unfold PriAt at h
  simp [World.cell?, World.frozen?, h]
theorem errno_cells {W : World} {b : Nat} {e : Int} (h : W.heap[b]? = some (.cells #[.int .i64 e] 25 (0, 0))) : W.cell? ⟨b, 0, none⟩ = some (.int .i64 e) ∧ W.frozen? ⟨b, 0, none⟩ = false := by
  simp [World.cell?, World.frozen?, h]

theorem pri_set {W : World} {b : Nat} {u : Int} {i : Bool} (h : PriAt W b u i) (u' : Int) (i' : Bool) : PriAt ((W.setCell ⟨b, 0, none⟩ (.int .u8 u')).setCell ⟨b, 1, none⟩ (.bool i')) b u' i' := by
  have := blk_set (blk_set h 0 (.int .u8 u')) 1 (.bool i')
  exact this
theorem errno_set {W : World} {b : Nat} {e : Int} (h : W.heap[b]? = some (.cells #[.int .i64 e] 25 (0, 0))) (e' : Int) : (W.setCell ⟨b, 0, none⟩ (.int .i64 e')).heap[b]? = some (.cells #[.int .i64 e'] 25 (0, 0)) := by
  have := blk_set h 0 (.int .i64 e')
  exact this

theorem results_parse (tmps : Array Value) (W : World) (a b : Nat) (u e : Int) (i : Bool) (h2 : tmps[2]? = some (.pointer (some ⟨a, 0, none⟩))) (h3 : tmps[3]? = some (.pointer (some ⟨b, 0, none⟩)))
    (c0 : W.cell? ⟨a, 0, none⟩ = some (.int .u8 u)) (c1 : W.cell? ⟨a, 1, none⟩ = some (.bool i)) (d0 : W.cell? ⟨b, 0, none⟩ = some (.int .i64 e)) :
    (results Tryz.f17 tmps).run Tryz.prog W = .ok (.tuple #[.agg #[.int .u8 u, .bool i], .int .i64 e]) W := by
  simp [results, Tryz.results17, go_sem, h2, h3, c0, c1, d0]

def parsed (r : Option (Int × Bool)) : Value := match r with
  | some (u, i) => .tuple #[.agg #[.int .u8 u, .bool i], .int .i64 0]
  | none => .tuple #[.agg #[.int .u8 0, .bool false], .int .i64 2]

set_option maxRecDepth 100000 in
theorem parse_gen (s t : ByteArray) (hs : s.size ≤ 4611686018427387904) (htr : (⟨(Lib.trimB s.data.toList 32).toArray⟩ : ByteArray) = t) (hne : t.toList.isEmpty = false) (xs : List ByteArray) (hx : SplitsTo s xs) (f : ByteArray → Int × Bool → Option (Int × Bool))
    (hf : ∀ x ∈ xs, ∀ pb u i w, PriAt w pb u i → Calls Tryz.prog 48 #[.pointer (some ⟨pb, 0, none⟩), .string x] w (PartDoes w pb (f x (u, i)))) (w : World) :
    Calls Tryz.prog 17 #[.string s] w (Gives w (parsed (foldParts f xs (3, false)))) := by
  have HF := Lib.hid hf
  have HX := Lib.hid hx
  clear hf hx
  refine (callsIn_wide (n := 9)).1 ?_
  refine callsIn_of_wp_marks Tryz.func17 rfl trivial ?_ rfl
  simp only [Tryz.ntmps17, List.size_toArray, List.length_cons, List.length_nil, Nat.reduceAdd, Nat.reduceSub, Array.replicate_succ, Array.replicate_zero, List.push_toArray, List.append_toArray, List.nil_append, List.cons_append]
  gi_wp2_with fail
  refine ⟨trivial, ?_⟩
  refine (callsIn_wide.2 (default_any _)).mono ?_
  rintro e w1 ⟨rfl, hb1⟩
  have r2 : w1.heap[w.heap.size]? = some (.cells #[.int .u8 0, .bool false] 42 (0, 0)) := by
    rw [hb1.block _ (by simp; omega), Below.heap_alloc _ _ _ (by simp)]
    exact World.alloc_heap_new w _
  have r3 : w1.heap[w.heap.size + 1]? = some (.cells #[.int .i64 0] 25 (0, 0)) := by
    rw [hb1.block _ (by simp)]
    have := World.alloc_heap_new (w.alloc (.cells #[.int .u8 0, .bool false] 42)) (.cells #[.int .i64 0] 25)
    rwa [World.size_alloc] at this
  have b1 : Below w.heap.size w w1 := (((Below.refl _ w).alloc (Nat.le_refl _) _).alloc (by simp) _).trans (hb1.mono (by simp; omega))
  have s1 : w.heap.size + 2 ≤ w1.heap.size := Nat.le_trans (by simp) hb1.size
  have R2 := Lib.hid r2
  have R3 := Lib.hid r3
  have B1 := Lib.hid b1
  clear hb1 r2 r3 b1
  gi_wp2_with fail
  refine ⟨trivial, ?_⟩
  refine (callsIn_wide.2 (trim_sp s (by omega) _)).mono ?_
  rw [htr]
  rintro e w2 ⟨rfl, hb2⟩
  have H2 := Lib.hid hb2
  clear hb2
  gi_wp2_with fail
  refine ⟨trivial, ?_⟩
  refine (callsIn_wide.2 (SplitSeq_makes s ⟨#[44]⟩ _)).mono ?_
  rintro e w3 ⟨rfl, hw3⟩
  have H3 := Lib.hid hw3
  clear hw3
  gi_wp2_with fail
  have b2 : Below w.heap.size w w2 := B1.out.trans (((Below.refl _ w1).alloc (by omega) _).trans (H2.out.mono (by simp; omega)))
  have s2 : w1.heap.size + 1 ≤ w2.heap.size := Nat.le_trans (by simp) H2.out.size
  have q2 : w3.heap[w.heap.size]? = some (.cells #[.int .u8 0, .bool false] 42 (0, 0)) := by
    rw [H3.out]; exact block_alloc (block_alloc (block_alloc ((H2.out.block _ (by simp; omega)).trans (block_alloc R2.out))))
  have q3 : w3.heap[w.heap.size + 1]? = some (.cells #[.int .i64 0] 25 (0, 0)) := by
    rw [H3.out]; exact block_alloc (block_alloc (block_alloc ((H2.out.block _ (by simp; omega)).trans (block_alloc R3.out))))
  have q4 : PriAt w3 w1.heap.size 3 false := by
    unfold PriAt
    rw [H3.out]; exact block_alloc (block_alloc (block_alloc ((H2.out.block _ (by simp)).trans (World.alloc_heap_new w1 _))))
  have hsz3 : w3.heap.size = w2.heap.size + 3 := by rw [H3.out]; simp
  have bx : Boxes w3 w2.heap.size (w2.heap.size + 1) (w2.heap.size + 2) s := by
    rw [H3.out]
    refine ⟨?_, block_alloc (block_alloc (World.alloc_heap_new w2 _)), ?_⟩
    · have := World.alloc_heap_new (w2.alloc (.cells #[.string s] 9)) (.cells #[.string ⟨#[44]⟩] 9)
      rw [World.size_alloc] at this
      exact block_alloc this
    · have := World.alloc_heap_new ((w2.alloc (.cells #[.string s] 9)).alloc (.cells #[.string ⟨#[44]⟩] 9)) (.cells #[.int .i64 0] 3)
      rwa [World.size_alloc, World.size_alloc] at this
  have b3 : Below w.heap.size w w3 := by rw [H3.out]; exact ((b2.alloc (by omega) _).alloc (by simp; omega) _).alloc (by simp; omega) _
  have hs3 : w1.heap.size + 4 ≤ w3.heap.size := by omega
  obtain ⟨bs, hbs⟩ : ∃ bs, bs = w2.heap.size := ⟨_, rfl⟩
  rw [← hbs] at bx hsz3 s2 ⊢
  clear H3 H2 R2 R3 B1 b2 hbs
  refine rangeFunc_split 9 bs (bs + 1) (bs + 2) s xs rfl rfl (by omega) (by omega) bx hs HX.out (ParseI f w w1.heap.size) (ParseX f xs w) ?_ ?_ ?_ ?_ ⟨3, false, rfl, q4, q2, q3, b3⟩
    (fun x => { tmps := #[.string s, undef, .pointer (some ⟨w.heap.size, 0, none⟩), .pointer (some ⟨w.heap.size + 1, 0, none⟩), .pointer (some ⟨w1.heap.size, 0, none⟩), .string x, .agg #[.int .u8 3, .bool false], .string s, .string t, .bool false, undef, .string s,
      .func (.func 120) #[] #[.pointer (some ⟨bs + 1, 0, none⟩), .pointer (some ⟨bs, 0, none⟩), .pointer (some ⟨bs + 2, 0, none⟩)], .string x, undef, undef, undef, undef, undef], defers := [] }) ?assign ?body ?done ?stop
  · rintro pre W v ⟨u, i, h1, h2, h3, h4, h5⟩
    exact ⟨u, i, h1, block_set h2 (by omega), block_set h3 (by omega), block_set h4 (by omega), h5.setCell (p := ⟨bs, 0, none⟩) (by show w.heap.size ≤ bs; omega) _⟩
  · rintro pre W o hle ⟨u, i, h1, h2, h3, h4, h5⟩
    exact ⟨u, i, h1, block_alloc h2, block_alloc h3, block_alloc h4, h5.alloc (by omega) _⟩
  · rintro pre W l o hle hlt ⟨u, i, h1, h2, h3, h4, h5⟩
    exact ⟨u, i, h1, block_put h2 (by omega), block_put h3 (by omega), block_put h4 (by omega), below_put _ _ h5 (by omega) (by omega)⟩
  · rintro pre W l o hle hlt ⟨h1, h3, h4, h5⟩
    exact ⟨h1, block_put h3 (by omega), block_put h4 (by omega), below_put _ _ h5 (by omega) (by omega)⟩
  case assign =>
    intro l x W K hK
    gi_wp2
    exact hK
  case body =>
    rintro l pre x rest W hxs ⟨u, i, h1, h2, h3, h4, h5⟩
    gi_wp2_with fail
    refine ⟨trivial, ?_⟩
    refine (CallsIn.inRound l (callsIn_wide.2 (HF.out x (by rw [hxs]; simp) _ u i W h2))).mono ?_
    rintro e W2 ⟨hpd, hgr⟩
    have g3 : PriAt W2 w.heap.size 0 false := (hgr.block _ (lt_of_block h3) (by intro e; have := Option.some.inj e; omega)).trans h3
    have g4 : W2.heap[w.heap.size + 1]? = some (.cells #[.int .i64 0] 25 (0, 0)) := (hgr.block _ (lt_of_block h4) (by intro e; have := Option.some.inj e; omega)).trans h4
    have hko : KeepsOthers W W2 := KeepsOthers.of_grownBy hgr (fun j o e he => by cases e; rw [show W.heap[w1.heap.size]? = _ from h2] at he; cases he; rfl)
    have g5 : Below w.heap.size w W2 := h5.trans ((Below.refl _ W).grown hgr h5.size (fun k e => by cases e; omega))
    have hbxs : ∀ t, Boxes W bs (bs + 1) (bs + 2) t → Boxes W2 bs (bs + 1) (bs + 2) t := fun t h =>
      ⟨(hgr.block _ (lt_of_block h.1) (by intro e; have := Option.some.inj e; omega)).trans h.1, (hgr.block _ (lt_of_block h.2.1) (by intro e; have := Option.some.inj e; omega)).trans h.2.1, (hgr.block _ (lt_of_block h.2.2) (by intro e; have := Option.some.inj e; omega)).trans h.2.2⟩
    have G3 := Lib.hid g3
    have G4 := Lib.hid g4
    have G5 := Lib.hid g5
    have KO := Lib.hid hko
    have BXS := Lib.hid hbxs
    clear hgr hko g5 hbxs h3 h4 h5
    cases hfx : f x (u, i) with
    | none =>
      rw [hfx] at hpd
      simp only at hpd
      subst hpd
      obtain ⟨c0, c1, f0, f1⟩ := pri_cells g3
      obtain ⟨d0, e0⟩ := errno_cells g4
      clear g3 g4
      gi_wp2_with fail
      refine ⟨KO.out.trans ((KeepsOthers.setCell _ _ _).trans ((KeepsOthers.setCell _ _ _).trans (KeepsOthers.setCell _ _ _))), ⟨by rw [foldParts_snoc, h1]; exact hfx, rest, by rw [hxs]; simp⟩, block_set (pri_set G3.out 0 false) (by omega), errno_set (block_set (block_set G4.out (by omega)) (by omega)) 2, ?_⟩
      exact ((G5.out.setCell (p := ⟨w.heap.size, 0, none⟩) (Nat.le_refl _) _).setCell (p := ⟨w.heap.size, 1, none⟩) (Nat.le_refl _) _).setCell (p := ⟨w.heap.size + 1, 0, none⟩) (Nat.le_succ _) _
    | some r =>
      obtain ⟨u', i'⟩ := r
      rw [hfx] at hpd
      obtain ⟨rfl, hp2⟩ := hpd
      clear g3 g4
      gi_wp2_with fail
      exact ⟨KO.out, BXS.out, u', i', by rw [foldParts_snoc, h1]; exact hfx, hp2, G3.out, G4.out, G5.out⟩
  case done =>
    rintro D W hD ⟨u, i, h1, h2, h3, h4, h5⟩ hK
    obtain ⟨c0, c1, f0, f1⟩ := pri_cells h3
    obtain ⟨d0, e0⟩ := errno_cells h4
    obtain ⟨c2, c3, f2, f3⟩ := pri_cells h2
    have H3 := Lib.hid h3
    have H4 := Lib.hid h4
    have H5 := Lib.hid h5
    have HK := Lib.hid hK
    clear h2 h3 h4 h5 hK
    gi_wp2_with fail
    have hlt := lt_of_block HK.out
    have k2 := block_set (b := w.heap.size + 1) (j := 0) (v := .int .i64 0) (pri_set H3.out u i) (by omega)
    have k3 := errno_set (block_set (b := w.heap.size) (j := 1) (v := .bool i) (block_set (b := w.heap.size) (j := 0) (v := .int .u8 u) H4.out (by omega)) (by omega)) 0
    have k4 := block_set (b := w.heap.size + 1) (j := 0) (v := .int .i64 0) (block_set (b := w.heap.size) (j := 1) (v := .bool i) (block_set (b := w.heap.size) (j := 0) (v := .int .u8 u) HK.out (by omega)) (by omega)) (by omega)
    have k5 := ((H5.out.setCell (p := ⟨w.heap.size, 0, none⟩) (Nat.le_refl _) (.int .u8 u)).setCell (p := ⟨w.heap.size, 1, none⟩) (Nat.le_refl _) (.bool i)).setCell (p := ⟨w.heap.size + 1, 0, none⟩) (Nat.le_succ _) (.int .i64 0)
    refine ⟨by simp, .inl ⟨_, _, rfl, run_takeDeferred k4, ?_⟩⟩
    obtain ⟨c0, c1, -, -⟩ := pri_cells (block_put (l := D) (o' := .deferred none) k2 (by omega))
    obtain ⟨d0, -⟩ := errno_cells (block_put (l := D) (o' := .deferred none) k3 (by omega))
    refine ⟨.tuple #[.agg #[.int .u8 u, .bool i], .int .i64 0], ?_, ?_⟩
    · exact results_parse _ _ _ _ _ _ _ rfl rfl c0 c1 d0
    · exact ⟨by rw [h1]; rfl, below_put _ _ k5 (by omega) (by have h1 := k5.size; omega)⟩
  case stop =>
    rintro D pre W hD ⟨⟨h1, rest, h2⟩, h3, h4, h5⟩ hK
    obtain ⟨c0, c1, f0, f1⟩ := pri_cells h3
    obtain ⟨d0, e0⟩ := errno_cells h4
    have H3 := Lib.hid h3
    have H4 := Lib.hid h4
    have H5 := Lib.hid h5
    have HK := Lib.hid hK
    clear h3 h4 h5 hK
    gi_wp2_with fail
    have hlt := lt_of_block HK.out
    refine ⟨by simp, .inl ⟨_, _, rfl, run_takeDeferred HK.out, ?_⟩⟩
    obtain ⟨c0, c1, -, -⟩ := pri_cells (block_put (l := D) (o' := .deferred none) H3.out (by omega))
    obtain ⟨d0, -⟩ := errno_cells (block_put (l := D) (o' := .deferred none) H4.out (by omega))
    refine ⟨.tuple #[.agg #[.int .u8 0, .bool false], .int .i64 2], ?_, ?_⟩
    · exact results_parse _ _ _ _ _ _ _ rfl rfl c0 c1 d0
    · exact ⟨by rw [h2, foldParts_none _ _ _ _ h1]; rfl, below_put _ _ H5.out (by omega) (by have := H5.out.size; omega)⟩
end Go.Proofs.YtnkbhpnflfhhnaaGreatDoor
