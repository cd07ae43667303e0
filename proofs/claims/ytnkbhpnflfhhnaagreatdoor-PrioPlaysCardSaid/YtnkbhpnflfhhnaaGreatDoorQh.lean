import Derived.Test.YtnkbhpnflfhhnaaGreatDoorQg
namespace Go.Proofs.YtnkbhpnflfhhnaaGreatDoor
open Go.ChangeShapes Go.WideShapes Go.ChangeAt Go.RowKit Go.Shelf

theorem Boxes.put {W : World} {bs bsep bsv : Nat} {t : ByteArray} (h : Boxes W bs bsep bsv t) (l : Nat) (o : Obj) (h1 : bs < l) (h2 : bsep < l) (h3 : bsv < l) : Boxes (W.putObj l o) bs bsep bsv t :=
  ⟨(World.putObj_heap_other (by omega)).trans h.1, (World.putObj_heap_other (by omega)).trans h.2.1, (World.putObj_heap_other (by omega)).trans h.2.2⟩
theorem Boxes.alloc {W : World} {bs bsep bsv : Nat} {t : ByteArray} (h : Boxes W bs bsep bsv t) (o : Obj) : Boxes (W.alloc o) bs bsep bsv t :=
  ⟨(Below.heap_alloc W _ _ (lt_of_block h.1)).trans h.1, (Below.heap_alloc W _ _ (lt_of_block h.2.1)).trans h.2.1, (Below.heap_alloc W _ _ (lt_of_block h.2.2)).trans h.2.2⟩

/-- How a round over a text's parts may end. -/
def roundPost (bs bsep bsv : Nat) (I Ix : List ByteArray → World → Prop) (ys : List ByteArray) (W : World) : Exit → Act → World → Prop
  | .normal, _, W' => KeepsOthers W W' ∧ (∀ t, Boxes W bs bsep bsv t → Boxes W' bs bsep bsv t) ∧ I ys W'
  | .ret, _, W' => KeepsOthers W W' ∧ Ix ys W'
  | _, _, _ => False

/-- A range over a text's parts: the iterator keeps its own place in a cell of its own. -/
theorem rangeFunc_split {g : Operand} {ps : Array Tmp} {assign body : Code} {Q : Exit → Act → World → Prop} {a : Act} {w : World} (n bs bsep bsv : Nat) (t : ByteArray) (xs : List ByteArray)
    (hg : a.eval g = .func (.func 120) #[] #[.pointer (some ⟨bsep, 0, none⟩), .pointer (some ⟨bs, 0, none⟩), .pointer (some ⟨bsv, 0, none⟩)]) (hps : ps.size = 1) (hne1 : bs ≠ bsep) (hne2 : bs ≠ bsv) (hb : Boxes w bs bsep bsv t) (ht : t.size ≤ 4611686018427387904) (hx : SplitsTo t xs)
    (I Ix : List ByteArray → World → Prop) (hIs : ∀ pre (W : World) v, I pre W → I pre (W.setCell ⟨bs, 0, none⟩ v)) (hIa : ∀ pre (W : World) o, w.heap.size ≤ W.heap.size → I pre W → I pre (W.alloc o)) (hIp : ∀ pre (W : World) l o, w.heap.size ≤ l → l < W.heap.size → I pre W → I pre (W.putObj l o))
    (hXp : ∀ pre (W : World) l o, w.heap.size ≤ l → l < W.heap.size → Ix pre W → Ix pre (W.putObj l o)) (h0 : I [] w) (a₁ : ByteArray → Act)
    (hassign : ∀ (l : Nat) (x : ByteArray) (W : World) (K : Act → World → Prop), K (a₁ x) W →
      assign.wpIn (Fence.wide.inRound l) (n - 1 - 1) Tryz.prog (Exit.then K (fun _ _ _ => False)) { tmps := (ps.zip #[Value.string x]).foldl (fun t (p, v) => t.setIfInBounds p v) a.tmps, defers := [] } W)
    (hbody : ∀ (l : Nat) (pre : List ByteArray) (x : ByteArray) (rest : List ByteArray) (W : World), xs = pre ++ x :: rest → I pre W → body.wpIn (Fence.wide.inRound l) (n - 1 - 1) Tryz.prog (roundPost bs bsep bsv I Ix (pre ++ [x]) W) (a₁ x) W)
    (hdone : ∀ (D : Nat) (W : World), w.heap.size ≤ D → I xs W → W.heap[D]? = some (.deferred (some [])) → Q .normal { a with defers := { target := .collected D, args := #[] } :: a.defers } W)
    (hstop : ∀ (D : Nat) (pre : List ByteArray) (W : World), w.heap.size ≤ D → Ix pre W → W.heap[D]? = some (.deferred (some [])) → Code.ret.wpIn Fence.wide n Tryz.prog Q { a with defers := { target := .collected D, args := #[] } :: a.defers } W) :
    (Code.rangeFunc g ps assign body).wpIn Fence.wide n Tryz.prog Q a w := by
  have l1 := lt_of_block hb.1
  have l2 := lt_of_block hb.2.1
  have l3 := lt_of_block hb.2.2
  refine wpIn_rangeFunc ?_
  intro fn hfn
  obtain ⟨rec, hrec⟩ : ∃ rec : LoopState → Option Code → Loop, rec = fun st pe => { state := st, pending := pe, fn, tmps := a.tmps, params := ps, assign, body, defers := w.heap.size } := ⟨_, rfl⟩
  obtain ⟨W1, hW1⟩ : ∃ W1, (w.alloc (.deferred (some []))).alloc (.loop (rec .ready none)) = W1 := ⟨_, rfl⟩
  have hL : W1.heap[w.heap.size + 1]? = some (.loop (rec .ready none)) := by
    rw [← hW1]; have := World.alloc_heap_new (w.alloc (.deferred (some []))) (.loop (rec .ready none)); rwa [World.size_alloc] at this
  have hK : W1.heap[w.heap.size]? = some (.deferred (some [])) := by
    rw [← hW1]; exact (Below.heap_alloc _ _ _ (by simp)).trans (World.alloc_heap_new w _)
  have hI1 : I [] W1 := by rw [← hW1]; exact hIa _ _ _ (by simp) (hIa _ _ _ (Nat.le_refl _) h0)
  have hB1 : Boxes W1 bs bsep bsv t := by rw [← hW1]; exact (hb.alloc _).alloc _
  refine ⟨w.heap.size + 1, [{ target := .collected w.heap.size, args := #[] }], W1, { target := .fn (.func 120) #[.pointer (some ⟨bsep, 0, none⟩), .pointer (some ⟨bs, 0, none⟩), .pointer (some ⟨bsv, 0, none⟩)], args := #[.func (.yield (w.heap.size + 1)) #[] #[]] }, W1, 120,
    #[.func (.yield (w.heap.size + 1)) #[] #[], .pointer (some ⟨bsep, 0, none⟩), .pointer (some ⟨bs, 0, none⟩), .pointer (some ⟨bsv, 0, none⟩)], W1, ?_, ?_, fun _ _ => trivial, ?_, (fun h => by cases h), ?_⟩
  · rw [← hW1, hrec]; exact run_enterLoop_outer _ _ _ _ _
  · simp only [resolve, hg]
    simp [go_sem]
  · simp [invoke, go_sem]
  have hset : ∀ (W : World) v l, l < W.heap.size → bs ≠ l → (W.setCell ⟨bs, 0, none⟩ v).heap[l]? = W.heap[l]? := fun W v l h hn => (grownBy_set W bs 0 v).block l h (fun e => hn (Option.some.inj e).symm)
  refine (split_iter (n - 1) bs bsep bsv hne1 hne2 t xs
    (fun pre W => I pre W ∧ W.heap[w.heap.size + 1]? = some (.loop (rec .ready none)) ∧ W.heap[w.heap.size]? = some (.deferred (some [])))
    (fun pre W => Ix pre W ∧ W.heap[w.heap.size + 1]? = some (.loop (rec .done (some .ret))) ∧ W.heap[w.heap.size]? = some (.deferred (some [])))
    (w.heap.size + 1) W1 hB1 ht hx ?_ ?_ ⟨hI1, hL, hK⟩).mono ?_
  · rintro pre W v ⟨h1, h2, h3⟩
    have k2 := (Array.getElem?_eq_some_iff.1 h2).1
    exact ⟨hIs _ _ _ h1, (hset W v _ k2 (by omega)).trans h2, (hset W v _ (by omega) (by omega)).trans h3⟩
  · rintro pre x rest W hxs ⟨hi, hl, hk⟩
    have hlt : w.heap.size + 1 < W.heap.size := (Array.getElem?_eq_some_iff.1 hl).1
    have hy := run_yield (P := Tryz.prog) (args := #[Value.string x]) hl (by rw [hrec]; exact hps.symm)
    rw [hrec] at hy
    refine ⟨fn, _, assign, body, hy, roundIn_of_wpIn hfn (hassign _ x W _ ⟨_, run_beginRound hl (by rw [hrec]), ?_⟩)⟩
    have hl2 : (W.putObj (w.heap.size + 1) (.loop { rec .ready none with state := .busy })).heap[w.heap.size + 1]? = some (.loop { rec .ready none with state := .busy }) := World.putObj_heap_same hlt
    have hk2 : (W.putObj (w.heap.size + 1) (.loop { rec .ready none with state := .busy })).heap[w.heap.size]? = some (.deferred (some [])) := (World.putObj_heap_other (by omega)).trans hk
    refine wpIn_mono (hbody _ pre x rest _ hxs (hIp _ _ _ _ (by omega) hlt hi)) ?_
    rintro e a3 W3 hp
    cases e with
    | normal =>
      obtain ⟨hk3, hb3, hi3⟩ := hp
      have hl3 := hk3.same _ _ hl2 rfl
      have hr := run_endRound (P := Tryz.prog) none hl3
      rw [hrec] at hr hl3
      have hlt3 := (Array.getElem?_eq_some_iff.1 hl3).1
      refine ⟨_, _, hr, .inl ⟨rfl, ⟨hIp _ _ _ _ (by omega) hlt3 hi3, ?_, (World.putObj_heap_other (by omega)).trans (hk3.same _ _ hk2 rfl)⟩, fun t' h' => ?_⟩⟩
      · rw [hrec]; exact World.putObj_heap_same hlt3
      · exact (hb3 t' (h'.put _ _ (by omega) (by omega) (by omega))).put _ _ (by omega) (by omega) (by omega)
    | ret =>
      obtain ⟨hk3, hi3⟩ := hp
      have hl3 := hk3.same _ _ hl2 rfl
      have hr := run_endRound (P := Tryz.prog) (some .ret) hl3
      rw [hrec] at hr hl3
      have hlt3 := (Array.getElem?_eq_some_iff.1 hl3).1
      refine ⟨_, _, hr, .inr ⟨rfl, hXp _ _ _ _ (by omega) hlt3 hi3, ?_, (World.putObj_heap_other (by omega)).trans (hk3.same _ _ hk2 rfl)⟩⟩
      rw [hrec]; exact World.putObj_heap_same hlt3
    | exit id => exact hp.elim
    | goto t => exact hp.elim
    | panic ch => exact hp.elim
    | outgrown => exact hp.elim
  · rintro e W2 ⟨⟨v, rfl⟩, (⟨hi, hl, hk⟩ | ⟨pre, hi, hl, hk⟩)⟩
    · have hlt := (Array.getElem?_eq_some_iff.1 hl).1
      exact ⟨none, _, by have := run_endLoop (P := Tryz.prog) hl (by rw [hrec]; simp); rw [hrec] at this; exact this, hdone _ _ (Nat.le_refl _) (hIp _ _ _ _ (by omega) hlt hi) ((World.putObj_heap_other (by omega)).trans hk)⟩
    · have hlt := (Array.getElem?_eq_some_iff.1 hl).1
      exact ⟨some .ret, _, by have := run_endLoop (P := Tryz.prog) hl (by rw [hrec]; simp); rw [hrec] at this; exact this, hstop _ pre _ (Nat.le_refl _) (hXp _ _ _ _ (by omega) hlt hi) ((World.putObj_heap_other (by omega)).trans hk)⟩
end Go.Proofs.YtnkbhpnflfhhnaaGreatDoor
