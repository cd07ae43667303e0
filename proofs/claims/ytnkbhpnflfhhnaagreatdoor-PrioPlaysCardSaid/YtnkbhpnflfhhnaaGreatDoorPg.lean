import Derived.Test.YtnkbhpnflfhhnaaGreatDoorPf
namespace Go.Proofs.YtnkbhpnflfhhnaaGreatDoor
open Go.ChangeShapes Go.WideShapes Go.ChangeAt Go.RowKit

theorem insert_any (B : Nat) (w : World) (v : Value) (n i : Nat) (L news : List Value) (ge : Nat) (hown : w.ownsRow B 106 5 v n L) (hB : B ≤ w.heap.size) (hn : n ≤ 256) (hi : i ≤ n)
    (hg : w.heap[ge]? = some (.cells news.toArray 106 (0, 0))) (hge : v.ownBlock ≠ some ge) (hl : news.length = 5) (h1 : ∀ u ∈ news, u.oneCell' = true) (h1L : ∀ u ∈ L, u.oneCell' = true) :
    Calls Tryz.prog 51 #[v, .int .i64 i, .slice (some ⟨ge, 0, none⟩) 1 1] w (InsertDoes B w v n i L news) := by
  rcases Nat.lt_or_ge i n with h | h
  · have hown2 := hown
    rcases hown.2 with ⟨rfl, rfl⟩ | ⟨g, cap, cur, rfl, hbg, hgg, hnc, hcm, hcs, htake⟩
    · omega
    · rcases Nat.lt_or_ge n cap with hc | hc
      · exact insert_room B w g n cap i L news ge hown2 hn h hc hg (fun e => hge (by rw [e]; rfl)) hl h1 h1L
      · obtain rfl : cap = n := by omega
        exact insert_grow B w g cap i L news ge hown2 hB hn h hg hl h1 h1L
  · obtain rfl : i = n := by omega
    exact insert_end B w v i L news ge hown hB hn hg hl h1

/-- The cells of streams, one behind another. -/
def rowOf (xs : List St) : List Value := xs.flatMap St.cells
theorem rowOf_length (xs : List St) : (rowOf xs).length = xs.length * 5 := by
  induction xs with
  | nil => rfl
  | cons x xs ih => show (x.cells ++ rowOf xs).length = _; rw [List.length_append, ih, List.length_cons, show x.cells.length = 5 from rfl]; omega
theorem rowOf_append (xs ys : List St) : rowOf (xs ++ ys) = rowOf xs ++ rowOf ys := by simp [rowOf]
theorem rowOf_take (xs : List St) : ∀ i, (rowOf xs).take (i * 5) = rowOf (xs.take i) := by
  induction xs with
  | nil => intro i; simp [rowOf]
  | cons x xs ih =>
    intro i
    cases i with
    | zero => simp [rowOf]
    | succ i =>
      show (x.cells ++ rowOf xs).take ((i + 1) * 5) = x.cells ++ rowOf (xs.take i)
      rw [← ih i, List.take_append, show x.cells.length = 5 from rfl, List.take_of_length_le (by show 5 ≤ (i + 1) * 5; omega), show (i + 1) * 5 - 5 = i * 5 from by omega]
theorem rowOf_drop (xs : List St) : ∀ i, (rowOf xs).drop (i * 5) = rowOf (xs.drop i) := by
  induction xs with
  | nil => intro i; simp [rowOf]
  | cons x xs ih =>
    intro i
    cases i with
    | zero => simp [rowOf]
    | succ i =>
      show (x.cells ++ rowOf xs).drop ((i + 1) * 5) = rowOf (xs.drop i)
      rw [← ih i, List.drop_append, show x.cells.length = 5 from rfl, List.drop_of_length_le (by show 5 ≤ (i + 1) * 5; omega), show (i + 1) * 5 - 5 = i * 5 from by omega, List.nil_append]
theorem rowOf_get (xs : List St) (i j : Nat) (hi : i < xs.length) (hj : j < 5) : (rowOf xs)[i * 5 + j]? = xs[i].cells[j]? := by
  have h := rowOf_drop xs i
  rw [← List.getElem?_drop, h, List.drop_eq_getElem_cons hi]
  show (xs[i].cells ++ rowOf _)[j]? = _
  rw [List.getElem?_append_left (by show j < 5; exact hj)]
theorem rowOf_set (xs : List St) (i j : Nat) (hi : i < xs.length) (hj : j < 5) (u : Value) (y : St) (hy : y.cells = xs[i].cells.set j u) : (rowOf xs).set (i * 5 + j) u = rowOf (xs.set i y) := by
  have e : xs = xs.take i ++ xs[i] :: xs.drop (i + 1) := by simp
  have hli : (xs.take i).length = i := by simp; omega
  have e2 : xs.set i y = xs.take i ++ y :: xs.drop (i + 1) := by
    conv => lhs; rw [e]
    rw [List.set_append, if_neg (by omega), hli, Nat.sub_self]
    rfl
  rw [e2]
  conv => lhs; rw [e]
  rw [rowOf_append, rowOf_append]
  have hl5 : (rowOf (xs.take i)).length = i * 5 := by rw [rowOf_length, hli]
  rw [List.set_append, if_neg (by omega), hl5, show i * 5 + j - i * 5 = j from by omega]
  congr 1
  show (xs[i].cells ++ rowOf (xs.drop (i + 1))).set j u = y.cells ++ rowOf (xs.drop (i + 1))
  rw [List.set_append, if_pos (by show j < 5; exact hj), hy]
theorem rowOf_one (xs : List St) : ∀ u ∈ rowOf xs, u.oneCell' = true := by
  intro u hu
  obtain ⟨s, -, hs⟩ := List.mem_flatMap.1 hu
  simp [St.cells] at hs
  rcases hs with rfl | rfl | rfl | rfl | rfl <;> rfl

/-- The plan at block b, all of it in blocks from B on. -/
structure PlanAt (B : Nat) (w : World) (b : Nat) (v : Value) (xs : List St) (clk : Int) : Prop where
  blk : w.heap[b]? = some (.cells #[v, .int .u64 clk] 109 (0, 0))
  own : w.ownsRow B 106 5 v xs.length (rowOf xs)
  base : B ≤ b
  len : xs.length ≤ 256

theorem PlanAt.read {B : Nat} {w : World} {b : Nat} {v : Value} {xs : List St} {clk : Int} (h : PlanAt B w b v xs clk) :
    ∃ oa cap, v = .slice oa xs.length cap ∧ xs.length ≤ cap ∧ cap ≤ maxLen ∧ Row w oa xs := by
  rcases h.own.2 with ⟨rfl, h0⟩ | ⟨g, cap, cur, rfl, hbg, hgg, hnc, hcm, hcs, htake⟩
  · have := List.eq_nil_of_length_eq_zero h0
    subst this
    exact ⟨none, 0, rfl, by simp, by simp, fun i hi => by simp at hi⟩
  · refine ⟨_, cap, rfl, hnc, hcm, fun i hi => ⟨g, 0, rfl, ?_⟩⟩
    have hc : ∀ j, j < 5 → w.cell? ⟨g, 0 + i * 5 + j, none⟩ = xs[i].cells[j]? := by
      intro j hj
      rw [Nat.zero_add, h.own.cellAt (i * 5 + j) (by omega), rowOf_get xs i j hi hj]
    exact ⟨hc 0 (by omega), hc 1 (by omega), hc 2 (by omega), hc 3 (by omega), hc 4 (by omega)⟩

/-- What a call of a plan's leaves as it was: all blocks below B, and all that are no plan's and no row of streams. -/
structure Keeps (B : Nat) (w w' : World) : Prop where
  os : w'.os = w.os
  tape : w'.tape = w.tape
  output : w'.output = w.output
  size : w.heap.size ≤ w'.heap.size
  block : ∀ k, k < w.heap.size → (k < B ∨ ∀ cs t fr, w.heap[k]? = some (.cells cs t fr) → t ≠ 106 ∧ t ≠ 109) → w'.heap[k]? = w.heap[k]?

theorem Keeps.refl (B : Nat) (w : World) : Keeps B w w := ⟨rfl, rfl, rfl, Nat.le_refl _, fun _ _ _ => rfl⟩
theorem Keeps.trans {B : Nat} {a b c : World} (h : Keeps B a b) (k : Keeps B b c) : Keeps B a c :=
  ⟨k.os.trans h.os, k.tape.trans h.tape, k.output.trans h.output, Nat.le_trans h.size k.size, fun i hi hc => by
    have h1 := h.block i hi hc
    rw [k.block i (Nat.lt_of_lt_of_le hi h.size) (by rw [h1]; exact hc), h1]⟩
theorem Keeps.of_below {B : Nat} {w w' : World} (h : Below w.heap.size w w') : Keeps B w w' := ⟨h.os, h.tape, h.output, h.size, fun k hk _ => h.block k hk⟩
theorem Keeps.below {B : Nat} {w w' : World} (h : Keeps B w w') (hB : B ≤ w.heap.size) : Below B w w' := ⟨h.os, h.tape, h.output, h.size, fun k hk => h.block k (by omega) (.inl hk)⟩
theorem Keeps.of_grown {B : Nat} {w w' : World} {k : Nat} {cs : Array Value} {t : TypeId} {fr : Nat × Nat} (h : w.grownBy w' (some k)) (hB : B ≤ k) (hk : w.heap[k]? = some (.cells cs t fr)) (ht : t = 106 ∨ t = 109) : Keeps B w w' :=
  ⟨h.os, h.tape, h.output, h.size, fun i hi hc => h.block i hi (fun e => by
    cases e
    rcases hc with hc | hc
    · omega
    · have := hc cs t fr hk; rcases ht with rfl | rfl <;> simp_all)⟩
theorem Keeps.of_none {B : Nat} {w w' : World} (h : w.grownBy w' none) : Keeps B w w' := ⟨h.os, h.tape, h.output, h.size, fun i hi _ => h.block i hi (by simp)⟩

/-- A plan lies apart from its row. -/
theorem PlanAt.apart {B : Nat} {w : World} {b : Nat} {v : Value} {xs : List St} {clk : Int} (h : PlanAt B w b v xs clk) : v.ownBlock ≠ some b := by
  rcases h.own.2 with ⟨rfl, -⟩ | ⟨g, cap, cur, rfl, hbg, hgg, -⟩
  · simp [Value.ownBlock]
  · intro e
    simp [Value.ownBlock] at e
    subst e
    rw [h.blk] at hgg
    simp at hgg

theorem PlanAt.below {B : Nat} {w w' : World} {b : Nat} {v : Value} {xs : List St} {clk : Int} (h : PlanAt B w b v xs clk) (hb : Below w.heap.size w w') : PlanAt B w' b v xs clk := by
  refine ⟨(hb.block b (lt_of_block h.blk)).trans h.blk, ?_, h.base, h.len⟩
  exact h.own.kept (w' := w') (row := none) ⟨hb.os, hb.tape, hb.output, hb.size, fun k hk _ => hb.block k hk⟩ (by cases v.ownBlock <;> simp)

theorem len_any (B b : Nat) (v : Value) (xs : List St) (clk : Int) (w : World) (h : PlanAt B w b v xs clk) : Calls Tryz.prog 24 #[.pointer (some ⟨b, 0, none⟩)] w (Gives w (.int .i64 xs.length)) := by
  obtain ⟨oa, cap, rfl, h1, h2, hx⟩ := h.read
  have c0 : w.cell? ⟨b, 0, none⟩ = some (.slice oa xs.length cap) := by simp [World.cell?, h.blk]
  clear h hx
  go_enter Tryz.func24, Tryz.ntmps24
  go_wp2
  go_ret
  exact ⟨rfl, Below.refl _ _⟩
theorem len_nil (w : World) : Calls Tryz.prog 24 #[.pointer none] w (Gives w (.int .i64 0)) := by
  go_enter Tryz.func24, Tryz.ntmps24
  go_wp2
  go_ret
  exact ⟨rfl, Below.refl _ _⟩
end Go.Proofs.YtnkbhpnflfhhnaaGreatDoor
