import Derived.Test.YtnkbhpnflfhhnaaGreatDoorRh
import Derived.Test.YtnkbhpnflfhhnaaGreatDoorSb
namespace Go.Proofs.YtnkbhpnflfhhnaaGreatDoor
open Go.ChangeShapes Go.WideShapes Go.ChangeAt Go.RowKit

theorem dropped_nil (r : List St) : dropped r [] = r := by unfold dropped; exact List.filter_eq_self.2 fun s _ => by simp [delB]

/-- Where a script stands in memory: the plan, the document's list. -/
structure Rp (w0 : World) (b : Nat) (v4 : Value) (xs r : List St) (clk : Int) (w : World) : Prop where
  plan : ∃ v, PlanAt w0.heap.size w b v xs clk
  row : w.ownsRow w0.heap.size 62 5 v4 r.length (refOf r)
  bel : Below w0.heap.size w0 w

theorem Rp.gives {w0 w w' : World} {b : Nat} {v4 : Value} {xs r : List St} {clk : Int} (h : Rp w0 b v4 xs r clk w) (hb : Below w.heap.size w w') : Rp w0 b v4 xs r clk w' :=
  ⟨h.plan.imp fun _ h => h.below hb, ref_keeps h.row (Keeps.of_below hb), h.bel.trans (hb.mono h.bel.size)⟩
theorem Rp.does {w0 w w' : World} {b : Nat} {v4 : Value} {xs ys r : List St} {clk clk' : Int} {e : Ending} {x : Value} (h : Rp w0 b v4 xs r clk w) (hd : Does w0.heap.size w b ys clk' x e w') :
    e = .returned x ∧ Rp w0 b v4 ys r clk' w' ∧ Keeps w0.heap.size w w' :=
  ⟨hd.1, ⟨hd.2.1, ref_keeps h.row hd.2.2, h.bel.trans (hd.2.2.below h.bel.size)⟩, hd.2.2⟩

/-- The list's row is written, or another one takes its place. -/
theorem Rp.turn {w0 w w' : World} {b : Nat} {v4 v5 : Value} {xs r r' : List St} {clk : Int} (h : Rp w0 b v4 xs r clk w) (hrow : w'.ownsRow w0.heap.size 62 5 v5 r'.length (refOf r')) (hg : w.grownBy w' v4.ownBlock) : Rp w0 b v5 xs r' clk w' := by
  rcases h.row.2 with ⟨rfl, -⟩ | ⟨g, cap, cur, rfl, hbg, -⟩
  · have hb : Below w.heap.size w w' := ⟨hg.os, hg.tape, hg.output, hg.size, fun k hk => hg.block k hk (by simp [Value.ownBlock])⟩
    exact ⟨h.plan.imp fun _ h => h.below hb, hrow, h.bel.trans (hb.mono h.bel.size)⟩
  · exact ⟨h.plan.imp fun _ hp => plan_row hp h.row hg, hrow, h.bel.grown hg h.bel.size (fun j hj => by simp [Value.ownBlock] at hj; subst hj; exact hbg)⟩

theorem Rp.read {w0 w : World} {b : Nat} {v4 : Value} {xs r : List St} {clk : Int} (h : Rp w0 b v4 xs r clk w) : ∃ oa cap, v4 = .slice oa r.length cap ∧ r.length ≤ cap ∧ cap ≤ maxLen ∧ RefRow w oa r := ref_read h.row

/-- A stream of the list, cell by cell. -/
theorem Rp.at {w0 w : World} {b : Nat} {oa : Option Addr} {n cap : Nat} {xs r : List St} {clk : Int} (h : Rp w0 b (.slice oa n cap) xs r clk w) {i : Nat} (hi : i < r.length) :
    ∃ g, oa = some ⟨g, 0, none⟩ ∧ n = r.length ∧ (w.cell? ⟨g, i * 5, none⟩ = some (.int .u64 r[i].id) ∧ w.cell? ⟨g, i * 5 + 1, none⟩ = some (.int .u8 r[i].urg) ∧ w.cell? ⟨g, i * 5 + 2, none⟩ = some (.bool r[i].inc) ∧
      w.cell? ⟨g, i * 5 + 3, none⟩ = some (.bool r[i].rdy) ∧ w.cell? ⟨g, i * 5 + 4, none⟩ = some (.int .i64 r[i].srv)) ∧ ∀ j, w.frozen? ⟨g, j, none⟩ = false := by
  have hh := h.row
  rcases h.row.2 with ⟨h', h0⟩ | ⟨g, cap', cur, h', hbg, hgg, hnc, hcm, hcs, htake⟩
  · omega
  · simp only [Value.slice.injEq] at h'
    obtain ⟨rfl, rfl, rfl⟩ := h'
    have hc : ∀ j, j < 5 → w.cell? ⟨g, i * 5 + j, none⟩ = r[i].rc[j]? := by
      intro j hj
      rw [hh.cellAt (i * 5 + j) (by omega), refOf_get r i j hi hj]
    exact ⟨g, rfl, rfl, ⟨hc 0 (by omega), hc 1 (by omega), hc 2 (by omega), hc 3 (by omega), hc 4 (by omega)⟩, fun j => by simp [World.frozen?, hgg]⟩

theorem Rp.store {w0 w : World} {b g n cap : Nat} {xs r : List St} {clk : Int} (h : Rp w0 b (.slice (some ⟨g, 0, none⟩) n cap) xs r clk w) (hn : n = r.length) (i j : Nat) (hi : i < r.length) (hj : j < 5) (u : Value) (y : St) (hy : y.rc = r[i].rc.set j u) :
    Rp w0 b (.slice (some ⟨g, 0, none⟩) n cap) xs (r.set i y) clk (w.setCell ⟨g, i * 5 + j, none⟩ u) := by
  subst hn
  obtain ⟨h1, h2⟩ := h.row.stored (i * 5 + j) u
  rw [refOf_set r i j hi hj u y hy] at h1
  exact h.turn (by simpa using h1) h2
theorem Rp.drew {w0 w : World} {b : Nat} {v4 : Value} {xs r : List St} {clk : Int} (h : Rp w0 b v4 xs r clk w) : Rp w0 b v4 xs r clk w.drew :=
  ⟨h.plan.imp fun _ h => h.drew, h.row, h.bel.drew⟩
theorem info62 : (Tryz.prog.info? 62).map (fun i => (i.zero, i.size, i.bytes)) = some (some (.agg #[.int .u64 0, .int .u8 0, .bool false, .bool false, .int .i64 0]), 5, 24) := by kernel_rfl
theorem cells_new (W : World) (l : List Value) (t : TypeId) : ∀ (j : Nat) (u : Value), l[j]? = some u → (W.alloc (.cells l.toArray t)).cell? ((⟨W.heap.size, 0, none⟩ : Addr).add j) = some u := by
  intro j u hj
  rw [add_lit]
  have h : (W.alloc (.cells l.toArray t)).heap[W.heap.size]? = some (.cells l.toArray t (0, 0)) := World.alloc_heap_new W _
  unfold World.cell?
  rw [h]
  simpa using hj
theorem rc_one (s : St) : ∀ u ∈ s.rc, u.oneCell' = true := by
  intro u hu
  simp [St.rc] at hu
  rcases hu with rfl | rfl | rfl | rfl | rfl <;> rfl
/-- A box of the script's lies apart from the list's row. -/
theorem Rp.box {w0 w w' : World} {b bx : Nat} {v4 : Value} {xs r : List St} {clk : Int} {cs : Array Value} (h : Rp w0 b v4 xs r clk w) (hx : w.heap[bx]? = some (.cells cs 59 (0, 0))) (hg : w.grownBy w' v4.ownBlock) : w'.heap[bx]? = some (.cells cs 59 (0, 0)) := by
  refine (hg.block bx (lt_of_block hx) fun e => ?_).trans hx
  rcases h.row.2 with ⟨rfl, -⟩ | ⟨g, cap, cur, rfl, hbg, hgg, -⟩
  · simp [Value.ownBlock] at e
  · simp [Value.ownBlock] at e
    subst e
    rw [hx] at hgg
    simp at hgg
theorem Rp.slots {w0 w : World} {b : Nat} {oa : Option Addr} {n cap : Nat} {xs r : List St} {clk : Int} (h : Rp w0 b (.slice oa n cap) xs r clk w) (i : Nat) (hi : i < r.length) :
    ∃ g, oa = some ⟨g, 0, none⟩ ∧ n = r.length ∧ (∃ v1 v2 v3 v4, w.cell? ⟨g, i * 5 + 1, none⟩ = some v1 ∧ w.cell? ⟨g, i * 5 + 2, none⟩ = some v2 ∧ w.cell? ⟨g, i * 5 + 3, none⟩ = some v3 ∧ w.cell? ⟨g, i * 5 + 4, none⟩ = some v4) ∧ ∀ j, w.frozen? ⟨g, j, none⟩ = false := by
  obtain ⟨g, h1, h2, ⟨-, c1, c2, c3, c4⟩, fz⟩ := h.at hi
  exact ⟨g, h1, h2, ⟨_, _, _, _, c1, c2, c3, c4⟩, fz⟩
theorem Rp.two {w0 w : World} {b g n cap : Nat} {xs r : List St} {clk : Int} (h : Rp w0 b (.slice (some ⟨g, 0, none⟩) n cap) xs r clk w) (hn : n = r.length) (i : Nat) (hi : i < r.length) (u : Int) (c : Bool) :
    Rp w0 b (.slice (some ⟨g, 0, none⟩) n cap) xs (r.set i { r[i] with urg := u, inc := c }) clk ((w.setCell ⟨g, i * 5 + 1, none⟩ (.int .u8 u)).setCell ⟨g, i * 5 + 2, none⟩ (.bool c)) := by
  have h1 := h.store hn i 1 hi (by omega) (.int .u8 u) { r[i] with urg := u } rfl
  have h2 := h1.store (by simpa using hn) i 2 (by simpa using hi) (by omega) (.bool c) { r[i] with urg := u, inc := c } (by simp [St.rc])
  rw [List.set_set] at h2
  exact h2
theorem snoc_two (r : List St) (y0 : St) (k : Nat) (hk : k = r.length) (h : k < (r ++ [y0]).length) (u : Int) (c : Bool) : (r ++ [y0]).set k { (r ++ [y0])[k] with urg := u, inc := c } = r ++ [{ y0 with urg := u, inc := c }] := by
  subst hk
  simp
theorem Rp.cut {w0 w w' : World} {b : Nat} {v4 v5 : Value} {xs r : List St} {clk : Int} {i m : Nat} (h : Rp w0 b v4 xs r clk w) (hi : i < r.length) (hm : m = r.length) (ho : w'.ownsRow w.heap.size 62 5 v5 (i + (m - (i + 1))) (refOf (r.take i) ++ refOf (r.drop (i + 1)))) (hb : Below w.heap.size w w') :
    Rp w0 b v5 xs (r.take i ++ r.drop (i + 1)) clk w' := by
  refine ⟨h.plan.imp fun _ h => h.below hb, ?_, h.bel.trans (hb.mono h.bel.size)⟩
  have e1 : (r.take i ++ r.drop (i + 1)).length = i + (m - (i + 1)) := by rw [List.length_append, List.length_take, List.length_drop]; omega
  have e2 : refOf (r.take i ++ r.drop (i + 1)) = refOf (r.take i) ++ refOf (r.drop (i + 1)) := refOf_append _ _
  rw [e1, e2]
  refine ⟨ho.1, ?_⟩
  rcases ho.2 with h2 | ⟨g, cap, cur, hv, hbg, rest⟩
  · exact .inl h2
  · exact .inr ⟨g, cap, cur, hv, Nat.le_trans h.bel.size hbg, rest⟩
theorem own_empty (W : World) (B : Nat) (hB : B ≤ W.heap.size) : (W.alloc (.cells #[] 62)).ownsRow B 62 5 (.slice (some ⟨W.heap.size, 0, none⟩) 0 0) 0 [] :=
  ⟨rfl, .inr ⟨W.heap.size, 0, #[], rfl, hB, World.alloc_heap_new W _, Nat.le_refl _, by simp, by simp, rfl⟩⟩
/-- A part of the list's row, as it reads in any world that keeps it. -/
theorem Rp.part {w0 w w' : World} {b g n cap : Nat} {xs r : List St} {clk : Int} (h : Rp w0 b (.slice (some ⟨g, 0, none⟩) n cap) xs r clk w) (hn : n = r.length) (hb : Below w.heap.size w w') :
    (∀ i, i ≤ r.length → ∀ (j : Nat) (u : Value), (refOf (r.take i))[j]? = some u → w'.cell? ((⟨g, 0, none⟩ : Addr).add j) = some u) ∧
    (∀ i, i ≤ r.length → ∀ (j : Nat) (u : Value), (refOf (r.drop i))[j]? = some u → w'.cell? ((⟨g, i * 5, none⟩ : Addr).add j) = some u) := by
  subst hn
  have hg : g < w.heap.size := (h.row.lt g rfl).2
  have hc : ∀ (j : Nat) (u : Value), (refOf r)[j]? = some u → w'.cell? ⟨g, j, none⟩ = some u := by
    intro j u hj
    have hj5 : j < r.length * 5 := by
      have := (List.getElem?_eq_some_iff.1 hj).1
      rwa [refOf_length] at this
    rw [hb.cell hg, h.row.cellAt j hj5, hj]
  refine ⟨fun i hi j u hj => ?_, fun i hi j u hj => ?_⟩
  · rw [add_lit, Nat.zero_add]
    refine hc j u ?_
    rw [← refOf_take, List.getElem?_take] at hj
    split at hj
    · exact hj
    · cases hj
  · rw [add_lit]
    refine hc _ u ?_
    rw [← refOf_drop, List.getElem?_drop] at hj
    exact hj
theorem U64s.back {B : Nat} {w w' : World} {oi : Option Addr} {ids : List Int} (h : U64s w' oi ids) (hB : Below B w w') (ho : ∀ j (_ : j < ids.length), ∃ g' off', oi = some ⟨g', off', none⟩ ∧ g' < B) : U64s w oi ids := by
  intro i hi
  obtain ⟨g, off, h0, h1⟩ := h i hi
  obtain ⟨g', off', h0', h2⟩ := ho i hi
  rw [h0] at h0'
  simp only [Option.some.injEq, Addr.mk.injEq, and_true] at h0'
  obtain ⟨rfl, rfl⟩ := h0'
  exact ⟨g, off, h0, (hB.cell h2).symm.trans h1⟩
theorem below_own {B : Nat} {w5 w6 w7 : World} {e : TypeId} {size n : Nat} {v6 : Value} {L : List Value} (hB : B ≤ w6.heap.size) (hb : Below B w5 w6) (ho : w6.ownsRow B e size v6 n L) (hg : w6.grownBy w7 v6.ownBlock) : Below B w5 w7 :=
  hb.trans ⟨hg.os, hg.tape, hg.output, hg.size, fun k hk => hg.block k (Nat.lt_of_lt_of_le hk hB) fun h => by have := (ho.lt k h.symm).1; omega⟩
theorem Rp.appended {w0 w w' : World} {b bx : Nat} {v4 v' : Value} {xs r : List St} {y : St} {clk : Int} {cs : Array Value} (h : Rp w0 b v4 xs r clk w) (hx : w.heap[bx]? = some (.cells cs 59 (0, 0))) (ho : w'.ownsRow w0.heap.size 62 5 v' (r.length + 1) (refOf r ++ y.rc)) (hg : w.grownBy w' v4.ownBlock) :
    ∃ oa cap, v' = .slice oa (r.length + 1) cap ∧ Rp w0 b (.slice oa (r.length + 1) cap) xs (r ++ [y]) clk w' ∧ w'.heap[bx]? = some (.cells cs 59 (0, 0)) := by
  have h1 : w'.ownsRow w0.heap.size 62 5 v' (r ++ [y]).length (refOf (r ++ [y])) := by
    rw [refOf_append, show (r ++ [y]).length = r.length + 1 from by simp, show refOf [y] = y.rc from by simp [refOf]]
    exact ho
  have h2 := h.turn h1 hg
  obtain ⟨oa, cap, he, -⟩ := h2.read
  rw [show (r ++ [y]).length = r.length + 1 from by simp] at he
  subst he
  exact ⟨oa, cap, rfl, h2, h.box hx hg⟩
end Go.Proofs.YtnkbhpnflfhhnaaGreatDoor
