import Derived.Test.YtnkbhpnflfhhnaaGreatDoorPg
namespace Go.Proofs.YtnkbhpnflfhhnaaGreatDoor
open Go.ChangeShapes Go.WideShapes Go.ChangeAt Go.RowKit

theorem new_any (w : World) : Calls Tryz.prog 25 #[] w fun e w' => e = .returned (.pointer (some ⟨w.heap.size, 0, none⟩)) ∧ w' = w.alloc (.cells #[.slice none 0 0, .int .u64 0] 109) := by
  go_enter Tryz.func25, Tryz.ntmps25
  go_wp2
  go_ret
  exact ⟨rfl, rfl⟩
theorem new_plan (B : Nat) (w : World) (hB : B ≤ w.heap.size) : PlanAt B (w.alloc (.cells #[.slice none 0 0, .int .u64 0] 109)) w.heap.size (.slice none 0 0) [] 0 :=
  ⟨Go.heap_alloc_new w _, World.ownsRow_nil _ _ _ _, hB, by simp⟩

/-- Streams, those of a number turned. -/
def upd (xs : List St) (id : Int) (f : St → St) : List St := xs.map fun s => if s.id = id then f s else s
theorem not_has {xs : List St} {id : Int} (h : hasId xs id = false) : ∀ s ∈ xs, s.id ≠ id := by
  intro s hs he
  have : hasId xs id = true := List.any_eq_true.2 ⟨s, hs, by simp [he]⟩
  rw [h] at this; cases this
theorem upd_none {xs : List St} {id : Int} (f : St → St) (h : hasId xs id = false) : upd xs id f = xs := by
  have h' := not_has h
  unfold upd
  conv => rhs; rw [← List.map_id xs]
  refine List.map_congr_left fun s hs => ?_
  rw [if_neg (h' s hs)]; rfl

theorem takeWhile_at {α : Type} (p : α → Bool) : ∀ (xs : List α), (xs.takeWhile p).length ≤ xs.length ∧ (∀ i (h : i < xs.length), i < (xs.takeWhile p).length → p xs[i] = true) ∧ (∀ (h : (xs.takeWhile p).length < xs.length), p xs[(xs.takeWhile p).length] = false)
  | [] => ⟨by simp, fun i h => by simp at h, fun h => by simp at h⟩
  | x :: xs => by
    obtain ⟨h1, h2, h3⟩ := takeWhile_at p xs
    by_cases hp : p x = true
    · rw [List.takeWhile_cons, if_pos hp]
      refine ⟨by simp; omega, fun i h hi => ?_, fun h => ?_⟩
      · cases i with
        | zero => simpa using hp
        | succ i => simpa using h2 i (by simpa using h) (by simpa using hi)
      · simpa using h3 (by simpa using h)
    · rw [List.takeWhile_cons, if_neg hp]
      refine ⟨by simp, fun i h hi => by simp at hi, fun h => by simpa using hp⟩

theorem place_le (xs : List St) (id : Int) : placeOf xs id ≤ xs.length := (takeWhile_at _ xs).1
theorem place_lt {xs : List St} {id : Int} (i : Nat) (h : i < xs.length) (hi : i < placeOf xs id) : xs[i].id < id := by simpa using (takeWhile_at _ xs).2.1 i h hi
theorem place_ge {xs : List St} {id : Int} (hr : Rising xs) (i : Nat) (h : i < xs.length) (hi : placeOf xs id ≤ i) : id ≤ xs[i].id := by
  have h0 : id ≤ xs[placeOf xs id].id := by
    have := (takeWhile_at (fun s : St => decide (s.id < id)) xs).2.2 (show placeOf xs id < xs.length by omega)
    exact Int.not_lt.1 (of_decide_eq_false this)
  rcases Nat.lt_or_ge (placeOf xs id) i with hlt | hge
  · have := hr _ i (by omega) h hlt; omega
  · have : i = placeOf xs id := by omega
    subst this; exact h0
theorem place_has {xs : List St} {id : Int} (hr : Rising xs) (h : hasId xs id = true) : ∃ hp : placeOf xs id < xs.length, xs[placeOf xs id].id = id := by
  have := hasId_eq (id := id) (k := placeOf xs id) hr (place_le xs id) place_lt (place_ge hr)
  rw [h] at this
  split at this
  · rename_i hp; exact ⟨hp, by simpa using this.symm⟩
  · cases this

theorem upd_set {xs : List St} {id : Int} (f : St → St) (hr : Rising xs) {i : Nat} (hi : i < xs.length) (h : xs[i].id = id) : upd xs id f = xs.set i (f xs[i]) := by
  apply List.ext_getElem (by simp [upd])
  intro j h1 h2
  simp only [upd, List.getElem_map, List.getElem_set]
  split
  · rename_i hj
    split
    · rename_i hij
      subst hij; rfl
    · rename_i hij
      have hjl : j < xs.length := by simpa [upd] using h1
      rcases Nat.lt_or_ge i j with hlt | hge
      · have := hr i j hi hjl hlt; omega
      · have := hr j i hjl hi (by omega); omega
  · rename_i hj
    split
    · rename_i hij
      subst hij; exact absurd h hj
    · rfl

theorem upd_place {xs : List St} {id : Int} (f : St → St) (hr : Rising xs) (h : hasId xs id = true) (hp : placeOf xs id < xs.length) : upd xs id f = xs.set (placeOf xs id) (f xs[placeOf xs id]) := by
  exact upd_set f hr hp (place_has hr h).2

/-- A plan's row, cell by cell. -/
theorem PlanAt.cellsAt {B : Nat} {w : World} {b : Nat} {oa : Option Addr} {n cap : Nat} {xs : List St} {clk : Int} (h : PlanAt B w b (.slice oa n cap) xs clk) {i : Nat} (hi : i < xs.length) :
    ∃ g, oa = some ⟨g, 0, none⟩ ∧ n = xs.length ∧ (w.cell? ⟨g, i * 5, none⟩ = some (.int .u64 xs[i].id) ∧ w.cell? ⟨g, i * 5 + 1, none⟩ = some (.int .u8 xs[i].urg) ∧ w.cell? ⟨g, i * 5 + 2, none⟩ = some (.bool xs[i].inc) ∧
      w.cell? ⟨g, i * 5 + 3, none⟩ = some (.bool xs[i].rdy) ∧ w.cell? ⟨g, i * 5 + 4, none⟩ = some (.int .u64 xs[i].srv)) ∧ ∀ j, w.frozen? ⟨g, j, none⟩ = false := by
  rcases h.own.2 with ⟨h', h0⟩ | ⟨g, cap', cur, h', hbg, hgg, hnc, hcm, hcs, htake⟩
  · omega
  · simp only [Value.slice.injEq] at h'
    obtain ⟨rfl, rfl, rfl⟩ := h'
    have hc : ∀ j, j < 5 → w.cell? ⟨g, i * 5 + j, none⟩ = xs[i].cells[j]? := by
      intro j hj
      rw [h.own.cellAt (i * 5 + j) (by omega), rowOf_get xs i j hi hj]
    exact ⟨g, rfl, rfl, ⟨hc 0 (by omega), hc 1 (by omega), hc 2 (by omega), hc 3 (by omega), hc 4 (by omega)⟩, fun j => by simp [World.frozen?, hgg]⟩

def Does (B : Nat) (w : World) (b : Nat) (xs : List St) (clk : Int) (r : Value) (e : Ending) (w' : World) : Prop :=
  e = .returned r ∧ (∃ v, PlanAt B w' b v xs clk) ∧ Keeps B w w'

theorem ready_nil (id : Int) (r : Bool) (w : World) : Calls Tryz.prog 22 #[.pointer none, .int .u64 id, .bool r] w (Gives w (.int .i64 1)) := by
  go_enter Tryz.func22, Tryz.ntmps22
  go_wp2
  go_ret
  exact ⟨rfl, Below.refl _ _⟩

/-- A cell of a stream of a plan's is stored into. -/
theorem PlanAt.store {B : Nat} {w : World} {b g n cap : Nat} {xs : List St} {clk : Int} (h : PlanAt B w b (.slice (some ⟨g, 0, none⟩) n cap) xs clk) (hn : n = xs.length) (i j : Nat) (hi : i < xs.length) (hj : j < 5) (u : Value) (y : St) (hy : y.cells = xs[i].cells.set j u) :
    PlanAt B (w.setCell ⟨g, i * 5 + j, none⟩ u) b (.slice (some ⟨g, 0, none⟩) n cap) (xs.set i y) clk ∧ Keeps B w (w.setCell ⟨g, i * 5 + j, none⟩ u) := by
  subst hn
  obtain ⟨h1, h2⟩ := h.own.stored (i * 5 + j) u
  have hne : b ≠ g := fun e => h.apart (by rw [e]; rfl)
  obtain ⟨hbg, -⟩ := h.own.lt g rfl
  refine ⟨⟨?_, ?_, h.base, by simpa using h.len⟩, ?_⟩
  · rw [Below.heap_setCell _ _ _ _ hne]; exact h.blk
  · rw [rowOf_set xs i j hi hj u y hy] at h1
    simpa using h1
  · rcases h.own.2 with ⟨h', -⟩ | ⟨g', cap', cur, h', hbg', hgg, -⟩
    · cases h'
    · simp only [Value.slice.injEq, Option.some.injEq, Addr.mk.injEq, and_true, true_and] at h'
      obtain ⟨rfl, rfl⟩ := h'
      exact Keeps.of_grown h2 hbg hgg (.inl rfl)

set_option maxRecDepth 100000 in
theorem ready_any (B b : Nat) (v : Value) (xs : List St) (clk id : Int) (r : Bool) (w : World) (h : PlanAt B w b v xs clk) (hr : Rising xs) :
    Calls Tryz.prog 22 #[.pointer (some ⟨b, 0, none⟩), .int .u64 id, .bool r] w (Does B w b (upd xs id fun s => { s with rdy := r }) clk (.int .i64 (if hasId xs id then 0 else 4))) := by
  have H := Lib.hid h
  have HR := Lib.hid hr
  obtain ⟨oa, cap, rfl, h1, h2, hx⟩ := h.read
  have hl := h.len
  have hblk := h.blk
  have HB := Lib.hid hblk
  have HX := Lib.hid hx
  clear h hr hx hblk
  cases hh : hasId xs id
  · have HU : Hid (upd xs id (fun s => { s with rdy := r }) = xs) := Lib.hid (upd_none _ hh)
    have HH := Lib.hid hh
    clear hh
    go_enter Tryz.func22, Tryz.ntmps22
    go_wp2_with fail
    refine (find_at b oa xs cap clk id _ HB.out HX.out HR.out (by omega)).mono ?_
    rintro e w1 ⟨rfl, hb1⟩
    rw [HH.out]
    have H1 := Lib.hid hb1
    clear hb1
    go_wp2_with fail
    go_ret
    exact ⟨rfl, ⟨_, by rw [HU.out]; exact H.out.below H1.out⟩, Keeps.of_below H1.out⟩
  · obtain ⟨hp, hpi⟩ := place_has HR.out hh
    have HU : Hid (upd xs id (fun s => { s with rdy := r }) = xs.set (placeOf xs id) { xs[placeOf xs id] with rdy := r }) := Lib.hid (upd_place _ HR.out hh hp)
    have HH := Lib.hid hh
    obtain ⟨p, hpp⟩ : ∃ p, p = placeOf xs id := ⟨_, rfl⟩
    have HP := Lib.hid hpp
    rw [← hpp] at hp
    obtain ⟨g, rfl, -⟩ := H.out.cellsAt hp
    clear hh hpi hpp
    go_enter Tryz.func22, Tryz.ntmps22
    go_wp2_with fail
    refine (find_at b _ xs cap clk id _ HB.out HX.out HR.out (by omega)).mono ?_
    rintro e w1 ⟨rfl, hb1⟩
    rw [HH.out, ← HP.out]
    have hpl := H.out.below hb1
    have c0 : w1.cell? ⟨b, 0, none⟩ = some (.slice (some ⟨g, 0, none⟩) xs.length cap) := by simp [World.cell?, hpl.blk]
    have H1 := Lib.hid hb1
    obtain ⟨g', he, -, ⟨x0, x1, x2, x3, x4⟩, fz⟩ := hpl.cellsAt hp
    simp only [Option.some.injEq, Addr.mk.injEq, and_true] at he
    subst he
    have f3 := fz (p * 5 + 3)
    have HPL := Lib.hid hpl
    clear hb1 hpl fz x0 x1 x2 x4
    go_wp2_with fail
    go_ret
    obtain ⟨k1, k2⟩ := HPL.out.store rfl p 3 hp (by omega) (.bool r) { xs[p] with rdy := r } rfl
    refine ⟨rfl, ⟨.slice (some ⟨g, 0, none⟩) xs.length cap, ?_⟩, (Keeps.of_below H1.out).trans k2⟩
    rw [HU.out]
    simp only [← HP.out]
    exact k1
end Go.Proofs.YtnkbhpnflfhhnaaGreatDoor
