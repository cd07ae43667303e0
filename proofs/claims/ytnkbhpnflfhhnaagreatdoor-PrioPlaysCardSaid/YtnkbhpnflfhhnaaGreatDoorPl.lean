import Derived.Test.YtnkbhpnflfhhnaaGreatDoorPk
namespace Go.Proofs.YtnkbhpnflfhhnaaGreatDoor
open Go.ChangeShapes Go.WideShapes Go.ChangeAt Go.RowKit

/-- The slice at oa reads as numbers. -/
def U64s (w : World) (oa : Option Addr) (ids : List Int) : Prop :=
  ∀ (i : Nat) (h : i < ids.length), ∃ g off, oa = some ⟨g, off, none⟩ ∧ w.cell? ⟨g, off + i, none⟩ = some (.int .u64 ids[i])

def idxOf (id : Int) : List Int → Nat → Int
  | [], _ => -1
  | x :: xs, k => if x = id then k else idxOf id xs (k + 1)
theorem idxOf_has (id : Int) : ∀ (xs : List Int) (k : Nat), (0 ≤ idxOf id xs k) ↔ id ∈ xs
  | [], k => by simp [idxOf]
  | x :: xs, k => by
    unfold idxOf
    split
    · rename_i h; subst h; simp
    · rename_i h
      rw [idxOf_has id xs (k + 1)]
      simp; intro e; exact absurd e.symm h

def IdxRel (id : Int) (ids : List Int) (i : Value) : Prop := ∃ k : Nat, k ≤ ids.length ∧ i = .int .i64 k ∧ idxOf id (ids.drop k) k = idxOf id ids 0

theorem index_any (oa : Option Addr) (ids : List Int) (cap : Nat) (id : Int) (w : World) (h : U64s w oa ids) (hl : ids.length ≤ 4611686018427387904) :
    Calls Tryz.prog 92 #[.slice oa ids.length cap, .int .u64 id] w fun e w' => e = .returned (.int .i64 (idxOf id ids 0)) ∧ w' = w := by
  have H := Lib.hid h
  clear h
  go_enter Tryz.func92, Tryz.ntmps92
  go_wp2_with fail
  go_loop [8] (fun i => IdxRel id ids i) (fun i => ids.length - (intOf i).toNat)
  case atStart => exact ⟨0, by omega, rfl, rfl⟩
  case round =>
    obtain ⟨k, hk, rfl, hr⟩ := hrel
    have HR := Lib.hid hr
    clear hr
    by_cases hlt : k < ids.length
    · obtain ⟨g, off, rfl, hc⟩ := H.out k hlt
      obtain ⟨x, hx⟩ : ∃ x, x = ids[k] := ⟨_, rfl⟩
      have hd : ids.drop k = x :: ids.drop (k + 1) := by rw [hx]; exact List.drop_eq_getElem_cons hlt
      have HD : Hid (idxOf id (ids.drop k) k = if x = id then (k : Int) else idxOf id (ids.drop (k + 1)) (k + 1)) := Lib.hid (by rw [hd, idxOf])
      rw [← hx] at hc
      clear hx hd
      by_cases he : x = id
      · subst he
        go_wp2_with fail
        go_ret
        exact ⟨by have h1 := HR.out; rw [HD.out, if_pos trivial] at h1; rw [← h1]; rfl, rfl⟩
      · have hne : (id == x) = false := by simp; exact fun e => he e.symm
        have HE := Lib.hid he
        clear he
        go_wp2_with fail
        go_round
        case rel => exact ⟨k + 1, by omega, by go_num, by have h1 := HR.out; rw [HD.out, if_neg HE.out] at h1; exact h1⟩
        case measure => simp [intOf]; omega
    · have : k = ids.length := by omega
      subst this
      go_wp2_with fail
      go_ret
      exact ⟨by have h1 := HR.out; rw [List.drop_length] at h1; rw [← h1]; rfl, rfl⟩

theorem contains_any (oa : Option Addr) (ids : List Int) (cap : Nat) (id : Int) (w : World) (h : U64s w oa ids) (hl : ids.length ≤ 4611686018427387904) :
    Calls Tryz.prog 54 #[.slice oa ids.length cap, .int .u64 id] w fun e w' => e = .returned (.bool (decide (id ∈ ids))) ∧ w' = w := by
  have H := Lib.hid h
  clear h
  have hi := idxOf_has id ids 0
  obtain ⟨r, hr⟩ : ∃ r, r = idxOf id ids 0 := ⟨_, rfl⟩
  have HR := Lib.hid hr
  rw [← hr] at hi
  have HI := Lib.hid hi
  clear hi hr
  go_enter Tryz.func54, Tryz.ntmps54
  go_wp2_with fail
  refine (index_any oa ids cap id _ H.out hl).mono ?_
  rintro e w1 ⟨rfl, rfl⟩
  rw [← HR.out]
  go_wp2_with fail
  go_ret
  exact ⟨by rw [decide_eq_decide.2 HI.out.symm]; rfl, rfl⟩

/-- A block that no plan of ours writes. -/
def Safe (B : Nat) (w : World) (g : Nat) : Prop := g < B ∨ ∃ cs t fr, w.heap[g]? = some (.cells cs t fr) ∧ t ≠ 106 ∧ t ≠ 109

theorem Safe.block {B : Nat} {w w' : World} {g : Nat} (h : Safe B w g) (hk : Keeps B w w') (hg : g < w.heap.size) : w'.heap[g]? = w.heap[g]? := by
  rcases h with h | ⟨cs, t, fr, h, h1, h2⟩
  · exact hk.block g hg (.inl h)
  · exact hk.block g hg (.inr fun cs' t' fr' e => by rw [h] at e; simp only [Option.some.injEq, Obj.cells.injEq] at e; obtain ⟨-, rfl, -⟩ := e; exact ⟨h1, h2⟩)
theorem Safe.keeps {B : Nat} {w w' : World} {g : Nat} (h : Safe B w g) (hk : Keeps B w w') : Safe B w' g := by
  rcases h with h0 | ⟨cs, t, fr, h0, h1, h2⟩
  · exact .inl h0
  · exact .inr ⟨cs, t, fr, (Safe.block (.inr ⟨cs, t, fr, h0, h1, h2⟩) hk (lt_of_block h0)).trans h0, h1, h2⟩

/-- The numbers that a closure has captured. -/
structure IdsAt (B : Nat) (w : World) (box : Nat) (oa : Option Addr) (cap : Nat) (ids : List Int) : Prop where
  blk : w.heap[box]? = some (.cells #[.slice oa ids.length cap] 57 (0, 0))
  mem : U64s w oa ids
  old : ∀ i (_ : i < ids.length), ∃ g off, oa = some ⟨g, off, none⟩ ∧ Safe B w g
  len : ids.length ≤ 4611686018427387904

theorem IdsAt.keeps {B : Nat} {w w' : World} {box : Nat} {oa : Option Addr} {cap : Nat} {ids : List Int} (h : IdsAt B w box oa cap ids) (hk : Keeps B w w') : IdsAt B w' box oa cap ids := by
  refine ⟨(hk.block box (lt_of_block h.blk) (.inr fun cs t fr e => by rw [h.blk] at e; simp only [Option.some.injEq, Obj.cells.injEq] at e; obtain ⟨-, rfl, -⟩ := e; exact ⟨by decide, by decide⟩)).trans h.blk, fun i hi => ?_, fun i hi => (h.old i hi).imp fun g h => h.imp fun off h => ⟨h.1, h.2.keeps hk⟩, h.len⟩
  obtain ⟨g, off, h0, h1⟩ := h.mem i hi
  obtain ⟨g', off', h0', h2⟩ := h.old i hi
  rw [h0] at h0'
  simp only [Option.some.injEq, Addr.mk.injEq, and_true] at h0'
  obtain ⟨rfl, rfl⟩ := h0'
  exact ⟨g, off, h0, (World.cell?_of_block (w := w) (h2.block hk (World.block_lt_of_cell? w _ h1))).trans h1⟩

theorem drop1_any (B box : Nat) (oa : Option Addr) (ids : List Int) (cap : Nat) (s : St) (w : World) (h : IdsAt B w box oa cap ids) :
    Calls Tryz.prog 53 #[s.val, .pointer (some ⟨box, 0, none⟩)] w (Gives w (.bool (decide (s.id ∈ ids)))) := by
  have H := Lib.hid h
  have hbw := lt_of_block h.blk
  have c0 : w.cell? ⟨box, 0, none⟩ = some (.slice oa ids.length cap) := by simp [World.cell?, h.blk]
  clear h
  unfold St.val
  go_enter Tryz.func53, Tryz.ntmps53
  go_wp2_with fail
  have hcell : U64s (w.alloc (.cells #[.int .u64 s.id, .int .u8 s.urg, .bool s.inc, .bool s.rdy, .int .u64 s.srv] 106)) oa ids := by
    intro i hi
    obtain ⟨g, off, h0, h1⟩ := H.out.mem i hi
    exact ⟨g, off, h0, ((((Below.refl _ w).alloc (Nat.le_refl _) _).cell (World.block_lt_of_cell? w _ h1))).trans h1⟩
  refine (contains_any oa ids cap s.id _ hcell H.out.len).mono ?_
  rintro e w1 ⟨rfl, rfl⟩
  clear hcell c0
  go_wp2_with fail
  go_ret
  exact ⟨rfl, (Below.refl _ w).alloc (Nat.le_refl _) _⟩
end Go.Proofs.YtnkbhpnflfhhnaaGreatDoor
