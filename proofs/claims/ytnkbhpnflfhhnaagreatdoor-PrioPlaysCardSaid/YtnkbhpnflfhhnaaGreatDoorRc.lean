import Derived.Test.YtnkbhpnflfhhnaaGreatDoorRa
namespace Go.Proofs.YtnkbhpnflfhhnaaGreatDoor
open Go.ChangeShapes Go.WideShapes Go.ChangeAt Go.RowKit

/-- A call of the law's script. -/
structure DoV where
  kind : Int
  id : Int
  urg : Int
  inc : Bool
  is : Bool
  oi : Option Addr
  ci : Nat
  ids : List Int

/-- The slice at oa reads as the script l; the lists of numbers lie below B. -/
def DoRow (B : Nat) (w : World) (oa : Option Addr) (l : List DoV) : Prop :=
  ∀ (i : Nat) (h : i < l.length), ∃ g off, oa = some ⟨g, off, none⟩ ∧ w.cell? ⟨g, off + i * 6, none⟩ = some (.int .u8 l[i].kind) ∧ w.cell? ⟨g, off + i * 6 + 1, none⟩ = some (.int .u64 l[i].id) ∧
    w.cell? ⟨g, off + i * 6 + 2, none⟩ = some (.int .u8 l[i].urg) ∧ w.cell? ⟨g, off + i * 6 + 3, none⟩ = some (.bool l[i].inc) ∧ w.cell? ⟨g, off + i * 6 + 4, none⟩ = some (.bool l[i].is) ∧
    w.cell? ⟨g, off + i * 6 + 5, none⟩ = some (.slice l[i].oi l[i].ids.length l[i].ci) ∧ g < B ∧ l[i].ids.length ≤ 100000000000000 ∧ U64s w l[i].oi l[i].ids ∧ ∀ j (_ : j < l[i].ids.length), ∃ g' off', l[i].oi = some ⟨g', off', none⟩ ∧ g' < B

theorem U64s.below {B : Nat} {w w' : World} {oi : Option Addr} {ids : List Int} (h : U64s w oi ids) (hB : Below B w w') (ho : ∀ j (_ : j < ids.length), ∃ g' off', oi = some ⟨g', off', none⟩ ∧ g' < B) : U64s w' oi ids := by
  intro i hi
  obtain ⟨g, off, h0, h1⟩ := h i hi
  obtain ⟨g', off', h0', h2⟩ := ho i hi
  rw [h0] at h0'
  simp only [Option.some.injEq, Addr.mk.injEq, and_true] at h0'
  obtain ⟨rfl, rfl⟩ := h0'
  exact ⟨g, off, h0, (hB.cell h2).trans h1⟩
theorem DoRow.below {B : Nat} {w w' : World} {oa : Option Addr} {l : List DoV} (h : DoRow B w oa l) (hB : Below B w w') : DoRow B w' oa l := by
  intro i hi
  obtain ⟨g, off, h0, h1, h2, h3, h4, h5, h6, hg, h7, h8, h9⟩ := h i hi
  exact ⟨g, off, h0, (hB.cell hg).trans h1, (hB.cell hg).trans h2, (hB.cell hg).trans h3, (hB.cell hg).trans h4, (hB.cell hg).trans h5, (hB.cell hg).trans h6, hg, h7, h8.below hB h9, h9⟩

def heavyN : List DoV → Nat
  | [] => 0
  | x :: xs => 1 + x.ids.length + heavyN xs
theorem heavyN_take (l : List DoV) : ∀ k (h : k < l.length), heavyN (l.take (k + 1)) = heavyN (l.take k) + (1 + l[k].ids.length) := by
  induction l with
  | nil => intro k h; simp at h
  | cons x xs ih =>
    intro k h
    cases k with
    | zero => simp [heavyN]
    | succ k =>
      have := ih k (by simpa using h)
      simp only [List.take_succ_cons, heavyN, this, List.getElem_cons_succ]
      omega
theorem heavyN_le (l : List DoV) (k : Nat) : heavyN (l.take k) ≤ heavyN l := by
  induction l generalizing k with
  | nil => simp [heavyN]
  | cons x xs ih =>
    cases k with
    | zero => simp [heavyN]
    | succ k => have := ih k; simp only [List.take_succ_cons, heavyN]; omega
theorem heavyN_len (l : List DoV) : l.length ≤ heavyN l := by
  induction l with
  | nil => simp [heavyN]
  | cons x xs ih => simp only [List.length_cons, heavyN]; omega

def HeavyRel (l : List DoV) (w : World) (n i : Value) (wr : World) : Prop := ∃ k : Nat, k ≤ l.length ∧ i = .int .i64 k ∧ n = .int .i64 (heavyN (l.take k)) ∧ heavyN (l.take k) ≤ 600 ∧ Below w.heap.size w wr

set_option maxHeartbeats 1000000 in
set_option maxRecDepth 100000 in
theorem heavy_any (oa : Option Addr) (l : List DoV) (cap : Nat) (w : World) (hx : DoRow w.heap.size w oa l) (hl : l.length ≤ 4611686018427387904) :
    Calls Tryz.prog 26 #[.slice oa l.length cap] w (Gives w (.bool (decide (600 < heavyN l)))) := by
  have HX := Lib.hid hx
  clear hx
  go_enter Tryz.func26, Tryz.ntmps26
  go_wp2_with fail
  go_loopw [3, 8] (fun n i wr => HeavyRel l w n i wr) (fun _ i _ => l.length - (intOf i).toNat)
  case atStart => exact ⟨0, by omega, rfl, rfl, by simp [heavyN], Below.refl _ _⟩
  case round =>
    obtain ⟨k, hk, rfl, rfl, h600, hbel⟩ := hrel
    have HBEL := Lib.hid hbel
    clear hbel
    obtain ⟨N, hN⟩ : ∃ N, N = heavyN (l.take k) := ⟨_, rfl⟩
    rw [← hN] at h600
    rw [← hN]
    have HN := Lib.hid hN
    clear hN
    by_cases hlt : k < l.length
    · obtain ⟨g, off, rfl, x0, x1, x2, x3, x4, x5, hg, h7, h8, h9⟩ := (HX.out.below HBEL.out) k hlt
      have HT := Lib.hid (heavyN_take l k hlt)
      have HLE := Lib.hid (heavyN_le l (k + 1))
      obtain ⟨x, hxk⟩ : ∃ x, x = l[k] := ⟨_, rfl⟩
      have HXK := Lib.hid hxk
      rw [← hxk] at x0 x1 x2 x3 x4 x5 h7
      clear hxk h8 h9
      by_cases hgt : 600 < N + (1 + x.ids.length)
      · go_wp2_with fail
        go_ret
        refine ⟨?_, HBEL.out.alloc HBEL.out.size _⟩
        rw [show decide (600 < heavyN l) = true from decide_eq_true (by have h1 := HLE.out; rw [HT.out, ← HXK.out, ← HN.out] at h1; omega)]
        rfl
      · go_wp2_with fail
        go_roundw
        case rel => exact ⟨k + 1, by omega, by go_num, by rw [HT.out, ← HXK.out, ← HN.out]; go_num, by rw [HT.out, ← HXK.out, ← HN.out]; omega, HBEL.out.alloc HBEL.out.size _⟩
        case measure => simp [intOf]; omega
    · obtain rfl : k = l.length := by omega
      go_wp2_with fail
      go_ret
      refine ⟨?_, HBEL.out⟩
      have h1 := HN.out
      rw [List.take_length] at h1
      rw [show decide (600 < heavyN l) = false from decide_eq_false (by omega)]
      rfl
end Go.Proofs.YtnkbhpnflfhhnaaGreatDoor
