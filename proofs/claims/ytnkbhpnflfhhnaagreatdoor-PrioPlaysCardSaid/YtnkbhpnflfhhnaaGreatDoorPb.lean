import Derived.Test.YtnkbhpnflfhhnaaGreatDoorPa
namespace Go.Proofs.YtnkbhpnflfhhnaaGreatDoor
open Go.ChangeShapes Go.WideShapes Go.ChangeAt Go.RowKit

theorem next_nil (w : World) : Calls Tryz.prog 18 #[.pointer none] w (Gives w (.tuple #[.int .u64 0, .bool false])) := by
  go_enter Tryz.func18, Tryz.ntmps18
  go_wp2
  go_ret2
  exact ⟨rfl, Below.refl _ _⟩

/-- What Next tells. -/
def nextId (xs : List St) : Value := if best xs xs.length < 0 then .tuple #[.int .u64 0, .bool false] else .tuple #[.int .u64 (xs.getD (best xs xs.length).toNat St.nil).id, .bool true]

theorem next_at (b : Nat) (oa : Option Addr) (xs : List St) (cap : Nat) (clk : Int) (w : World) (hb : w.heap[b]? = some (.cells #[.slice oa xs.length cap, .int .u64 clk] 109 (0, 0))) (hx : Row w oa xs) (hl : xs.length ≤ 9223372036854775807) :
    Calls Tryz.prog 18 #[.pointer (some ⟨b, 0, none⟩)] w (Gives w (nextId xs)) := by
  have HX := Lib.hid hx
  have HB := Lib.hid hb
  clear hx hb
  obtain ⟨B, hB⟩ : ∃ B, B = best xs xs.length := ⟨_, rfl⟩
  have hbd := best_bd xs xs.length
  rw [← hB] at hbd
  have HBB := Lib.hid hB
  have hn : nextId xs = if B < 0 then .tuple #[.int .u64 0, .bool false] else .tuple #[.int .u64 (xs.getD B.toNat St.nil).id, .bool true] := by unfold nextId; rw [hB]
  have HN := Lib.hid hn
  clear hn hB
  go_enter Tryz.func18, Tryz.ntmps18
  go_wp2_with fail
  refine (next_any b oa xs cap clk _ HB.out HX.out hl).mono ?_
  rintro e w1 ⟨rfl, hb1⟩
  rw [← HBB.out]
  have c0 : w1.cell? ⟨b, 0, none⟩ = some (.slice oa xs.length cap) := by rw [hb1.cell (lt_of_block HB.out)]; simp [World.cell?, HB.out]
  have HX1 := Lib.hid (HX.out.below hb1)
  have H1 := Lib.hid hb1
  clear hb1
  by_cases hneg : B < 0
  · go_wp2_with fail
    go_ret2
    exact ⟨by rw [HN.out, if_pos hneg]; rfl, H1.out⟩
  · obtain ⟨m, rfl⟩ : ∃ m : Nat, B = m := ⟨B.toNat, by omega⟩
    have hm : m < xs.length := by omega
    obtain ⟨g, off, rfl, x0, x1, x2, x3, x4⟩ := HX1.out m hm
    clear x1 x2 x3 x4
    go_wp2_with fail
    go_ret2
    exact ⟨by rw [HN.out, if_neg (by omega), Int.toNat_natCast, getD_lt hm]; rfl, H1.out⟩

def cmpv (a b : Int) : Int := if a < b then -1 else if b < a then 1 else 0

theorem cmp_any (s : St) (id : Int) (w : World) : Calls Tryz.prog 88 #[s.val, .int .u64 id] w (Gives w (.int .i64 (cmpv s.id id))) := by
  unfold St.val
  obtain ⟨i, u, n, r, v⟩ := s
  have HW : Hid (Below w.heap.size w (w.alloc (Obj.cells #[.int .u64 i, .int .u8 u, .bool n, .bool r, .int .u64 v] 106))) := Lib.hid ((Below.refl _ w).alloc (Nat.le_refl _) _)
  rcases Int.lt_trichotomy i id with h | h | h
  · go_enter Tryz.func88, Tryz.ntmps88
    go_wp2
    go_ret
    exact ⟨by unfold cmpv; rw [if_pos h]; rfl, HW.out⟩
  · subst h
    go_enter Tryz.func88, Tryz.ntmps88
    go_wp2
    go_ret
    exact ⟨by unfold cmpv; rw [if_neg (by omega), if_neg (by omega)]; rfl, HW.out⟩
  · go_enter Tryz.func88, Tryz.ntmps88
    go_wp2
    go_ret
    exact ⟨by unfold cmpv; rw [if_neg (by omega), if_pos h]; rfl, HW.out⟩

/-- The place of a number in streams by rising numbers. -/
def placeOf (xs : List St) (id : Int) : Nat := (xs.takeWhile fun s => decide (s.id < id)).length
def Rising (xs : List St) : Prop := ∀ i j (hi : i < xs.length) (hj : j < xs.length), i < j → xs[i].id < xs[j].id
def hasId (xs : List St) (id : Int) : Bool := xs.any fun s => decide (s.id = id)

theorem takeWhile_len {α : Type} (p : α → Bool) : ∀ (xs : List α) (k : Nat), k ≤ xs.length → (∀ i (h : i < xs.length), i < k → p xs[i] = true) → (∀ (h : k < xs.length), p xs[k] = false) → (xs.takeWhile p).length = k
  | [], k, hk, _, _ => by simp at hk; simp [hk]
  | x :: xs, 0, _, _, h2 => by
    have := h2 (by simp)
    simp at this
    simp [this]
  | x :: xs, k + 1, hk, h1, h2 => by
    have h0 := h1 0 (by simp) (by omega)
    simp at h0
    rw [List.takeWhile_cons, if_pos h0, List.length_cons]
    rw [takeWhile_len p xs k (by simpa using hk) (fun i h hi => by have := h1 (i + 1) (by simpa using h) (by omega); simpa using this) (fun h => by have := h2 (by simpa using h); simpa using this)]

theorem placeOf_eq {xs : List St} {id : Int} {k : Nat} (hk : k ≤ xs.length) (h1 : ∀ i (h : i < xs.length), i < k → xs[i].id < id) (h2 : ∀ (h : k < xs.length), id ≤ xs[k].id) : placeOf xs id = k :=
  takeWhile_len _ xs k hk (fun i h hi => by simpa using h1 i h hi) (fun h => by have := h2 h; simp; omega)

theorem hasId_eq {xs : List St} {id : Int} {k : Nat} (hr : Rising xs) (hk : k ≤ xs.length) (h1 : ∀ i (h : i < xs.length), i < k → xs[i].id < id) (h2 : ∀ i (h : i < xs.length), k ≤ i → id ≤ xs[i].id) :
    hasId xs id = if h : k < xs.length then decide (xs[k].id = id) else false := by
  unfold hasId
  split
  · rename_i hlt
    rw [Bool.eq_iff_iff]
    simp only [List.any_eq_true, decide_eq_true_eq]
    constructor
    · rintro ⟨s, hs, he⟩
      obtain ⟨i, hi, rfl⟩ := List.mem_iff_getElem.1 hs
      rcases Nat.lt_trichotomy i k with h | h | h
      · have := h1 i hi h; omega
      · subst h; exact he
      · have := hr k i hlt hi h; have := h2 k hlt (Nat.le_refl _); omega
    · intro he; exact ⟨xs[k], List.getElem_mem _, he⟩
  · rename_i hlt
    rw [Bool.eq_false_iff]
    simp only [ne_eq, List.any_eq_true, decide_eq_true_eq]
    rintro ⟨s, hs, he⟩
    obtain ⟨i, hi, rfl⟩ := List.mem_iff_getElem.1 hs
    have := h1 i hi (by omega); omega

def BinRel (xs : List St) (id : Int) (w : World) (i j : Value) (wr : World) : Prop :=
  ∃ p q : Nat, p ≤ q ∧ q ≤ xs.length ∧ i = .int .i64 p ∧ j = .int .i64 q ∧ Below w.heap.size w wr ∧ (∀ n (h : n < xs.length), n < p → xs[n].id < id) ∧ (∀ n (h : n < xs.length), q ≤ n → id ≤ xs[n].id)

set_option maxRecDepth 100000 in
theorem bin_any (oa : Option Addr) (xs : List St) (cap : Nat) (id : Int) (w : World) (hx : Row w oa xs) (hr : Rising xs) (hl : xs.length ≤ 4611686018427387904) :
    Calls Tryz.prog 87 #[.slice oa xs.length cap, .int .u64 id, .func (.func 88) #[] #[]] w (Gives w (.tuple #[.int .i64 (placeOf xs id), .bool (hasId xs id)])) := by
  have HX := Lib.hid hx
  have HR := Lib.hid hr
  clear hx hr
  go_enter Tryz.func87, Tryz.ntmps87
  go_wp2_with fail
  go_loopw [9, 10] (fun i j wr => BinRel xs id w i j wr) (fun i j _ => (intOf j).toNat - (intOf i).toNat)
  case atStart => exact ⟨0, xs.length, by omega, by omega, rfl, rfl, Below.refl _ _, fun n h hn => by omega, fun n h hn => by omega⟩
  case round =>
    obtain ⟨p, q, hpq, hq, rfl, rfl, hbel, h1, h2⟩ := hrel
    have HBEL := Lib.hid hbel
    have H1 := Lib.hid h1
    have H2 := Lib.hid h2
    clear hbel h1 h2
    by_cases hlt : p < q
    · have hmq : (p + q) / 2 < xs.length := by omega
      obtain ⟨g, off, rfl, x0, x1, x2, x3, x4⟩ := HX.out.below HBEL.out _ hmq
      obtain ⟨s, hs⟩ : ∃ s, s = xs[(p + q) / 2] := ⟨_, rfl⟩
      rw [← hs] at x0 x1 x2 x3 x4
      have HS := Lib.hid hs
      clear hs
      go_wp2_with fail
      refine (cmp_any s id _).mono ?_
      rintro e w1 ⟨rfl, hb1⟩
      have HB1 := Lib.hid (HBEL.out.trans (hb1.mono HBEL.out.size))
      clear hb1 x0 x1 x2 x3 x4
      by_cases hcmp : s.id < id
      · rw [show cmpv s.id id = -1 from by unfold cmpv; rw [if_pos hcmp]]
        have HC := Lib.hid hcmp
        clear hcmp
        go_wp2_with fail
        go_roundw
        case rel =>
          refine ⟨(p + q) / 2 + 1, q, by omega, by omega, by go_num, rfl, HB1.out, fun n h hn => ?_, H2.out⟩
          have h1 : xs[(p + q) / 2].id < id := by rw [← HS.out]; exact HC.out
          rcases Nat.lt_or_ge n ((p + q) / 2) with h2 | h2
          · have := HR.out n _ h hmq h2; omega
          · have : n = (p + q) / 2 := by omega
            subst this; exact h1
        case measure => simp [intOf]; omega
      · obtain ⟨c, hc⟩ : ∃ c, c = cmpv s.id id := ⟨_, rfl⟩
        rw [← hc]
        have hc0 : 0 ≤ c := by rw [hc]; unfold cmpv; rw [if_neg hcmp]; split <;> omega
        have HC : Hid (id ≤ s.id) := Lib.hid (by omega)
        clear hcmp hc
        go_wp2_with fail
        go_roundw
        case rel =>
          refine ⟨p, (p + q) / 2, by omega, by omega, rfl, by go_num, HB1.out, H1.out, fun n h hn => ?_⟩
          have h1 : id ≤ xs[(p + q) / 2].id := by rw [← HS.out]; exact HC.out
          rcases Nat.lt_or_ge ((p + q) / 2) n with h2 | h2
          · have := HR.out _ n hmq h h2; omega
          · have : n = (p + q) / 2 := by omega
            subst this; exact h1
        case measure => simp [intOf]; omega
    · obtain rfl : q = p := by omega
      have hpl : placeOf xs id = q := placeOf_eq hq H1.out (fun h => H2.out q h (Nat.le_refl _))
      have hhas := hasId_eq HR.out hq H1.out H2.out
      have HPL := Lib.hid hpl
      have HHAS := Lib.hid hhas
      clear hhas hpl
      by_cases hend : q < xs.length
      · obtain ⟨g, off, rfl, x0, x1, x2, x3, x4⟩ := HX.out.below HBEL.out _ hend
        obtain ⟨s, hs⟩ : ∃ s, s = xs[q] := ⟨_, rfl⟩
        rw [← hs] at x0 x1 x2 x3 x4
        have HS := Lib.hid hs
        clear hs
        go_wp2_with fail
        refine (cmp_any s id _).mono ?_
        rintro e w1 ⟨rfl, hb1⟩
        have HB1 := Lib.hid (HBEL.out.trans (hb1.mono HBEL.out.size))
        clear hb1 x0 x1 x2 x3 x4
        by_cases hcmp : s.id = id
        · rw [show cmpv s.id id = 0 from by unfold cmpv; rw [if_neg (by omega), if_neg (by omega)]]
          have HC := Lib.hid hcmp
          clear hcmp
          go_wp2_with fail
          go_ret2
          exact ⟨by rw [HPL.out, HHAS.out, dif_pos hend, ← HS.out, decide_eq_true HC.out]; rfl, HB1.out⟩
        · obtain ⟨c, hc⟩ : ∃ c, c = cmpv s.id id := ⟨_, rfl⟩
          rw [← hc]
          have hc0 : (c == 0) = false := by rw [hc]; unfold cmpv; split; rfl; split; rfl; omega
          have HC := Lib.hid hcmp
          clear hcmp hc
          go_wp2_with fail
          go_ret2
          exact ⟨by rw [HPL.out, HHAS.out, dif_pos hend, ← HS.out, decide_eq_false HC.out]; rfl, HB1.out⟩
      · go_wp2_with fail
        go_ret2
        exact ⟨by rw [HPL.out, HHAS.out, dif_neg hend]; rfl, HBEL.out⟩

/-- Where a stream stands, or would. -/
theorem find_at (b : Nat) (oa : Option Addr) (xs : List St) (cap : Nat) (clk id : Int) (w : World) (hb : w.heap[b]? = some (.cells #[.slice oa xs.length cap, .int .u64 clk] 109 (0, 0))) (hx : Row w oa xs) (hr : Rising xs) (hl : xs.length ≤ 4611686018427387904) :
    Calls Tryz.prog 50 #[.pointer (some ⟨b, 0, none⟩), .int .u64 id] w (Gives w (.tuple #[.int .i64 (placeOf xs id), .bool (hasId xs id)])) := by
  have HX := Lib.hid hx
  have HR := Lib.hid hr
  have c0 : w.cell? ⟨b, 0, none⟩ = some (.slice oa xs.length cap) := by simp [World.cell?, hb]
  clear hx hr hb
  go_enter Tryz.func50, Tryz.ntmps50
  go_wp2_with fail
  refine (bin_any oa xs cap id _ HX.out HR.out hl).mono ?_
  rintro e w1 ⟨rfl, hb1⟩
  have H1 := Lib.hid hb1
  clear hb1 c0
  go_wp2_with fail
  go_ret2
  exact ⟨rfl, H1.out⟩
end Go.Proofs.YtnkbhpnflfhhnaaGreatDoor
