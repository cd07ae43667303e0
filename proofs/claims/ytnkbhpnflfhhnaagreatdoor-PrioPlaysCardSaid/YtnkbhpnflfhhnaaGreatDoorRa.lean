import Derived.Test.YtnkbhpnflfhhnaaGreatDoorQl
namespace Go.Proofs.YtnkbhpnflfhhnaaGreatDoor
open Go.ChangeShapes Go.WideShapes Go.ChangeAt Go.RowKit

/-! ### Which stream goes first: one order, two ways to find its first -/
def ik (s : St) : Int := if s.inc = true then 1 else 0
def sk (s : St) : Int := if s.inc = true then s.srv else 0
/-- The order of streams. -/
def before (a b : St) : Prop := a.urg < b.urg ∨ (a.urg = b.urg ∧ (ik a < ik b ∨ (ik a = ik b ∧ (sk a < sk b ∨ (sk a = sk b ∧ a.id < b.id)))))
theorem before_trans {a b c : St} (h : before a b) (k : before b c) : before a c := by unfold before at *; omega
theorem before_asymm {a b : St} (h : before a b) (k : before b a) : False := by unfold before at *; omega
theorem ahead_iff {a b : St} (h : a.id < b.id) : (aheadB a b = true → before a b) ∧ (aheadB a b = false → before b a) := by
  unfold aheadB before ik sk
  obtain ⟨i, u, n, r, s⟩ := a
  obtain ⟨i', u', n', r', s'⟩ := b
  simp only at h ⊢
  by_cases hu : u = u'
  · subst hu
    cases n <;> cases n' <;> simp <;> omega
  · rw [if_neg hu]
    simp only [decide_eq_true_eq, decide_eq_false_iff_not]
    omega

/-- The first of all ready ones is at place b. -/
def FirstAt (xs : List St) (k : Nat) (b : Int) : Prop :=
  (b < 0 ∧ ∀ (j : Nat) (h : j < xs.length), j < k → xs[j].rdy = false) ∨
  (∃ (i : Nat) (h : i < xs.length), i < k ∧ b = i ∧ xs[i].rdy = true ∧ ∀ (j : Nat) (h' : j < xs.length), j < k → j ≠ i → xs[j].rdy = true → before xs[i] xs[j])

theorem best_first {xs : List St} (hr : Rising xs) : ∀ k, k ≤ xs.length → FirstAt xs k (best xs k)
  | 0, _ => .inl ⟨by simp [best], fun j _ h => by omega⟩
  | k + 1, hk => by
    have hlt : k < xs.length := by omega
    have hg : xs.getD k St.nil = xs[k] := by simp [List.getD_eq_getElem?_getD, List.getElem?_eq_getElem hlt]
    unfold best
    rw [hg]
    rcases best_first hr k (by omega) with ⟨h1, h2⟩ | ⟨i, hi, hik, hb, h3, h4⟩
    · by_cases hx : xs[k].rdy = true
      · rw [if_pos ⟨hx, .inl h1⟩]
        refine .inr ⟨k, hlt, by omega, rfl, hx, fun j hj hjk hne hjr => ?_⟩
        have := h2 j hj (by omega)
        rw [hjr] at this
        cases this
      · rw [if_neg (fun h => hx h.1)]
        refine .inl ⟨h1, fun j hj hjk => ?_⟩
        by_cases hjk' : j = k
        · subst hjk'; simpa using hx
        · exact h2 j hj (by omega)
    · have hgi : xs.getD (best xs k).toNat St.nil = xs[i] := by
        rw [hb]; simp [List.getD_eq_getElem?_getD, List.getElem?_eq_getElem hi]
      rw [hgi]
      obtain ⟨ha1, ha2⟩ := ahead_iff (hr i k hi hlt hik)
      by_cases hx : xs[k].rdy = true
      · cases ha : aheadB xs[i] xs[k] with
        | false =>
          rw [if_pos ⟨hx, .inr rfl⟩]
          refine .inr ⟨k, hlt, by omega, rfl, hx, fun j hj hjk hne hjr => ?_⟩
          have hki := ha2 ha
          by_cases hji : j = i
          · subst hji; exact hki
          · exact before_trans hki (h4 j hj (by omega) hji hjr)
        | true =>
          rw [if_neg (fun h => by rcases h.2 with h | h; · omega
                                  · cases h)]
          refine .inr ⟨i, hi, by omega, hb, h3, fun j hj hjk hne hjr => ?_⟩
          by_cases hjk' : j = k
          · subst hjk'; exact ha1 ha
          · exact h4 j hj (by omega) hne hjr
      · rw [if_neg (fun h => hx h.1)]
        refine .inr ⟨i, hi, by omega, hb, h3, fun j hj hjk hne hjr => ?_⟩
        by_cases hjk' : j = k
        · subst hjk'; exact absurd hjr hx
        · exact h4 j hj (by omega) hne hjr

/-! ### The document's way -/
def leastOf (r : List St) : Nat → Int
  | 0 => 8
  | i + 1 => if (r.getD i St.nil).rdy = true ∧ (r.getD i St.nil).urg < leastOf r i then (r.getD i St.nil).urg else leastOf r i
def plainOf (r : List St) (l : Int) : Nat → Int
  | 0 => -1
  | i + 1 => if ((r.getD i St.nil).rdy = true ∧ (r.getD i St.nil).urg = l ∧ (r.getD i St.nil).inc = false) ∧ (plainOf r l i < 0 ∨ (r.getD i St.nil).id < (r.getD (plainOf r l i).toNat St.nil).id) then i else plainOf r l i
def turnOf (r : List St) (l : Int) : Nat → Int
  | 0 => -1
  | i + 1 => if ((r.getD i St.nil).rdy = true ∧ (r.getD i St.nil).urg = l) ∧ (turnOf r l i < 0 ∨ (r.getD i St.nil).srv < (r.getD (turnOf r l i).toNat St.nil).srv ∨ ((r.getD i St.nil).srv = (r.getD (turnOf r l i).toNat St.nil).srv ∧ (r.getD i St.nil).id < (r.getD (turnOf r l i).toNat St.nil).id)) then i else turnOf r l i
def refNext (r : List St) : Int := if 0 ≤ plainOf r (leastOf r r.length) r.length then plainOf r (leastOf r r.length) r.length else turnOf r (leastOf r r.length) r.length

theorem getD_at {r : List St} {i : Nat} (h : i < r.length) : r.getD i St.nil = r[i] := by simp [List.getD_eq_getElem?_getD, List.getElem?_eq_getElem h]

theorem least_spec (r : List St) : ∀ k, k ≤ r.length → leastOf r k ≤ 8 ∧ (∀ (j : Nat) (h : j < r.length), j < k → r[j].rdy = true → leastOf r k ≤ r[j].urg) ∧ (leastOf r k < 8 → ∃ (j : Nat) (h : j < r.length), j < k ∧ r[j].rdy = true ∧ r[j].urg = leastOf r k)
  | 0, _ => ⟨by simp [leastOf], fun j _ h => by omega, fun h => by simp [leastOf] at h⟩
  | k + 1, hk => by
    have hlt : k < r.length := by omega
    obtain ⟨h1, h2, h3⟩ := least_spec r k (by omega)
    unfold leastOf
    rw [getD_at hlt]
    split
    · rename_i h
      refine ⟨by omega, fun j hj hjk hjr => ?_, fun _ => ⟨k, hlt, by omega, h.1, rfl⟩⟩
      by_cases hjk' : j = k
      · subst hjk'; exact Int.le_refl _
      · have := h2 j hj (by omega) hjr; omega
    · rename_i h
      refine ⟨h1, fun j hj hjk hjr => ?_, fun hl => (h3 hl).imp fun j hj => hj.imp fun hj' h' => ⟨by omega, h'.2⟩⟩
      by_cases hjk' : j = k
      · subst hjk'
        have : ¬ r[j].urg < leastOf r j := fun h' => h ⟨hjr, h'⟩
        omega
      · exact h2 j hj (by omega) hjr

theorem plain_spec (r : List St) (l : Int) : ∀ k, k ≤ r.length →
    (plainOf r l k < 0 ∧ ∀ (j : Nat) (h : j < r.length), j < k → ¬ (r[j].rdy = true ∧ r[j].urg = l ∧ r[j].inc = false)) ∨
    (∃ (i : Nat) (h : i < r.length), i < k ∧ plainOf r l k = i ∧ (r[i].rdy = true ∧ r[i].urg = l ∧ r[i].inc = false) ∧ ∀ (j : Nat) (h' : j < r.length), j < k → (r[j].rdy = true ∧ r[j].urg = l ∧ r[j].inc = false) → r[i].id ≤ r[j].id)
  | 0, _ => .inl ⟨by simp [plainOf], fun j _ h => by omega⟩
  | k + 1, hk => by
    have hlt : k < r.length := by omega
    unfold plainOf
    rw [getD_at hlt]
    rcases plain_spec r l k (by omega) with ⟨h1, h2⟩ | ⟨i, hi, hik, hb, h3, h4⟩
    · by_cases hx : r[k].rdy = true ∧ r[k].urg = l ∧ r[k].inc = false
      · rw [if_pos ⟨hx, .inl h1⟩]
        refine .inr ⟨k, hlt, by omega, rfl, hx, fun j hj hjk hjr => ?_⟩
        by_cases hjk' : j = k
        · subst hjk'; exact Int.le_refl _
        · exact absurd hjr (h2 j hj (by omega))
      · rw [if_neg (fun h => hx h.1)]
        refine .inl ⟨h1, fun j hj hjk => ?_⟩
        by_cases hjk' : j = k
        · subst hjk'; exact hx
        · exact h2 j hj (by omega)
    · have hgi : r.getD (plainOf r l k).toNat St.nil = r[i] := by rw [hb]; exact getD_at hi
      rw [hgi]
      by_cases hx : (r[k].rdy = true ∧ r[k].urg = l ∧ r[k].inc = false) ∧ r[k].id < r[i].id
      · rw [if_pos ⟨hx.1, .inr hx.2⟩]
        refine .inr ⟨k, hlt, by omega, rfl, hx.1, fun j hj hjk hjr => ?_⟩
        by_cases hjk' : j = k
        · subst hjk'; exact Int.le_refl _
        · have := h4 j hj (by omega) hjr; omega
      · rw [if_neg (fun h => by rcases h.2 with h' | h'; · omega
                                · exact hx ⟨h.1, h'⟩)]
        refine .inr ⟨i, hi, by omega, hb, h3, fun j hj hjk hjr => ?_⟩
        by_cases hjk' : j = k
        · subst hjk'
          have : ¬ r[j].id < r[i].id := fun h' => hx ⟨hjr, h'⟩
          omega
        · exact h4 j hj (by omega) hjr

theorem turn_spec (r : List St) (l : Int) : ∀ k, k ≤ r.length →
    (turnOf r l k < 0 ∧ ∀ (j : Nat) (h : j < r.length), j < k → ¬ (r[j].rdy = true ∧ r[j].urg = l)) ∨
    (∃ (i : Nat) (h : i < r.length), i < k ∧ turnOf r l k = i ∧ (r[i].rdy = true ∧ r[i].urg = l) ∧ ∀ (j : Nat) (h' : j < r.length), j < k → (r[j].rdy = true ∧ r[j].urg = l) → r[i].srv < r[j].srv ∨ (r[i].srv = r[j].srv ∧ r[i].id ≤ r[j].id))
  | 0, _ => .inl ⟨by simp [turnOf], fun j _ h => by omega⟩
  | k + 1, hk => by
    have hlt : k < r.length := by omega
    unfold turnOf
    rw [getD_at hlt]
    rcases turn_spec r l k (by omega) with ⟨h1, h2⟩ | ⟨i, hi, hik, hb, h3, h4⟩
    · by_cases hx : r[k].rdy = true ∧ r[k].urg = l
      · rw [if_pos ⟨hx, .inl h1⟩]
        refine .inr ⟨k, hlt, by omega, rfl, hx, fun j hj hjk hjr => ?_⟩
        by_cases hjk' : j = k
        · subst hjk'; exact .inr ⟨rfl, Int.le_refl _⟩
        · exact absurd hjr (h2 j hj (by omega))
      · rw [if_neg (fun h => hx h.1)]
        refine .inl ⟨h1, fun j hj hjk => ?_⟩
        by_cases hjk' : j = k
        · subst hjk'; exact hx
        · exact h2 j hj (by omega)
    · have hgi : r.getD (turnOf r l k).toNat St.nil = r[i] := by rw [hb]; exact getD_at hi
      rw [hgi]
      by_cases hx : (r[k].rdy = true ∧ r[k].urg = l) ∧ (r[k].srv < r[i].srv ∨ (r[k].srv = r[i].srv ∧ r[k].id < r[i].id))
      · rw [if_pos ⟨hx.1, .inr hx.2⟩]
        refine .inr ⟨k, hlt, by omega, rfl, hx.1, fun j hj hjk hjr => ?_⟩
        by_cases hjk' : j = k
        · subst hjk'; exact .inr ⟨rfl, Int.le_refl _⟩
        · have := h4 j hj (by omega) hjr; have := hx.2; omega
      · rw [if_neg (fun h => by rcases h.2 with h' | h'; · omega
                                · exact hx ⟨h.1, h'⟩)]
        refine .inr ⟨i, hi, by omega, hb, h3, fun j hj hjk hjr => ?_⟩
        by_cases hjk' : j = k
        · subst hjk'
          have : ¬ (r[j].srv < r[i].srv ∨ (r[j].srv = r[i].srv ∧ r[j].id < r[i].id)) := fun h' => hx ⟨hjr, h'⟩
          omega
        · exact h4 j hj (by omega) hjr

/-- No number stands twice. -/
def Apart (r : List St) : Prop := r.Pairwise fun a b => a.id ≠ b.id
theorem Apart.at {r : List St} (h : Apart r) {i j : Nat} (hi : i < r.length) (hj : j < r.length) (hn : j ≠ i) : r[i].id ≠ r[j].id := by
  have := List.pairwise_iff_getElem.1 h
  rcases Nat.lt_or_gt_of_ne hn with h' | h'
  · exact fun e => this j i hj hi h' e.symm
  · exact this i j hi hj h'

theorem ref_first {r : List St} (ha : Apart r) (hu : ∀ s ∈ r, s.urg ≤ 7) : FirstAt r r.length (refNext r) := by
  obtain ⟨l1, l2, l3⟩ := least_spec r r.length (Nat.le_refl _)
  unfold refNext
  generalize leastOf r r.length = l at *
  rcases plain_spec r l r.length (Nat.le_refl _) with ⟨p1, p2⟩ | ⟨i, hi, hik, hb, h3, h4⟩
  · rw [if_neg (by omega)]
    rcases turn_spec r l r.length (Nat.le_refl _) with ⟨t1, t2⟩ | ⟨i, hi, hik, hb, h3, h4⟩
    · refine .inl ⟨t1, fun j hj hjk => ?_⟩
      cases hjr : r[j].rdy with
      | false => rfl
      | true =>
        have h7 := hu r[j] (List.getElem_mem hj)
        have h8 := l2 j hj hjk hjr
        obtain ⟨m, hm, hmk, hmr, hmu⟩ := l3 (by omega)
        exact absurd ⟨hmr, hmu⟩ (t2 m hm hmk)
    · refine .inr ⟨i, hi, hik, hb, h3.1, fun j hj hjk hne hjr => ?_⟩
      have hid := ha.at hi hj hne
      have hlj := l2 j hj hjk hjr
      have hincI : r[i].inc = true := by
        cases h : r[i].inc with
        | true => rfl
        | false => exact absurd ⟨h3.1, h3.2, h⟩ (p2 i hi hik)
      unfold before
      by_cases hul : r[j].urg = l
      · have hincJ : r[j].inc = true := by
          cases h : r[j].inc with
          | true => rfl
          | false => exact absurd ⟨hjr, hul, h⟩ (p2 j hj hjk)
        have h5 := h4 j hj hjk ⟨hjr, hul⟩
        have := h3.2
        unfold ik sk
        rw [hincI, hincJ]
        simp
        omega
      · have := h3.2
        omega
  · rw [if_pos (by omega)]
    refine .inr ⟨i, hi, hik, hb, h3.1, fun j hj hjk hne hjr => ?_⟩
    have hid := ha.at hi hj hne
    have hlj := l2 j hj hjk hjr
    have hul := h3.2.1
    have hinc := h3.2.2
    unfold before
    by_cases hujl : r[j].urg = l
    · cases hj' : r[j].inc with
      | true =>
        unfold ik
        rw [hinc, hj']
        simp
        omega
      | false =>
        have h5 := h4 j hj hjk ⟨hjr, hujl, hj'⟩
        unfold ik sk
        rw [hinc, hj']
        simp
        omega
    · omega

/-- Two lists of the same streams have the same first one. -/
theorem first_same {xs r : List St} (hp : xs.Perm r) {b k : Int} (hx : FirstAt xs xs.length b) (hr : FirstAt r r.length k) :
    (b < 0 ∧ k < 0) ∨ ∃ (i j : Nat) (hi : i < xs.length) (hj : j < r.length), b = i ∧ k = j ∧ xs[i] = r[j] := by
  rcases hx with ⟨b1, b2⟩ | ⟨i, hi, -, hb, x1, x2⟩
  · rcases hr with ⟨k1, k2⟩ | ⟨j, hj, -, hk, y1, y2⟩
    · exact .inl ⟨b1, k1⟩
    · obtain ⟨i, hi, e⟩ := List.getElem_of_mem (hp.mem_iff.2 (List.getElem_mem hj))
      have := b2 i hi hi
      rw [e, y1] at this
      cases this
  · obtain ⟨m, hm, e⟩ := List.getElem_of_mem (hp.mem_iff.1 (List.getElem_mem hi))
    rcases hr with ⟨k1, k2⟩ | ⟨j, hj, -, hk, y1, y2⟩
    · have := k2 m hm hm
      rw [e, x1] at this
      cases this
    · refine .inr ⟨i, j, hi, hj, hb, hk, ?_⟩
      by_cases hmj : m = j
      · subst hmj; exact e.symm
      · obtain ⟨n, hn, e'⟩ := List.getElem_of_mem (hp.mem_iff.2 (List.getElem_mem hj))
        have h1 := y2 m hm hm hmj (by rw [e]; exact x1)
        rw [e] at h1
        by_cases hni : n = i
        · subst hni; exact e'
        · have h2 := x2 n hn hn hni (by rw [e']; exact y1)
          rw [e'] at h2
          exact (before_asymm h1 h2).elim
/-! ### The plan and the document's list side by side -/
structure Sim (xs r : List St) : Prop where
  perm : xs.Perm r
  rise : Rising xs
  small : ∀ s ∈ r, s.urg ≤ 7

theorem rising_pair (xs : List St) : Rising xs ↔ xs.Pairwise (fun a b => a.id < b.id) := by
  rw [List.pairwise_iff_getElem]
  exact ⟨fun h i j hi hj hij => h i j hi hj hij, fun h i j hi hj hij => h i j hi hj hij⟩
theorem Rising.apart {xs : List St} (h : Rising xs) : Apart xs := ((rising_pair xs).1 h).imp fun h => by omega
theorem Sim.apart {xs r : List St} (h : Sim xs r) : Apart r := (h.perm.pairwise_iff (fun h => fun e => h e.symm)).1 h.rise.apart
theorem Sim.len {xs r : List St} (h : Sim xs r) : xs.length = r.length := h.perm.length_eq
theorem Sim.nil : Sim [] [] := ⟨List.Perm.nil, (rising_pair []).2 (by simp), by simp⟩
theorem has_iff (xs : List St) (id : Int) : hasId xs id = true ↔ ∃ s ∈ xs, s.id = id := by simp [hasId]
theorem Sim.has {xs r : List St} (h : Sim xs r) (id : Int) : hasId xs id = hasId r id := by
  apply Bool.eq_iff_iff.2
  rw [has_iff, has_iff]
  exact ⟨fun ⟨s, hs, e⟩ => ⟨s, h.perm.mem_iff.1 hs, e⟩, fun ⟨s, hs, e⟩ => ⟨s, h.perm.mem_iff.2 hs, e⟩⟩

theorem upd_ids (id : Int) (f : St → St) (hf : ∀ s, (f s).id = s.id) : ∀ s : St, (if s.id = id then f s else s).id = s.id := fun s => by split <;> simp [hf]
theorem sim_upd {xs r : List St} (h : Sim xs r) (id : Int) (f : St → St) (hf : ∀ s, (f s).id = s.id) (hu : ∀ s, s.urg ≤ 7 → (f s).urg ≤ 7) : Sim (upd xs id f) (upd r id f) := by
  refine ⟨h.perm.map _, ?_, fun s hs => ?_⟩
  · rw [rising_pair, upd, List.pairwise_map]
    refine ((rising_pair xs).1 h.rise).imp fun {a b} hab => ?_
    rw [upd_ids id f hf a, upd_ids id f hf b]
    exact hab
  · obtain ⟨t, ht, rfl⟩ := List.mem_map.1 hs
    have := h.small t ht
    split
    · exact hu t this
    · exact this

/-- A change of the one stream of a number is a change at its place. -/
theorem upd_one {r : List St} (ha : Apart r) (i : Nat) (hi : i < r.length) (f : St → St) : upd r r[i].id f = r.set i (f r[i]) := by
  apply List.ext_getElem
  · simp [upd]
  · intro n h1 h2
    have hn : n < r.length := by simpa [upd] using h1
    rw [List.getElem_set]
    simp only [upd, List.getElem_map]
    by_cases hni : i = n
    · subst hni; simp
    · rw [if_neg hni, if_neg]
      exact fun e => ha.at hi hn (fun e' => hni e'.symm) e.symm

theorem takeWhile_split (xs : List St) (id : Int) : xs = xs.take (placeOf xs id) ++ xs.drop (placeOf xs id) := (List.take_append_drop _ _).symm
theorem ins_perm (xs : List St) (s : St) : (ins xs s).Perm (s :: xs) := by
  unfold ins
  have h : (xs.take (placeOf xs s.id) ++ [s] ++ xs.drop (placeOf xs s.id)).Perm (s :: (xs.take (placeOf xs s.id) ++ xs.drop (placeOf xs s.id))) := by
    rw [List.append_assoc]
    exact List.perm_middle
  rwa [List.take_append_drop] at h
theorem ins_rising {xs : List St} (hr : Rising xs) (s : St) (hn : hasId xs s.id = false) : Rising (ins xs s) := by
  have hne : ∀ t ∈ xs, t.id ≠ s.id := fun t ht e => by
    have := (has_iff xs s.id).2 ⟨t, ht, e⟩
    rw [hn] at this; cases this
  have hp := (rising_pair xs).1 hr
  unfold ins placeOf
  clear hr hn
  rw [rising_pair]
  induction xs with
  | nil => simp
  | cons x xs ih =>
    have hx := hne x (List.mem_cons_self)
    rw [List.pairwise_cons] at hp
    by_cases hlt : x.id < s.id
    · have := ih (fun t ht => hne t (List.mem_cons_of_mem _ ht)) hp.2
      rw [List.takeWhile_cons_of_pos (by simpa using hlt), List.length_cons, List.take_succ_cons, List.drop_succ_cons, List.cons_append, List.cons_append, List.pairwise_cons]
      refine ⟨fun t ht => ?_, this⟩
      have ht' : t ∈ xs ∨ t = s := by
        have hm := (ins_perm xs s).mem_iff (a := t)
        unfold ins placeOf at hm
        have := hm.1 ht
        rcases List.mem_cons.1 this with h | h
        · exact .inr h
        · exact .inl h
      rcases ht' with h | rfl
      · exact hp.1 t h
      · exact hlt
    · rw [List.takeWhile_cons_of_neg (by simpa using hlt)]
      simp only [List.length_nil, List.take_zero, List.nil_append, List.drop_zero, List.cons_append, List.pairwise_cons]
      refine ⟨fun t ht => ?_, hp.1, hp.2⟩
      rcases List.mem_cons.1 ht with rfl | ht
      · omega
      · have := hp.1 t ht; omega

def setR (r : List St) (id urg : Int) (inc : Bool) : List St :=
  if 7 < urg then r else if hasId r id = true then upd r id (fun s => { s with urg := urg, inc := inc }) else if 256 ≤ r.length then r else r ++ [⟨id, urg, inc, false, 0⟩]
theorem sim_set {xs r : List St} (h : Sim xs r) (id urg : Int) (inc : Bool) : Sim (setXs xs id urg inc) (setR r id urg inc) := by
  unfold setXs setR
  rw [← h.has, ← h.len]
  split
  · exact h
  · rename_i hu
    split
    · exact sim_upd h id _ (fun _ => rfl) (fun _ _ => by simp only; omega)
    · rename_i hh
      split
      · exact h
      · refine ⟨?_, ins_rising h.rise _ (by simpa using hh), fun s hs => ?_⟩
        · exact (ins_perm xs _).trans ((h.perm.cons _).trans (List.perm_append_singleton _ _).symm)
        · rcases List.mem_append.1 hs with hs | hs
          · exact h.small s hs
          · obtain rfl := List.mem_singleton.1 hs
            simp only; omega
theorem Sim.res {xs r : List St} (h : Sim xs r) (id urg : Int) : setRes xs id urg = if 7 < urg then 2 else if hasId r id = true then 0 else if 256 ≤ r.length then 7 else 0 := by
  unfold setRes
  rw [h.has, h.len]

theorem sim_drop {xs r : List St} (h : Sim xs r) (ids : List Int) : Sim (dropped xs ids) (dropped r ids) := by
  refine ⟨h.perm.filter _, ?_, fun s hs => h.small s (List.mem_filter.1 hs).1⟩
  rw [rising_pair]
  exact ((rising_pair xs).1 h.rise).filter _

theorem Sim.first {xs r : List St} (h : Sim xs r) : (best xs xs.length < 0 ∧ refNext r < 0) ∨ ∃ (i j : Nat) (hi : i < xs.length) (hj : j < r.length), best xs xs.length = i ∧ refNext r = j ∧ xs[i] = r[j] :=
  first_same h.perm (best_first h.rise _ (Nat.le_refl _)) (ref_first h.apart h.small)

/-- What a call of Next or Serve answers. -/
theorem sim_served {xs r : List St} (h : Sim xs r) (clk : Int) : Sim (served xs clk) (if refNext r < 0 then r else upd r (r.getD (refNext r).toNat St.nil).id fun s => { s with srv := clk + 1 }) := by
  unfold served
  rcases h.first with ⟨h1, h2⟩ | ⟨i, j, hi, hj, h1, h2, h3⟩
  · rw [if_pos h1, if_pos h2]; exact h
  · rw [if_neg (by omega), if_neg (by omega), h1, h2, show ((i : Int)).toNat = i from by simp, show ((j : Int)).toNat = j from by simp, getD_at hi, getD_at hj, h3]
    exact sim_upd h _ _ (fun _ => rfl) (fun _ h => h)

/-- A stream's place in the document's list. -/
def plc (id : Int) : List St → Nat → Int
  | [], _ => -1
  | x :: xs, k => if x.id = id then k else plc id xs (k + 1)
theorem plc_cases (id : Int) : ∀ (xs : List St) (k : Nat), (plc id xs k = -1 ∧ ∀ s ∈ xs, s.id ≠ id) ∨ ∃ (i : Nat) (h : i < xs.length), plc id xs k = ((k + i : Nat) : Int) ∧ xs[i].id = id
  | [], k => .inl ⟨rfl, fun s hs => by cases hs⟩
  | x :: xs, k => by
    unfold plc
    by_cases hx : x.id = id
    · rw [if_pos hx]; exact .inr ⟨0, by simp, by simp, by simpa using hx⟩
    · rw [if_neg hx]
      rcases plc_cases id xs (k + 1) with ⟨h1, h2⟩ | ⟨i, h, h1, h2⟩
      · refine .inl ⟨h1, fun s hs => ?_⟩
        rcases List.mem_cons.1 hs with rfl | hs
        · exact hx
        · exact h2 s hs
      · exact .inr ⟨i + 1, by simpa using h, by rw [h1]; omega, by simpa using h2⟩
theorem plc_has (r : List St) (id : Int) : (plc id r 0 < 0 ∧ hasId r id = false) ∨ ∃ (i : Nat) (h : i < r.length), plc id r 0 = i ∧ r[i].id = id ∧ hasId r id = true := by
  rcases plc_cases id r 0 with ⟨h1, h2⟩ | ⟨i, h, h1, h2⟩
  · refine .inl ⟨by omega, ?_⟩
    cases hh : hasId r id with
    | false => rfl
    | true => obtain ⟨s, hs, e⟩ := (has_iff r id).1 hh; exact absurd e (h2 s hs)
  · exact .inr ⟨i, h, by rw [h1]; omega, h2, (has_iff r id).2 ⟨_, List.getElem_mem h, h2⟩⟩

/-- One stream is taken out at its place. -/
theorem erase_place {r : List St} (ha : Apart r) (i : Nat) (hi : i < r.length) (id : Int) (hid : r[i].id = id) : r.take i ++ r.drop (i + 1) = r.filter fun s => !decide (s.id = id) := by
  have h1 : (r.take i).filter (fun s => !decide (s.id = id)) = r.take i := by
    refine List.filter_eq_self.2 fun s hs => ?_
    obtain ⟨j, hj, rfl⟩ := List.getElem_of_mem hs
    have hj' : j < i ∧ j < r.length := by rw [List.length_take] at hj; omega
    rw [List.getElem_take]
    simpa using fun e => ha.at hi hj'.2 (by omega) (hid.trans e.symm)
  have h2 : (r.drop (i + 1)).filter (fun s => !decide (s.id = id)) = r.drop (i + 1) := by
    refine List.filter_eq_self.2 fun s hs => ?_
    obtain ⟨j, hj, rfl⟩ := List.getElem_of_mem hs
    have hj' : i + 1 + j < r.length := by rw [List.length_drop] at hj; omega
    rw [List.getElem_drop]
    simpa using fun e => ha.at hi hj' (by omega) (hid.trans e.symm)
  have h3 : r = r.take i ++ r[i] :: r.drop (i + 1) := by rw [← List.drop_eq_getElem_cons hi, List.take_append_drop]
  have h4 : r.filter (fun s => !decide (s.id = id)) = (r.take i).filter (fun s => !decide (s.id = id)) ++ (r[i] :: r.drop (i + 1)).filter (fun s => !decide (s.id = id)) := by
    rw [← List.filter_append, ← h3]
  rw [h4, List.filter_cons_of_neg (by simp [hid]), h1, h2]
theorem filter_one_len {r : List St} (ha : Apart r) (i : Nat) (hi : i < r.length) (id : Int) (hid : r[i].id = id) : (r.filter fun s => !decide (s.id = id)).length + 1 = r.length := by
  rw [← erase_place ha i hi id hid, List.length_append, List.length_take, List.length_drop]; omega
theorem dropped_snoc (r : List St) (ids : List Int) (id : Int) : (dropped r ids).filter (fun s => !decide (s.id = id)) = dropped r (ids ++ [id]) := by
  unfold dropped
  rw [List.filter_filter]
  apply List.filter_congr
  intro s _
  by_cases h1 : s.id = id <;> by_cases h2 : s.id ∈ ids <;> simp [delB, h1, h2] <;> simp_all
theorem dropped_no {r : List St} {ids : List Int} {id : Int} (h : hasId (dropped r ids) id = false) : dropped r (ids ++ [id]) = dropped r ids := by
  rw [← dropped_snoc]
  refine List.filter_eq_self.2 fun s hs => ?_
  by_cases e : s.id = id
  · have := (has_iff _ id).2 ⟨s, hs, e⟩
    rw [h] at this; cases this
  · simpa using e
theorem Apart.dropped {r : List St} (h : Apart r) (ids : List Int) : Apart (dropped r ids) := h.filter _
end Go.Proofs.YtnkbhpnflfhhnaaGreatDoor
