import Derived.Test.YtnkbhpnflfhhnaaGreatDoorRa
namespace Go.Proofs.YtnkbhpnflfhhnaaGreatDoor
open Go.ChangeShapes Go.WideShapes Go.ChangeAt Go.RowKit

/-! ### What stands in a plan behind a call -/
theorem upd_mem {xs : List St} {id : Int} {f : St → St} {s : St} : s ∈ upd xs id f ↔ ∃ t ∈ xs, s = if t.id = id then f t else t := by
  unfold upd
  rw [List.mem_map]
  constructor <;> rintro ⟨t, h1, h2⟩ <;> exact ⟨t, h1, h2.symm⟩
theorem ins_mem {xs : List St} {x s : St} : s ∈ ins xs x ↔ s = x ∨ s ∈ xs := by rw [(ins_perm xs x).mem_iff, List.mem_cons]
theorem no_id {xs : List St} {id : Int} (h : hasId xs id = false) {t : St} (ht : t ∈ xs) : t.id ≠ id := fun e => by
  have := (has_iff xs id).2 ⟨t, ht, e⟩
  rw [h] at this; cases this

theorem set_mem {xs : List St} {id u : Int} {i : Bool} {s : St} (hu : u ≤ 7) (hl : xs.length < 256) (h : s ∈ setXs xs id u i) :
    (s ∈ xs ∧ s.id ≠ id) ∨ (s.id = id ∧ s.urg = u ∧ s.inc = i ∧ ((∃ t ∈ xs, t.id = id ∧ s.rdy = t.rdy ∧ s.srv = t.srv) ∨ (hasId xs id = false ∧ s.rdy = false ∧ s.srv = 0))) := by
  unfold setXs at h
  rw [if_neg (by omega)] at h
  cases hh : hasId xs id with
  | true =>
    rw [hh, if_pos rfl] at h
    obtain ⟨t, ht, rfl⟩ := upd_mem.1 h
    by_cases e : t.id = id
    · rw [if_pos e]
      exact .inr ⟨e, rfl, rfl, .inl ⟨t, ht, e, rfl, rfl⟩⟩
    · rw [if_neg e]
      exact .inl ⟨ht, e⟩
  | false =>
    rw [hh, if_neg (by simp), if_neg (by omega)] at h
    rcases ins_mem.1 h with rfl | h
    · exact .inr ⟨rfl, rfl, rfl, .inr ⟨rfl, rfl, rfl⟩⟩
    · exact .inl ⟨h, no_id hh h⟩
theorem set_keep {xs : List St} {id u : Int} {i : Bool} {t : St} (ht : t ∈ xs) (hne : t.id ≠ id) : t ∈ setXs xs id u i := by
  unfold setXs
  split
  · exact ht
  · split
    · exact upd_mem.2 ⟨t, ht, by rw [if_neg hne]⟩
    · split
      · exact ht
      · exact ins_mem.2 (.inr ht)
theorem set_has {xs : List St} {id u : Int} {i : Bool} (hu : u ≤ 7) (hl : xs.length < 256) : ∃ s ∈ setXs xs id u i, s.id = id := by
  unfold setXs
  rw [if_neg (by omega)]
  cases hh : hasId xs id with
  | true =>
    rw [if_pos rfl]
    obtain ⟨t, ht, e⟩ := (has_iff xs id).1 hh
    exact ⟨_, upd_mem.2 ⟨t, ht, rfl⟩, by rw [if_pos e]; exact e⟩
  | false =>
    rw [if_neg (by simp), if_neg (by omega)]
    exact ⟨_, ins_mem.2 (.inl rfl), rfl⟩
theorem upd_len (xs : List St) (id : Int) (f : St → St) : (upd xs id f).length = xs.length := by simp [upd]
theorem set_len (xs : List St) (id u : Int) (i : Bool) : (setXs xs id u i).length ≤ xs.length + 1 := by
  unfold setXs
  split
  · omega
  · split
    · rw [upd_len]; omega
    · split
      · omega
      · rw [(ins_perm xs _).length_eq]; simp
theorem Sim.self {xs : List St} (h : Rising xs) (hs : ∀ s ∈ xs, s.urg ≤ 7) : Sim xs xs := ⟨List.Perm.refl _, h, hs⟩
theorem rdy_mem {xs : List St} {id : Int} {r : Bool} {s : St} (h : s ∈ upd xs id (fun s => { s with rdy := r })) : ∃ t ∈ xs, s.id = t.id ∧ s.urg = t.urg ∧ s.inc = t.inc ∧ s.srv = t.srv ∧ s.rdy = if t.id = id then r else t.rdy := by
  obtain ⟨t, ht, rfl⟩ := upd_mem.1 h
  refine ⟨t, ht, ?_⟩
  split <;> simp

/-! ### PrioTurns -/
structure TInv (mine : List Int) (u : Int) (xs : List St) : Prop where
  rise : Rising xs
  small : ∀ s ∈ xs, s.urg ≤ 7
  ok : ∀ s ∈ xs, s.id ∈ mine → s.urg = u ∧ s.inc = true ∧ s.rdy = true
  rest : ∀ s ∈ xs, s.id ∉ mine → s.urg = 7
  there : ∀ id ∈ mine, ∃ s ∈ xs, s.id = id

theorem TInv.nil (u : Int) : TInv [] u [] := ⟨Sim.nil.rise, by simp, by simp, by simp, by simp⟩

theorem Rising.set {xs : List St} (hr : Rising xs) (hs : ∀ s ∈ xs, s.urg ≤ 7) (id u : Int) (i : Bool) : Rising (setXs xs id u i) := (sim_set (Sim.self hr hs) id u i).rise
theorem Rising.ready {xs : List St} (hr : Rising xs) (hs : ∀ s ∈ xs, s.urg ≤ 7) (id : Int) (r : Bool) : Rising (upd xs id fun s => { s with rdy := r }) := (sim_upd (Sim.self hr hs) id (fun s => { s with rdy := r }) (fun _ => rfl) (fun _ h => h)).rise

theorem TInv.other {u : Int} {xs : List St} (h : TInv [] u xs) (h0 : ∀ s ∈ xs, s.srv = 0) (hl : xs.length < 256) (id : Int) :
    TInv [] u (upd (setXs xs id 7 false) id fun s => { s with rdy := true }) ∧ ∀ s ∈ upd (setXs xs id 7 false) id (fun s => { s with rdy := true }), s.srv = 0 := by
  have hsm : ∀ s ∈ setXs xs id 7 false, s.urg = 7 ∧ s.srv = 0 := fun s hs => by
    rcases set_mem (by omega) hl hs with ⟨h1, -⟩ | ⟨-, h2, -, ⟨t, ht, -, -, e⟩ | ⟨-, -, e⟩⟩
    · exact ⟨h.rest s h1 (by simp), h0 s h1⟩
    · exact ⟨h2, e.trans (h0 t ht)⟩
    · exact ⟨h2, e⟩
  have hr1 := h.rise.set h.small id 7 false
  refine ⟨⟨hr1.ready (fun s hs => by rw [(hsm s hs).1]; omega) id true, fun s hs => ?_, fun s _ hm => (by cases hm), fun s hs _ => ?_, fun id hm => (by cases hm)⟩, fun s hs => ?_⟩
  · obtain ⟨t, ht, -, e, -⟩ := rdy_mem hs
    rw [e, (hsm t ht).1]; omega
  · obtain ⟨t, ht, -, e, -⟩ := rdy_mem hs
    rw [e, (hsm t ht).1]
  · obtain ⟨t, ht, -, -, -, e, -⟩ := rdy_mem hs
    rw [e, (hsm t ht).2]

theorem TInv.mine {mine : List Int} {u : Int} {xs : List St} (h : TInv mine u xs) (hu : u < 7) (h0 : ∀ s ∈ xs, s.srv = 0) (hl : xs.length < 256) (id : Int) :
    TInv (mine ++ [id]) u (upd (setXs xs id u true) id fun s => { s with rdy := true }) ∧ ∀ s ∈ upd (setXs xs id u true) id (fun s => { s with rdy := true }), s.srv = 0 := by
  have hsm : ∀ s ∈ setXs xs id u true, s.urg ≤ 7 ∧ s.srv = 0 := fun s hs => by
    rcases set_mem (by omega) hl hs with ⟨h1, -⟩ | ⟨-, h2, -, ⟨t, ht, -, -, e⟩ | ⟨-, -, e⟩⟩
    · exact ⟨h.small s h1, h0 s h1⟩
    · exact ⟨by omega, e.trans (h0 t ht)⟩
    · exact ⟨by omega, e⟩
  have hr1 := h.rise.set h.small id u true
  refine ⟨⟨hr1.ready (fun s hs => (hsm s hs).1) id true, fun s hs => ?_, fun s hs hm => ?_, fun s hs hm => ?_, fun id' hm => ?_⟩, fun s hs => ?_⟩
  · obtain ⟨t, ht, -, e, -⟩ := rdy_mem hs
    rw [e]; exact (hsm t ht).1
  · obtain ⟨t, ht, e1, e2, e3, -, e4⟩ := rdy_mem hs
    rw [e2, e3, e4]
    rcases set_mem (by omega) hl ht with ⟨h1, h2⟩ | ⟨h1, h2, h3, -⟩
    · rw [if_neg h2]
      refine h.ok t h1 ?_
      rw [e1] at hm
      rcases List.mem_append.1 hm with hm | hm
      · exact hm
      · exact absurd (List.mem_singleton.1 hm) h2
    · rw [if_pos h1]
      exact ⟨h2, h3, rfl⟩
  · obtain ⟨t, ht, e1, e2, -⟩ := rdy_mem hs
    rw [e2]
    rw [e1] at hm
    rcases set_mem (by omega) hl ht with ⟨h1, h2⟩ | ⟨h1, h2, h3, -⟩
    · exact h.rest t h1 (fun hm' => hm (List.mem_append.2 (.inl hm')))
    · exact absurd (List.mem_append.2 (.inr (List.mem_singleton.2 h1))) hm
  · by_cases e : id' = id
    · subst e
      obtain ⟨s, hs, hid⟩ := set_has (xs := xs) (id := id') (u := u) (i := true) (by omega) hl
      exact ⟨_, upd_mem.2 ⟨s, hs, rfl⟩, by rw [if_pos hid]; exact hid⟩
    · obtain ⟨s, hs, hid⟩ := h.there id' (by rcases List.mem_append.1 hm with hm | hm; exact hm; exact absurd (List.mem_singleton.1 hm) e)
      exact ⟨s, upd_mem.2 ⟨s, set_keep hs (by rw [hid]; exact e), by rw [if_neg (by rw [hid]; exact e)]⟩, hid⟩
  · obtain ⟨t, ht, -, -, -, e, -⟩ := rdy_mem hs
    rw [e, (hsm t ht).2]

theorem nodup_le : ∀ (l m : List Int), l.Nodup → (∀ x ∈ l, x ∈ m) → l.length ≤ m.length
  | [], m, _, _ => by simp
  | x :: l, m, hn, hs => by
    rw [List.nodup_cons] at hn
    have h1 := nodup_le l (m.erase x) hn.2 (fun y hy => by
      have hne : y ≠ x := fun e => hn.1 (by rw [← e]; exact hy)
      rw [List.mem_erase_of_ne hne]
      exact hs y (List.mem_cons_of_mem _ hy))
    have h2 := List.length_erase_of_mem (hs x List.mem_cons_self)
    have h3 : 0 < m.length := List.length_pos_of_mem (hs x List.mem_cons_self)
    simp only [List.length_cons]
    omega
theorem missing {l m : List Int} (hn : l.Nodup) (hl : m.length < l.length) : ∃ x ∈ l, x ∉ m := by
  apply Classical.byContradiction
  intro h
  have := nodup_le l m hn (fun x hx => Classical.byContradiction fun hm => h ⟨x, hx, hm⟩)
  omega

/-- Within a round: those that were served in it stand above c0. -/
structure RInv (ids : List Int) (u c0 : Int) (seen : List Int) (xs : List St) : Prop where
  t : TInv ids u xs
  nod : seen.Nodup
  sub : ∀ id ∈ seen, id ∈ ids
  mark : ∀ s ∈ xs, s.id ∈ ids → (s.id ∈ seen ↔ c0 < s.srv)
  top : ∀ s ∈ xs, s.srv ≤ c0 + seen.length

theorem RInv.next {ids seen : List Int} {u c0 : Int} {xs : List St} (h : RInv ids u c0 seen xs) : RInv ids u (c0 + seen.length) [] xs :=
  ⟨h.t, List.nodup_nil, by simp, fun s hs _ => ⟨fun hm => (by cases hm), fun hlt => by have := h.top s hs; omega⟩, fun s hs => by have := h.top s hs; simpa using this⟩

theorem RInv.turn {ids seen : List Int} {u c0 : Int} {xs : List St} (h : RInv ids u c0 seen xs) (hu : u < 7) (hm : ∃ id ∈ ids, id ∉ seen) :
    ∃ (i : Nat) (hi : i < xs.length), best xs xs.length = i ∧ xs[i].id ∈ ids ∧ xs[i].id ∉ seen ∧ RInv ids u c0 (seen ++ [xs[i].id]) (served xs (c0 + seen.length)) := by
  obtain ⟨id0, hid0, hns⟩ := hm
  obtain ⟨s0, hs0, he0⟩ := h.t.there id0 hid0
  obtain ⟨j, hj, rfl⟩ := List.getElem_of_mem hs0
  obtain ⟨u0, i0, r0⟩ := h.t.ok _ hs0 (by rw [he0]; exact hid0)
  have hsrv0 : xs[j].srv ≤ c0 := by
    have := (h.mark _ hs0 (by rw [he0]; exact hid0))
    rw [he0] at this
    have h2 := mt this.2 hns
    omega
  rcases best_first h.t.rise xs.length (Nat.le_refl _) with ⟨-, b2⟩ | ⟨i, hi, -, hb, h3, h4⟩
  · have := b2 j hj hj
    rw [r0] at this; cases this
  · have hmem : xs[i] ∈ xs := List.getElem_mem hi
    have hbef : j ≠ i → before xs[i] xs[j] := fun hne => h4 j hj hj hne r0
    have hin : xs[i].id ∈ ids := by
      by_cases hji : j = i
      · subst hji; rw [he0]; exact hid0
      · apply Classical.byContradiction
        intro hno
        have h7 := h.t.rest _ hmem hno
        have := hbef hji
        unfold before at this
        omega
    obtain ⟨ui, ii, ri⟩ := h.t.ok _ hmem hin
    have hsi : xs[i].srv ≤ c0 := by
      by_cases hji : j = i
      · subst hji; exact hsrv0
      · have := hbef hji
        unfold before ik sk at this
        rw [ii, i0, ui, u0] at this
        simp at this
        omega
    have hnew : xs[i].id ∉ seen := fun hm => by
      have := (h.mark _ hmem hin).1 hm
      omega
    refine ⟨i, hi, hb, hin, hnew, ?_⟩
    have hsv : served xs (c0 + seen.length) = upd xs xs[i].id fun s => { s with srv := c0 + seen.length + 1 } := by
      unfold served
      rw [hb, if_neg (by omega), Int.toNat_natCast, getD_at hi]
    have hsim := sim_upd (Sim.self h.t.rise h.t.small) xs[i].id (fun s => { s with srv := c0 + seen.length + 1 }) (fun _ => rfl) (fun _ h => h)
    have hm : ∀ s ∈ served xs (c0 + seen.length), ∃ t ∈ xs, s.id = t.id ∧ s.urg = t.urg ∧ s.inc = t.inc ∧ s.rdy = t.rdy ∧ s.srv = if t.id = xs[i].id then c0 + seen.length + 1 else t.srv := fun s hs => by
      rw [hsv] at hs
      obtain ⟨t, ht, rfl⟩ := upd_mem.1 hs
      refine ⟨t, ht, ?_⟩
      split <;> simp
    refine ⟨⟨by rw [hsv]; exact hsim.rise, fun s hs => ?_, fun s hs hmm => ?_, fun s hs hmm => ?_, fun id hid => ?_⟩, ?_, fun id hid => ?_, fun s hs hmm => ?_, fun s hs => ?_⟩
    · obtain ⟨t, ht, -, e, -⟩ := hm s hs
      rw [e]; exact h.t.small t ht
    · obtain ⟨t, ht, e1, e2, e3, e4, -⟩ := hm s hs
      rw [e2, e3, e4]; exact h.t.ok t ht (by rw [← e1]; exact hmm)
    · obtain ⟨t, ht, e1, e2, -⟩ := hm s hs
      rw [e2]; exact h.t.rest t ht (by rw [← e1]; exact hmm)
    · obtain ⟨t, ht, e⟩ := h.t.there id hid
      rw [hsv]
      exact ⟨_, upd_mem.2 ⟨t, ht, rfl⟩, by split <;> exact e⟩
    · rw [List.nodup_append]
      refine ⟨h.nod, by simp, fun a ha b hb => ?_⟩
      rw [List.mem_singleton.1 hb]
      exact fun e => hnew (e ▸ ha)
    · rcases List.mem_append.1 hid with hid | hid
      · exact h.sub id hid
      · rw [List.mem_singleton.1 hid]; exact hin
    · obtain ⟨t, ht, e1, -, -, -, e2⟩ := hm s hs
      rw [e1, e2]
      rw [e1] at hmm
      have hk := h.mark t ht hmm
      by_cases e : t.id = xs[i].id
      · rw [if_pos e, e]
        exact ⟨fun _ => by omega, fun _ => List.mem_append.2 (.inr (List.mem_singleton.2 rfl))⟩
      · rw [if_neg e, List.mem_append, hk]
        exact ⟨fun hx => by rcases hx with hx | hx; exact hx; exact absurd (List.mem_singleton.1 hx) e, fun hx => .inl hx⟩
    · obtain ⟨t, ht, -, -, -, -, e2⟩ := hm s hs
      rw [e2, List.length_append, List.length_singleton]
      have := h.top t ht
      split <;> omega

/-! ### PrioFirst -/
/-- The plan, the set of what is ready, and what was set. -/
structure FInv (rd : List Int) (f : Int → Int × Bool) (xs : List St) : Prop where
  rise : Rising xs
  small : ∀ s ∈ xs, s.urg ≤ 7
  rdy : ∀ id, id ∈ rd ↔ ∃ s ∈ xs, s.id = id ∧ s.rdy = true
  set : ∀ s ∈ xs, f s.id = (s.urg, s.inc)

theorem FInv.nil (f : Int → Int × Bool) : FInv [] f [] := ⟨Sim.nil.rise, by simp, by simp, by simp⟩
theorem FInv.same {rd rd' : List Int} {f : Int → Int × Bool} {xs : List St} (h : FInv rd f xs) (e : ∀ id, id ∈ rd' ↔ id ∈ rd) : FInv rd' f xs := ⟨h.rise, h.small, fun id => (e id).trans (h.rdy id), h.set⟩

theorem set_no {xs : List St} {id u : Int} {i : Bool} (h : setRes xs id u ≠ 0) : setXs xs id u i = xs := by
  unfold setRes at h
  unfold setXs
  split
  · rfl
  · rename_i hu
    rw [if_neg hu] at h
    split
    · rename_i hh
      rw [if_pos hh] at h
      exact absurd rfl h
    · rename_i hh
      rw [if_neg hh] at h
      split
      · rfl
      · rename_i hf
        rw [if_neg hf] at h
        exact absurd rfl h
theorem set_yes {xs : List St} {id u : Int} (h : setRes xs id u = 0) : u ≤ 7 ∧ (hasId xs id = true ∨ xs.length < 256) := by
  unfold setRes at h
  split at h
  · cases h
  · refine ⟨by omega, ?_⟩
    split at h
    · exact .inl (by assumption)
    · split at h
      · cases h
      · exact .inr (by omega)
theorem set_mem' {xs : List St} {id u : Int} {i : Bool} {s : St} (hr : setRes xs id u = 0) (h : s ∈ setXs xs id u i) :
    (s ∈ xs ∧ s.id ≠ id) ∨ (s.id = id ∧ s.urg = u ∧ s.inc = i ∧ ((∃ t ∈ xs, t.id = id ∧ s.rdy = t.rdy ∧ s.srv = t.srv) ∨ (hasId xs id = false ∧ s.rdy = false ∧ s.srv = 0))) := by
  obtain ⟨hu, hc⟩ := set_yes hr
  rcases hc with hh | hl
  · unfold setXs at h
    rw [if_neg (by omega), if_pos hh] at h
    obtain ⟨t, ht, rfl⟩ := upd_mem.1 h
    by_cases e : t.id = id
    · rw [if_pos e]
      exact .inr ⟨e, rfl, rfl, .inl ⟨t, ht, e, rfl, rfl⟩⟩
    · rw [if_neg e]
      exact .inl ⟨ht, e⟩
  · exact set_mem hu hl h
theorem set_back {xs : List St} {id u : Int} {i : Bool} {t : St} (hr : setRes xs id u = 0) (ht : t ∈ xs) : ∃ s ∈ setXs xs id u i, s.id = t.id ∧ s.rdy = t.rdy := by
  by_cases e : t.id = id
  · obtain ⟨hu, -⟩ := set_yes hr
    unfold setXs
    rw [if_neg (by omega), if_pos ((has_iff xs id).2 ⟨t, ht, e⟩)]
    exact ⟨_, upd_mem.2 ⟨t, ht, rfl⟩, by rw [if_pos e], by rw [if_pos e]⟩
  · exact ⟨t, set_keep ht e, rfl, rfl⟩

theorem FInv.setOk {rd : List Int} {f : Int → Int × Bool} {xs : List St} (h : FInv rd f xs) {id u : Int} {i : Bool} (hr : setRes xs id u = 0) :
    FInv rd (fun k => if k = id then (u, i) else f k) (setXs xs id u i) := by
  refine ⟨h.rise.set h.small id u i, fun s hs => ?_, fun k => ?_, fun s hs => ?_⟩
  · rcases set_mem' hr hs with ⟨h1, -⟩ | ⟨-, h2, -⟩
    · exact h.small s h1
    · have := (set_yes hr).1; omega
  · rw [h.rdy k]
    constructor
    · rintro ⟨t, ht, e1, e2⟩
      obtain ⟨s, hs, e3, e4⟩ := set_back (i := i) hr ht
      exact ⟨s, hs, e3.trans e1, e4.trans e2⟩
    · rintro ⟨s, hs, e1, e2⟩
      rcases set_mem' hr hs with ⟨h1, -⟩ | ⟨h1, -, -, ⟨t, ht, e3, e4, -⟩ | ⟨-, e3, -⟩⟩
      · exact ⟨s, h1, e1, e2⟩
      · exact ⟨t, ht, by omega, by rw [← e4]; exact e2⟩
      · rw [e2] at e3; cases e3
  · rcases set_mem' hr hs with ⟨h1, h2⟩ | ⟨h1, h2, h3, -⟩
    · simp only [if_neg h2]; exact h.set s h1
    · simp only [if_pos h1, h2, h3]

theorem FInv.ready {rd rd' : List Int} {f : Int → Int × Bool} {xs : List St} (h : FInv rd f xs) (id : Int) (r : Bool) (hrd : ∀ k, k ∈ rd' ↔ if k = id then (hasId xs id = true ∧ r = true) else k ∈ rd) :
    FInv rd' f (upd xs id fun s => { s with rdy := r }) := by
  refine ⟨h.rise.ready h.small id r, fun s hs => ?_, fun k => ?_, fun s hs => ?_⟩
  · obtain ⟨t, ht, -, e, -⟩ := rdy_mem hs
    rw [e]; exact h.small t ht
  · rw [hrd k]
    by_cases e : k = id
    · subst e
      rw [if_pos rfl, has_iff]
      constructor
      · rintro ⟨⟨t, ht, e1⟩, rfl⟩
        exact ⟨_, upd_mem.2 ⟨t, ht, rfl⟩, by rw [if_pos e1]; exact e1, by rw [if_pos e1]⟩
      · rintro ⟨s, hs, e1, e2⟩
        obtain ⟨t, ht, e3, -, -, -, e4⟩ := rdy_mem hs
        rw [if_pos (by omega)] at e4
        exact ⟨⟨t, ht, by omega⟩, by rw [← e4]; exact e2⟩
    · rw [if_neg e, h.rdy k]
      constructor
      · rintro ⟨t, ht, e1, e2⟩
        exact ⟨t, upd_mem.2 ⟨t, ht, by rw [if_neg (by omega)]⟩, e1, e2⟩
      · rintro ⟨s, hs, e1, e2⟩
        obtain ⟨t, ht, e3, -, -, -, e4⟩ := rdy_mem hs
        rw [if_neg (by omega)] at e4
        exact ⟨t, ht, by omega, by rw [← e4]; exact e2⟩
  · obtain ⟨t, ht, e1, e2, e3, -⟩ := rdy_mem hs
    rw [e1, e2, e3]; exact h.set t ht

theorem FInv.drop {rd rd' : List Int} {f f' : Int → Int × Bool} {xs : List St} (h : FInv rd f xs) (ids : List Int) (hrd : ∀ k, k ∈ rd' ↔ k ∈ rd ∧ k ∉ ids) (hf : ∀ k, k ∉ ids → f' k = f k) : FInv rd' f' (dropped xs ids) := by
  have hm : ∀ s, s ∈ dropped xs ids ↔ s ∈ xs ∧ s.id ∉ ids := fun s => by simp [dropped, delB]
  refine ⟨(sim_drop (Sim.self h.rise h.small) ids).rise, fun s hs => h.small s ((hm s).1 hs).1, fun k => ?_, fun s hs => ?_⟩
  · rw [hrd k, h.rdy k]
    constructor
    · rintro ⟨⟨s, hs, e1, e2⟩, hk⟩
      exact ⟨s, (hm s).2 ⟨hs, by rw [e1]; exact hk⟩, e1, e2⟩
    · rintro ⟨s, hs, e1, e2⟩
      obtain ⟨h1, h2⟩ := (hm s).1 hs
      exact ⟨⟨s, h1, e1, e2⟩, by rw [← e1]; exact h2⟩
  · obtain ⟨h1, h2⟩ := (hm s).1 hs
    rw [hf _ h2]; exact h.set s h1

theorem FInv.serve {rd : List Int} {f : Int → Int × Bool} {xs : List St} (h : FInv rd f xs) (clk : Int) : FInv rd f (served xs clk) := by
  unfold served
  split
  · exact h
  · generalize (xs.getD (best xs xs.length).toNat St.nil).id = id
    have hsim := sim_upd (Sim.self h.rise h.small) id (fun s => { s with srv := clk + 1 }) (fun _ => rfl) (fun _ h => h)
    have hm : ∀ s ∈ upd xs id (fun s => { s with srv := clk + 1 }), ∃ t ∈ xs, s.id = t.id ∧ s.urg = t.urg ∧ s.inc = t.inc ∧ s.rdy = t.rdy := fun s hs => by
      obtain ⟨t, ht, rfl⟩ := upd_mem.1 hs
      refine ⟨t, ht, ?_⟩
      split <;> simp
    refine ⟨hsim.rise, hsim.small, fun k => ?_, fun s hs => ?_⟩
    · rw [h.rdy k]
      constructor
      · rintro ⟨t, ht, e1, e2⟩
        exact ⟨_, upd_mem.2 ⟨t, ht, rfl⟩, by split <;> exact e1, by split <;> exact e2⟩
      · rintro ⟨s, hs, e1, e2⟩
        obtain ⟨t, ht, e3, -, -, e4⟩ := hm s hs
        exact ⟨t, ht, by omega, by rw [← e4]; exact e2⟩
    · obtain ⟨t, ht, e1, e2, e3, -⟩ := hm s hs
      rw [e1, e2, e3]; exact h.set t ht

/-- What is told next. -/
theorem FInv.first {rd : List Int} {f : Int → Int × Bool} {xs : List St} (h : FInv rd f xs) :
    (best xs xs.length < 0 ∧ rd = []) ∨ ∃ (i : Nat) (hi : i < xs.length), best xs xs.length = i ∧ xs[i].id ∈ rd ∧
      ∀ k ∈ rd, ¬ (f k).1 < (f xs[i].id).1 ∧ ¬ ((f k).1 = (f xs[i].id).1 ∧ (f xs[i].id).2 = true ∧ (f k).2 = false) := by
  rcases best_first h.rise xs.length (Nat.le_refl _) with ⟨b1, b2⟩ | ⟨i, hi, -, hb, h3, h4⟩
  · refine .inl ⟨b1, ?_⟩
    cases hrd : rd with
    | nil => rfl
    | cons x l =>
      obtain ⟨s, hs, -, e2⟩ := (h.rdy x).1 (by rw [hrd]; exact List.mem_cons_self)
      obtain ⟨j, hj, rfl⟩ := List.getElem_of_mem hs
      rw [b2 j hj hj] at e2; cases e2
  · refine .inr ⟨i, hi, hb, (h.rdy _).2 ⟨_, List.getElem_mem hi, rfl, h3⟩, fun k hk => ?_⟩
    obtain ⟨s, hs, e1, e2⟩ := (h.rdy k).1 hk
    obtain ⟨j, hj, rfl⟩ := List.getElem_of_mem hs
    rw [h.set _ (List.getElem_mem hi), ← e1, h.set _ hs]
    by_cases hji : j = i
    · subst hji
      refine ⟨by simp, ?_⟩
      rintro ⟨-, q1, q2⟩
      simp only at q1 q2
      rw [q1] at q2; cases q2
    · have hbf := h4 j hj hj hji e2
      unfold before ik at hbf
      refine ⟨by simp only; omega, ?_⟩
      rintro ⟨q0, q1, q2⟩
      simp only at q0 q1 q2
      rw [q1, q2, q0] at hbf
      simp at hbf
end Go.Proofs.YtnkbhpnflfhhnaaGreatDoor
