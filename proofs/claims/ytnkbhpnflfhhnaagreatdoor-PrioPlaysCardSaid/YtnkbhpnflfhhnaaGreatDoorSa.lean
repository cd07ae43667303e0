import Derived.Test.YtnkbhpnflfhhnaaGreatDoorRa
import Derived.Maps.OwnSet
import Derived.Maps.OwnOps
import Derived.Maps.RangeWalk
namespace Go.Proofs.YtnkbhpnflfhhnaaGreatDoor
open Go.ChangeShapes Go.WideShapes Go.ChangeAt Go.RowKit Go.Maps

/-- The number is one of 64 bits. -/
def W64 (id : Int) : Prop := 0 ≤ id ∧ id ≤ 18446744073709551615
theorem W64.wf {id : Int} (h : W64 id) : (Lit.int .u64 id).wf = true := WalkArith.wf_u64 h

theorem u65 : Tryz.prog.underlying 65 = some (.map 29 66) := by kernel_rfl
theorem u64 : Tryz.prog.underlying 64 = some (.map 29 42) := by kernel_rfl
theorem u29 : Tryz.prog.underlying 29 = some (.int .u64) := by kernel_rfl
theorem zero66 (w : World) : (zeroValue 66).run Tryz.prog w = .ok (.agg #[]) w := by kernel_rfl
theorem zero42 (w : World) : (zeroValue 42).run Tryz.prog w = .ok (.agg #[.int .u8 0, .bool false]) w := by kernel_rfl
theorem key29 : Keyed Tryz.prog 29 := int_keyed u29
theorem keyAt {id : Int} (h : W64 id) : keyOf Tryz.prog 29 (.int .u64 id) = some (.int .u64 id) := keyOf_int_mk u29 h.wf

def addI (ks : List Int) (id : Int) : List Int := if id ∈ ks then ks else ks ++ [id]
def delI (ks : List Int) (id : Int) : List Int := ks.filter fun k => !decide (k = id)
theorem mem_addI {ks : List Int} {id k : Int} : k ∈ addI ks id ↔ k ∈ ks ∨ k = id := by
  unfold addI
  split
  · exact ⟨.inl, fun h => by rcases h with h | rfl <;> assumption⟩
  · simp
theorem mem_delI {ks : List Int} {id k : Int} : k ∈ delI ks id ↔ k ∈ ks ∧ k ≠ id := by simp [delI]

theorem delI_len (id : Int) : ∀ (ks : List Int), ks.Nodup → (delI ks id).length + (if decide (id ∈ ks) = true then 1 else 0) = ks.length
  | [], _ => by simp [delI]
  | y :: l, hn => by
    rw [List.nodup_cons] at hn
    have h1 := delI_len id l hn.2
    unfold delI at h1 ⊢
    by_cases e : y = id
    · subst e
      have hno : l.filter (fun k => !decide (k = y)) = l := List.filter_eq_self.2 fun k hk => by
        have : k ≠ y := fun e => hn.1 (by rw [← e]; exact hk)
        simpa using this
      rw [List.filter_cons_of_neg (by simp), hno]
      simp
    · rw [List.filter_cons_of_pos (by simpa using e)]
      have e1 : decide (id ∈ y :: l) = decide (id ∈ l) := by
        have : (id ∈ y :: l) ↔ id ∈ l := by
          rw [List.mem_cons]
          exact ⟨fun h => by rcases h with h | h; exact absurd h.symm e; exact h, .inr⟩
        simp only [this]
      rw [e1, List.length_cons, List.length_cons]
      omega

/-- Block b is a set of numbers: those of the list, each once. -/
structure SetAt (w : World) (b n : Nat) (ks : List Int) : Prop where
  ex : ∃ D : DataW Unit, w.ownsMap Tryz.prog 29 (unitElem (H := Unit)) b n D ∧ Maps.size D = ks.length ∧ ∀ id, Maps.has D (.int .u64 id) = decide (id ∈ ks)
  nodup : ks.Nodup
  wf : ∀ id ∈ ks, W64 id

theorem SetAt.made (w : World) : SetAt (w.alloc (.map #[] 0)) w.heap.size 0 [] :=
  ⟨⟨_, World.ownsMap_made _ _ _ _, rfl, fun id => by simp [Maps.has]⟩, by simp, by simp⟩
theorem SetAt.lt {w : World} {b n : Nat} {ks : List Int} (h : SetAt w b n ks) : b < w.heap.size := by obtain ⟨D, h, -⟩ := h.ex; exact h.lt
theorem SetAt.grown {w w' : World} {b n : Nat} {ks : List Int} {o : Option Nat} (h : SetAt w b n ks) (hg : w.grownBy w' o) (hne : some b ≠ o) : SetAt w' b n ks :=
  ⟨h.ex.imp fun _ hx => ⟨hx.1.kept hg hne, hx.2⟩, h.nodup, h.wf⟩
theorem SetAt.below {w w' : World} {b n : Nat} {ks : List Int} (h : SetAt w b n ks) (hb : Below w.heap.size w w') : SetAt w' b n ks :=
  h.grown (o := none) ⟨hb.os, hb.tape, hb.output, hb.size, fun k hk _ => hb.block k hk⟩ (by simp)
theorem SetAt.keeps {B : Nat} {w w' : World} {b n : Nat} {ks : List Int} (h : SetAt w b n ks) (hk : Keeps B w w') : SetAt w' b n ks := by
  refine ⟨h.ex.imp fun D hx => ⟨?_, hx.2⟩, h.nodup, h.wf⟩
  have hlt := hx.1.lt
  obtain ⟨es, clock, hb, F, hs, hD⟩ := hx.1
  exact ⟨es, clock, (hk.block b hlt (.inr fun cs t fr e => by rw [hb] at e; simp at e)).trans hb, F, hs, hD⟩
theorem SetAt.more {w : World} {b n m : Nat} {ks : List Int} (h : SetAt w b n ks) (hn : n ≤ m) : SetAt w b m ks := ⟨h.ex.imp fun _ hx => ⟨hx.1.mono hn, hx.2⟩, h.nodup, h.wf⟩

theorem lit_ne {a b : Int} (h : a ≠ b) : (Lit.int .u64 a) ≠ .int .u64 b := fun e => h (by injection e)

section
variable {w : World} {ops : Array Oper} {rest : List Oper} {o : Oper} {a : Act} {Q : Exit → Act → World → Prop}

theorem wpList_set_put (hg : o.guard = none) (m x v : Operand) (hop : o.op = Op.mapUpdate 65 m x v) (b n : Nat) (ks : List Int) (id : Int) (hm : a.eval m = .map (some b)) (hs : SetAt w b n ks) (hn : n < 1000000)
    (hx : a.eval x = .int .u64 id) (hid : W64 id) (hv : a.eval v = .agg #[]) (hK : ∀ w', SetAt w' b (n + 1) (addI ks id) → w.grownBy w' (some b) → wpList Tryz.prog ops Q rest (a.put o.dst undef) w') :
    wpList Tryz.prog ops Q (o :: rest) a w := by
  obtain ⟨D, hown, hsz, hhas⟩ := hs.ex
  refine wpList_mapUpdate_own w hg m x v 65 hop 29 66 key29 u65 unitElem b n D hm hown (by unfold maxLen; omega) _ _ (.int .u64 id) hx hv (keyAt hid) (.agg []) [] unitElem_mk fun w' hown' hgr => hK w' ⟨⟨_, hown', ?_, fun k => ?_⟩, ?_, ?_⟩ hgr
  · rw [size_put (hown.tidy key29), hsz, hhas id]
    unfold addI
    by_cases h : id ∈ ks <;> simp [h]
  · by_cases e : k = id
    · subst e
      rw [has_put_same hown.isMap (show WideAt.IsKeyLit (.int .u64 k) from trivial), decide_eq_true (mem_addI.2 (.inr rfl))]
    · rw [has_put_other (lit_ne e), hhas k]
      simp [mem_addI, e]
  · unfold addI
    split
    · exact hs.nodup
    · rename_i h
      rw [List.nodup_append]
      exact ⟨hs.nodup, by simp, fun p hp q hq => by rw [List.mem_singleton.1 hq]; exact fun e => h (e ▸ hp)⟩
  · intro k hk
    rcases mem_addI.1 hk with hk | rfl
    · exact hs.wf k hk
    · exact hid

theorem wpList_set_has (hg : o.guard = none) (m x : Operand) (hop : o.op = Op.lookup 65 m x true) (b n : Nat) (ks : List Int) (id : Int) (hm : a.eval m = .map (some b)) (hs : SetAt w b n ks) (hx : a.eval x = .int .u64 id) (hid : W64 id)
    (hK : wpList Tryz.prog ops Q rest (a.put o.dst (.tuple #[.agg #[], .bool (decide (id ∈ ks))])) w) : wpList Tryz.prog ops Q (o :: rest) a w := by
  obtain ⟨D, hown, hsz, hhas⟩ := hs.ex
  refine wpList_lookup_own_unit w hg m x 65 hop 29 66 key29 u65 (zero66 w) b n D hm hown _ (.int .u64 id) hx (keyAt hid) ?_
  rw [hhas id]
  exact hK

theorem wpList_set_yes (hg : o.guard = none) (m x : Operand) (hop : o.op = Op.lookup 65 m x true) (b n : Nat) (ks : List Int) (id : Int) (hm : a.eval m = .map (some b)) (hs : SetAt w b n ks) (hx : a.eval x = .int .u64 id) (hid : W64 id) (hin : id ∈ ks)
    (hK : wpList Tryz.prog ops Q rest (a.put o.dst (.tuple #[.agg #[], .bool true])) w) : wpList Tryz.prog ops Q (o :: rest) a w :=
  wpList_set_has hg m x hop b n ks id hm hs hx hid (by rw [decide_eq_true hin]; exact hK)
theorem wpList_set_not (hg : o.guard = none) (m x : Operand) (hop : o.op = Op.lookup 65 m x true) (b n : Nat) (ks : List Int) (id : Int) (hm : a.eval m = .map (some b)) (hs : SetAt w b n ks) (hx : a.eval x = .int .u64 id) (hid : W64 id) (hin : id ∉ ks)
    (hK : wpList Tryz.prog ops Q rest (a.put o.dst (.tuple #[.agg #[], .bool false])) w) : wpList Tryz.prog ops Q (o :: rest) a w :=
  wpList_set_has hg m x hop b n ks id hm hs hx hid (by rw [decide_eq_false hin]; exact hK)

theorem wpList_set_len (hg : o.guard = none) (m : Operand) (hop : o.op = Op.call { callee := Callee.builtin Builtin.len, args := #[m], argTypes := #[65] }) (b n : Nat) (ks : List Int) (hm : a.eval m = .map (some b)) (hs : SetAt w b n ks)
    (hK : wpList Tryz.prog ops Q rest (a.put o.dst (.int .i64 ks.length)) w) : wpList Tryz.prog ops Q (o :: rest) a w := by
  obtain ⟨D, hown, hsz, hhas⟩ := hs.ex
  refine wpList_len_own w hg m 65 hop 29 66 u65 _ b n D hm hown ?_
  rw [hsz]
  exact hK

theorem wpList_set_del (hg : o.guard = none) (m x : Operand) (hop : o.op = Op.call { callee := Callee.builtin Builtin.delete, args := #[m, x], argTypes := #[65, 29] }) (b n : Nat) (ks : List Int) (id : Int) (hm : a.eval m = .map (some b))
    (hs : SetAt w b n ks) (hx : a.eval x = .int .u64 id) (hid : W64 id) (hK : ∀ w', SetAt w' b n (delI ks id) → w.grownBy w' (some b) → wpList Tryz.prog ops Q rest (a.put o.dst (.tuple #[])) w') :
    wpList Tryz.prog ops Q (o :: rest) a w := by
  obtain ⟨D, hown, hsz, hhas⟩ := hs.ex
  refine wpList_delete_own w hg m x 65 29 hop 66 key29 u65 unitElem b n D hm hown _ (.int .u64 id) hx (keyAt hid) fun w' hown' hturn => hK w' ⟨⟨_, hown', ?_, fun k => ?_⟩, hs.nodup.filter _, fun k hk => hs.wf k (mem_delI.1 hk).1⟩ hturn.grown
  · have h1 := size_del (k := .int .u64 id) (hown.tidy key29)
    rw [hhas id, hsz] at h1
    have h2 := delI_len id ks hs.nodup
    rw [h2.symm] at h1
    omega
  · by_cases e : k = id
    · subst e
      rw [has_del_same, decide_eq_false (fun h => (mem_delI.1 h).2 rfl)]
    · rw [has_del_other (lit_ne e), hhas k]
      simp [mem_delI, e]
end
end Go.Proofs.YtnkbhpnflfhhnaaGreatDoor
