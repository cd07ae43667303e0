import Derived.Test.YtnkbhpnflfhhnaaGreatDoorSc
namespace Go.Proofs.YtnkbhpnflfhhnaaGreatDoor
open Go.ChangeShapes Go.WideShapes Go.ChangeAt Go.RowKit Go.Maps

/-! ### A map of numbers to priorities -/
def priD (p : Int × Bool) : DataW Unit := .agg [.lit (.int .u8 p.1), .lit (.bool p.2)]
def priElem : Value → Option (DataW Unit × List MemPlace)
  | .agg cs => match cs.toList with
    | [.int .u8 u, .bool i] => some (priD (u, i), [])
    | _ => none
  | _ => none
theorem priElem_mk (u : Int) (i : Bool) : priElem (.agg #[.int .u8 u, .bool i]) = some (priD (u, i), []) := rfl
theorem priElem_inv {v : Value} {p : Int × Bool} {ps : List MemPlace} (h : priElem v = some (priD p, ps)) : v = .agg #[.int .u8 p.1, .bool p.2] := by
  unfold priElem at h
  split at h
  · rename_i cs
    split at h
    · rename_i u i hcs
      simp only [Option.some.injEq, Prod.mk.injEq, priD, DataW.agg.injEq, List.cons.injEq, DataW.lit.injEq, Lit.int.injEq, Lit.bool.injEq, and_true, true_and] at h
      obtain ⟨⟨h1, h2⟩, -⟩ := h
      rw [← h1, ← h2]
      have : cs = #[.int .u8 u, .bool i] := by
        apply Array.toList_inj.1
        rw [hcs]
      rw [this]
    · cases h
  · cases h

/-- Block b is a map that holds f's priorities: nothing reads as the zero one. -/
def MapAt (w : World) (b n : Nat) (f : Int → Int × Bool) : Prop :=
  ∃ D : DataW Unit, w.ownsMap Tryz.prog 29 priElem b n D ∧ ∀ id, D.atKey (.int .u64 id) (priD (0, false)) = priD (f id)

theorem MapAt.made (w : World) : MapAt (w.alloc (.map #[] 0)) w.heap.size 0 (fun _ => (0, false)) :=
  ⟨_, World.ownsMap_made _ _ _ _, fun id => by simp [DataW.atKey]⟩
theorem MapAt.lt {w : World} {b n : Nat} {f : Int → Int × Bool} (h : MapAt w b n f) : b < w.heap.size := by obtain ⟨D, h, -⟩ := h; exact h.lt
theorem MapAt.grown {w w' : World} {b n : Nat} {f : Int → Int × Bool} {o : Option Nat} (h : MapAt w b n f) (hg : w.grownBy w' o) (hne : some b ≠ o) : MapAt w' b n f := h.imp fun _ hx => ⟨hx.1.kept hg hne, hx.2⟩
theorem MapAt.below {w w' : World} {b n : Nat} {f : Int → Int × Bool} (h : MapAt w b n f) (hb : Below w.heap.size w w') : MapAt w' b n f :=
  h.grown (o := none) ⟨hb.os, hb.tape, hb.output, hb.size, fun k hk _ => hb.block k hk⟩ (by simp)
theorem MapAt.keeps {B : Nat} {w w' : World} {b n : Nat} {f : Int → Int × Bool} (h : MapAt w b n f) (hk : Keeps B w w') : MapAt w' b n f := by
  refine h.imp fun D hx => ⟨?_, hx.2⟩
  have hlt := hx.1.lt
  obtain ⟨es, clock, hb, F, hs, hD⟩ := hx.1
  exact ⟨es, clock, (hk.block b hlt (.inr fun cs t fr e => by rw [hb] at e; simp at e)).trans hb, F, hs, hD⟩
theorem MapAt.more {w : World} {b n m : Nat} {f : Int → Int × Bool} (h : MapAt w b n f) (hn : n ≤ m) : MapAt w b m f := h.imp fun _ hx => ⟨hx.1.mono hn, hx.2⟩
theorem MapAt.look {w : World} {b n : Nat} {f : Int → Int × Bool} (h : MapAt w b n f) {id : Int} (hid : W64 id) : (Instr.lookup 64 (.map (some b)) (.int .u64 id) false).run Tryz.prog w = .ok (.agg #[.int .u8 (f id).1, .bool (f id).2]) w := by
  obtain ⟨D, hown, hat⟩ := h
  obtain ⟨v, ps, hrun, hv⟩ := hown.lookup key29 u64 (zero42 w) (priElem_mk 0 false) (keyAt hid)
  rw [hat id] at hv
  rw [hrun, priElem_inv hv]

theorem field42_0 (u : Int) (i : Bool) (W : World) : (Instr.field 42 (.agg #[.int .u8 u, .bool i]) 0).run Tryz.prog W = .ok (.int .u8 u) W := by kernel_rfl
theorem field42_1 (u : Int) (i : Bool) (W : World) : (Instr.field 42 (.agg #[.int .u8 u, .bool i]) 1).run Tryz.prog W = .ok (.bool i) W := by kernel_rfl
def putF (f : Int → Int × Bool) (id : Int) (p : Int × Bool) : Int → Int × Bool := fun k => if k = id then p else f k

section
variable {w : World} {ops : Array Oper} {rest : List Oper} {o : Oper} {a : Act} {Q : Exit → Act → World → Prop}

theorem wpList_pri_put (hg : o.guard = none) (m x v : Operand) (hop : o.op = Op.mapUpdate 64 m x v) (b n : Nat) (f : Int → Int × Bool) (id u : Int) (i : Bool) (hm : a.eval m = .map (some b)) (hs : MapAt w b n f) (hn : n < 1000000)
    (hx : a.eval x = .int .u64 id) (hid : W64 id) (hv : a.eval v = .agg #[.int .u8 u, .bool i]) (hK : ∀ w', MapAt w' b (n + 1) (putF f id (u, i)) → w.grownBy w' (some b) → wpList Tryz.prog ops Q rest (a.put o.dst undef) w') :
    wpList Tryz.prog ops Q (o :: rest) a w := by
  obtain ⟨D, hown, hat⟩ := hs
  refine wpList_mapUpdate_own w hg m x v 64 hop 29 42 key29 u64 priElem b n D hm hown (by unfold maxLen; omega) _ _ (.int .u64 id) hx hv (keyAt hid) (priD (u, i)) [] (priElem_mk u i) fun w' hown' hgr => hK w' ⟨_, hown', fun k => ?_⟩ hgr
  unfold putF
  by_cases e : k = id
  · subst e
    rw [if_pos rfl, atKey_put_same hown.isMap (show WideAt.IsKeyLit (.int .u64 k) from trivial)]
  · rw [if_neg e, atKey_put_other (lit_ne e), hat k]

theorem wpList_pri_del (hg : o.guard = none) (m x : Operand) (hop : o.op = Op.call { callee := Callee.builtin Builtin.delete, args := #[m, x], argTypes := #[64, 29] }) (b n : Nat) (f : Int → Int × Bool) (id : Int) (hm : a.eval m = .map (some b))
    (hs : MapAt w b n f) (hx : a.eval x = .int .u64 id) (hid : W64 id) (hK : ∀ w', MapAt w' b n (putF f id (0, false)) → w.grownBy w' (some b) → wpList Tryz.prog ops Q rest (a.put o.dst (.tuple #[])) w') :
    wpList Tryz.prog ops Q (o :: rest) a w := by
  obtain ⟨D, hown, hat⟩ := hs
  refine wpList_delete_own w hg m x 64 29 hop 42 key29 u64 priElem b n D hm hown _ (.int .u64 id) hx (keyAt hid) fun w' hown' hturn => hK w' ⟨_, hown', fun k => ?_⟩ hturn.grown
  unfold putF
  by_cases e : k = id
  · subst e
    rw [if_pos rfl, atKey_del_same]
  · rw [if_neg e, atKey_del_other (lit_ne e), hat k]
end

/-! ### A set that is gone through -/
def RangeAt (w : World) (b r n : Nat) (ks : List Int) : Prop :=
  ∃ (D : DataW Unit) (left : Lit → Bool) (cnt : Nat), w.ranges Tryz.prog 29 (unitElem (H := Unit)) b r n D left cnt ∧ ∀ id, left (.int .u64 id) = true → id ∈ ks
theorem RangeAt.below {w w' : World} {b r n : Nat} {ks : List Int} (h : RangeAt w b r n ks) (hb : Below w.heap.size w w') : RangeAt w' b r n ks := by
  obtain ⟨D, left, cnt, h1, h2⟩ := h
  exact ⟨D, left, cnt, h1.kept (row := none) ⟨hb.os, hb.tape, hb.output, hb.size, fun k hk _ => hb.block k hk⟩ (by simp) (by simp), h2⟩

section
variable {w : World} {ops : Array Oper} {rest : List Oper} {o : Oper} {a : Act} {Q : Exit → Act → World → Prop}
theorem wpList_set_range (hg : o.guard = none) (m : Operand) (hop : o.op = Op.range 65 m) (b n : Nat) (ks : List Int) (hm : a.eval m = .map (some b)) (hs : SetAt w b n ks)
    (hK : ∀ w', RangeAt w' b w.heap.size n ks → w.grownBy w' none → wpList Tryz.prog ops Q rest (a.put o.dst (.pointer (some ⟨w.heap.size, 0, none⟩))) w') : wpList Tryz.prog ops Q (o :: rest) a w := by
  obtain ⟨D, hown, hsz, hhas⟩ := hs.ex
  exact wpList_range_own w hg m 65 hop 29 66 key29 u65 _ b n D hm hown fun w' hr hgr _ => hK w' ⟨D, _, _, hr, fun id h => of_decide_eq_true (by rw [← hhas id]; exact h)⟩ hgr

theorem wpList_set_next (hg : o.guard = none) (it : Operand) (hop : o.op = Op.next it false) (b r n : Nat) (ks : List Int) (hit : a.eval it = .pointer (some ⟨r, 0, none⟩)) (hr : RangeAt w b r n ks)
    (hDone : wpList Tryz.prog ops Q rest (a.put o.dst (.tuple #[.bool false])) w)
    (hMore : ∀ (x : Int) (w' : World), x ∈ ks → W64 x → RangeAt w' b r n ks → w'.rangeLeft b r < w.rangeLeft b r → w.grownBy w' (some r) → (Instr.entry (.pointer (some ⟨r, 0, none⟩))).run Tryz.prog w' = .ok (.tuple #[.int .u64 x, .agg #[]]) w' →
      wpList Tryz.prog ops Q rest (a.put o.dst (.tuple #[.bool true, .int .u64 x, .agg #[]])) w') : wpList Tryz.prog ops Q (o :: rest) a w := by
  obtain ⟨D, left, cnt, h1, h2⟩ := hr
  refine wpList_next_ranges (α := Int) (β := Unit) w hg it hop 29 key29 (unitElem (H := Unit)) (Value.int .u64) (fun _ => .agg #[]) (fun key kl hk => by obtain ⟨x, rfl, _⟩ := keyOf_int_inv u29 hk; exact ⟨x, rfl⟩) (fun v y hv => ⟨(), (unitElem_inv hv).1⟩)
    b r n D left cnt hit h1 (fun _ _ => hDone) fun x _ kl y w' cnt' hk hl hv hat hr' hlt hgr _ hen => ?_
  obtain ⟨x', e1, rfl, hw⟩ := keyOf_int_inv u29 hk
  cases e1
  exact hMore x w' (h2 x hl) (bounds_u64 hw) ⟨D, _, cnt', hr', fun id h => h2 id (by simp only [Bool.and_eq_true] at h; exact h.1)⟩ (by rw [hr'.left_eq, h1.left_eq]; exact hlt) hgr hen
end

theorem wpList_set_len_g {w : World} {ops : Array Oper} {rest : List Oper} {o : Oper} {a : Act} {Q : Exit → Act → World → Prop} (hw : Region.wanted o (yielded ops a.tmps) = true) (m : Operand) (hop : o.op = Op.call { callee := Callee.builtin Builtin.len, args := #[m], argTypes := #[65] }) (b n : Nat) (ks : List Int) (hm : a.eval m = .map (some b)) (hs : SetAt w b n ks)
    (hK : wpList Tryz.prog ops Q rest (a.put o.dst (.int .i64 ks.length)) w) : wpList Tryz.prog ops Q (o :: rest) a w := by
  obtain ⟨D, hown, hsz, hhas⟩ := hs.ex
  refine wpList_step fun K hK' => ?_
  rw [if_pos hw]
  unfold Oper.wp
  simp [execOp, hop, resolve, invoke, builtin, hm, hown.len u65 o.type, Result.andThen]
  refine hK' _ _ ?_
  rw [hsz]
  exact hK

/-- Where a run of PrioFirst stands. -/
structure Fi (w0 : World) (b bs bm n : Nat) (xs : List St) (clk : Int) (rd : List Int) (f : Int → Int × Bool) (w : World) : Prop where
  plan : ∃ v, PlanAt w0.heap.size w b v xs clk
  set : SetAt w bm n rd
  map : MapAt w bs n f
  bel : Below w0.heap.size w0 w
  base : w0.heap.size ≤ bm ∧ w0.heap.size ≤ bs ∧ bs ≠ bm

/-- A plan lies apart from a map. -/
theorem PlanAt.mapped' {B : Nat} {w w' : World} {b bm n : Nat} {v : Value} {xs : List St} {clk : Int} {f : Int → Int × Bool} (h : PlanAt B w b v xs clk) (hs : MapAt w bm n f) (hg : w.grownBy w' (some bm)) : PlanAt B w' b v xs clk := by
  obtain ⟨D, ⟨es, clock, hm, -⟩, -⟩ := hs
  have hbg : b ≠ bm := by
    rintro rfl
    have := h.blk
    rw [hm] at this
    simp at this
  refine ⟨(hg.block b (lt_of_block h.blk) (fun e => hbg (Option.some.inj e))).trans h.blk, h.own.kept hg ?_, h.base, h.len⟩
  right
  rcases h.own.2 with ⟨rfl, -⟩ | ⟨g', cap', cur, rfl, -, hgg', -⟩
  · simp [Value.ownBlock]
  · intro e
    simp [Value.ownBlock] at e
    subst e
    rw [hm] at hgg'
    simp at hgg'

theorem Fi.gives {w0 w w' : World} {b bs bm n : Nat} {xs : List St} {clk : Int} {rd : List Int} {f : Int → Int × Bool} (h : Fi w0 b bs bm n xs clk rd f w) (hb : Below w.heap.size w w') : Fi w0 b bs bm n xs clk rd f w' :=
  ⟨h.plan.imp fun _ h => h.below hb, h.set.below hb, h.map.below hb, h.bel.trans (hb.mono h.bel.size), h.base⟩
theorem Fi.does {w0 w w' : World} {b bs bm n : Nat} {xs ys : List St} {clk clk' : Int} {rd : List Int} {f : Int → Int × Bool} {r : Value} {e : Ending} (h : Fi w0 b bs bm n xs clk rd f w) (hd : Does w0.heap.size w b ys clk' r e w') :
    e = .returned r ∧ Fi w0 b bs bm n ys clk' rd f w' ∧ Keeps w0.heap.size w w' :=
  ⟨hd.1, ⟨hd.2.1, h.set.keeps hd.2.2, h.map.keeps hd.2.2, h.bel.trans (hd.2.2.below h.bel.size), h.base⟩, hd.2.2⟩
theorem Fi.putSet {w0 w w' : World} {b bs bm n n' : Nat} {xs : List St} {clk : Int} {rd rd' : List Int} {f : Int → Int × Bool} (h : Fi w0 b bs bm n xs clk rd f w) (hs : SetAt w' bm n' rd') (hg : w.grownBy w' (some bm)) (hn : n ≤ n') : Fi w0 b bs bm n' xs clk rd' f w' :=
  ⟨h.plan.imp fun _ hp => hp.mapped h.set hg, hs, (h.map.grown hg (fun e => h.base.2.2 (Option.some.inj e))).more hn, h.bel.grown hg h.bel.size (fun j hj => by cases hj; exact h.base.1), h.base⟩
theorem Fi.putMap {w0 w w' : World} {b bs bm n n' : Nat} {xs : List St} {clk : Int} {rd : List Int} {f f' : Int → Int × Bool} (h : Fi w0 b bs bm n xs clk rd f w) (hs : MapAt w' bs n' f') (hg : w.grownBy w' (some bs)) (hn : n ≤ n') : Fi w0 b bs bm n' xs clk rd f' w' :=
  ⟨h.plan.imp fun _ hp => hp.mapped' h.map hg, (h.set.grown hg (fun e => h.base.2.2 (Option.some.inj e).symm)).more hn, hs, h.bel.grown hg h.bel.size (fun j hj => by cases hj; exact h.base.2.1), h.base⟩
theorem Fi.more {w0 w : World} {b bs bm n m : Nat} {xs : List St} {clk : Int} {rd : List Int} {f : Int → Int × Bool} (h : Fi w0 b bs bm n xs clk rd f w) (hn : n ≤ m) : Fi w0 b bs bm m xs clk rd f w := ⟨h.plan, h.set.more hn, h.map.more hn, h.bel, h.base⟩
end Go.Proofs.YtnkbhpnflfhhnaaGreatDoor
