import Derived.Test.YtbmfjffccfmhmaaClH
import Derived.Deep.RegionLaw
import Derived.Maps.AppendAt
import Derived.Laws.AppendOwnNone
namespace Go.Proofs.Ytbmfjffccfmhmaa
open Go.ChangeShapes Go.WideShapes Go.ChangeAt Go.RowKit

/-- append to a row of one's own, as one step of a region that draws its order. -/
theorem step_append_own {P : Program} {ops : Array Oper} {o : Oper} {a : Act} {w : World} {K : Act → World → Prop} {Q : Exit → Act → World → Prop} {E : Prop}
    (hg : o.guard = none) (s x : Operand) (t : TypeId) (hop : o.op = Op.call { callee := Callee.builtin Builtin.append, args := #[s, x], argTypes := #[t, t] })
    (base : Nat) (e : TypeId) (i : TypeInfo) (z : Value) (size bytes : Nat) (ht : P.underlying t = some (.slice e)) (hi : P.info? e = some i) (hz : i.zero = some z)
    (hsize : i.size = size) (hby : i.bytes = bytes) (hzs : z.cells.size = size) (hsz : 0 < size)
    (v : Value) (n : Nat) (xs : List Value) (hs : a.eval s = v) (hown : w.ownsRow base e size v n xs)
    (ad : Addr) (m c : Nat) (news : List Value) (hx : a.eval x = .slice (some ad) m c) (hl : news.length = m * size) (hnews : ∀ j u, news[j]? = some u → w.cell? (ad.add j) = some u) (h1 : ∀ u ∈ news, u.oneCell' = true)
    (h63 : n + m ≤ maxLen) (hbytes : (n + m) * bytes ≤ 140737488355328) (hbase : base ≤ w.heap.size)
    (hK : ∀ v' w', w'.ownsRow base e size v' (n + m) (xs ++ news) → w.grownBy w' v.ownBlock → K (a.put o.dst v') w') :
    if Region.wanted o (yielded ops a.tmps) = true then Oper.wp P o a w K Q else E := by
  have hw : Region.wanted o (yielded ops a.tmps) = true := by simp [Region.wanted, hg]
  rw [if_pos hw]
  obtain ⟨v', w', hr, h2, h3, -, -⟩ := run_append_own_at (P := P) w base t o.type e i z size bytes ht hi hz hsize hby hzs hsz v n xs hown ad m c news hl hnews h1 h63 hbytes hbase
  unfold Oper.wp
  simp [execOp, hop, resolve, invoke, builtin, hs, hx, hr, Result.andThen]
  exact hK v' w' h2 h3
/-- The same where what is appended is a row of one's own, or nil. -/
theorem step_append_row {P : Program} {ops : Array Oper} {o : Oper} {a : Act} {w : World} {K : Act → World → Prop} {Q : Exit → Act → World → Prop} {E : Prop}
    (hg : o.guard = none) (s x : Operand) (t : TypeId) (hop : o.op = Op.call { callee := Callee.builtin Builtin.append, args := #[s, x], argTypes := #[t, t] })
    (base : Nat) (e : TypeId) (i : TypeInfo) (z : Value) (size bytes : Nat) (ht : P.underlying t = some (.slice e)) (hi : P.info? e = some i) (hz : i.zero = some z)
    (hsize : i.size = size) (hby : i.bytes = bytes) (hzs : z.cells.size = size) (hsz : 0 < size)
    (v : Value) (n : Nat) (xs : List Value) (hs : a.eval s = v) (hown : w.ownsRow base e size v n xs)
    (bx : Nat) (xv : Value) (m : Nat) (news : List Value) (hx : a.eval x = xv) (hsrc : w.ownsRow bx e size xv m news) (h1 : ∀ u ∈ news, u.oneCell' = true)
    (h63 : n + m ≤ maxLen) (hbytes : (n + m) * bytes ≤ 140737488355328) (hbase : base ≤ w.heap.size)
    (hK : ∀ v' w', w'.ownsRow base e size v' (n + m) (xs ++ news) → w.grownBy w' v.ownBlock → K (a.put o.dst v') w') :
    if Region.wanted o (yielded ops a.tmps) = true then Oper.wp P o a w K Q else E := by
  have hsrc0 := hsrc
  obtain ⟨hl, hc⟩ := hsrc
  rcases hc with ⟨rfl, rfl⟩ | ⟨g, cap, cur, rfl, -⟩
  · have hw : Region.wanted o (yielded ops a.tmps) = true := by simp [Region.wanted, hg]
    rw [if_pos hw]
    have hnil : news = [] := List.length_eq_zero_iff.1 (by simpa using hl)
    subst hnil
    have hrun := run_append_owned_none (P := P) (w := w) base t o.type e i size ht hi v n xs hown
    unfold Oper.wp
    simp [execOp, hop, resolve, invoke, builtin, hs, hx, hrun, Result.andThen]
    exact hK v w (by simpa using hown) (grown_refl w _)
  · exact step_append_own hg s x t hop base e i z size bytes ht hi hz hsize hby hzs hsz v n xs hs hown ⟨g, 0, none⟩ m cap news hx hl (hsrc0.cells rfl) h1 h63 hbytes hbase hK
def St.first (s : St) : List T3 := if s.idle ≠ 0 then [⟨s.idle, 2, 0⟩] else []
def St.losses (s : St) : List T3 := s.first ++ putL s 3 (fun n => (s.sp n).ls) 3
def St.before (s : St) : List T3 := if s.losses.length = s.first.length then s.losses ++ ptosOf s else s.losses
def allOf (s : St) : List T3 :=
  if s.phase = 3 ∨ s.phase = 4 then [⟨s.close, 1, 0⟩] else if s.phase = 5 then [] else s.before ++ putL s 5 (fun n => (s.sp n).due) 3
theorem ls_of (C : Array Value) (s : St) (h : StAt C s) (k : Nat) (w : World) (hk : k < 3) : Calls Try.prog 26 #[.agg (spc C k)] w (Gives w (.int .u64 (s.sp k).ls)) :=
  loss_of_space _ _ _ (by obtain ⟨-, -, -, -, -, h11, -⟩ := h.sp k hk; rw [spc_get C k 11 h.size hk (by omega)]; exact h11)
theorem due_of (C : Array Value) (s : St) (h : StAt C s) (k : Nat) (w : World) (hk : k < 3) : Calls Try.prog 28 #[.agg (spc C k)] w (Gives w (.int .u64 (s.sp k).due)) :=
  due_of_space _ _ _ (by obtain ⟨-, h6, -⟩ := h.sp k hk; rw [spc_get C k 6 h.size hk (by omega)]; exact h6)
set_option maxHeartbeats 4000000 in
set_option maxRecDepth 100000 in
theorem all_over (C : Array Value) (s : St) (w : World) (h : StAt C s) (hph : s.phase = 3 ∨ s.phase = 4) : Calls Try.prog 19 #[.agg C] w (TimesDoes w [⟨s.close, 1, 0⟩]) := by
  have H : Kpt _ := ⟨h⟩
  clear h
  go_enter Try.func19, Try.ntmps19
  go_upto_region 1 with (with_reducible refine at_box 80 C rfl ?_)
  have C0 := Lib.hid (heap_alloc_last w (.cells C 80))
  have B0 := Lib.hid (show Below w.heap.size w (w.alloc (.cells C 80)) from (Below.refl _ _).alloc (Nat.le_refl _) _)
  have S0 : Hid (w.heap.size ≤ (w.alloc (.cells C 80)).heap.size) := Lib.hid (by simp)
  generalize w.alloc (.cells C 80) = w0 at C0 B0 S0 ⊢
  have c1 : w0.cell? ⟨w.heap.size, 1, none⟩ = some (.int .u8 s.phase) := (cell_of_row _ _ _ _ _ _ C0.out).trans H.out.c1
  have c2 : w0.cell? ⟨w.heap.size, 1035, none⟩ = some (.int .u64 s.close) := (cell_of_row _ _ _ _ _ _ C0.out).trans H.out.t
  rcases hph with hph | hph
  all_goals
    rw [hph] at c1
    clear hph
    go_wp2_with fail
    go_ret
    exact ⟨_, rfl, World.ownsRow_lit w0 #[.int .u64 s.close, .int .u8 1, .int .u8 0] 1 S0.out (by decide) rfl, B0.out.alloc S0.out _⟩
set_option maxHeartbeats 4000000 in
set_option maxRecDepth 100000 in
theorem all_dead (C : Array Value) (s : St) (w : World) (h : StAt C s) (hph : s.phase = 5) : Calls Try.prog 19 #[.agg C] w (TimesDoes w []) := by
  have H : Kpt _ := ⟨h⟩
  clear h
  go_enter Try.func19, Try.ntmps19
  go_upto_region 1 with (with_reducible refine at_box 80 C rfl ?_)
  have C0 := Lib.hid (heap_alloc_last w (.cells C 80))
  have B0 := Lib.hid (show Below w.heap.size w (w.alloc (.cells C 80)) from (Below.refl _ _).alloc (Nat.le_refl _) _)
  generalize w.alloc (.cells C 80) = w0 at C0 B0 ⊢
  have c1 : w0.cell? ⟨w.heap.size, 1, none⟩ = some (.int .u8 s.phase) := (cell_of_row _ _ _ _ _ _ C0.out).trans H.out.c1
  rw [hph] at c1
  clear hph
  go_wp2_with fail
  go_ret
  exact ⟨_, rfl, World.ownsRow_nil _ _ _ _, B0.out⟩
end Go.Proofs.Ytbmfjffccfmhmaa
