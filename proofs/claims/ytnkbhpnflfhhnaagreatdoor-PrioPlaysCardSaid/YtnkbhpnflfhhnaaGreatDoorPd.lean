import Derived.Test.YtnkbhpnflfhhnaaGreatDoorPc
namespace Go.Proofs.YtnkbhpnflfhhnaaGreatDoor
open Go.ChangeShapes Go.WideShapes Go.ChangeAt Go.RowKit

theorem info106 : (Tryz.prog.info? 106).map (fun i => (i.zero, i.size, i.bytes)) = some (some (.agg #[.int .u64 0, .int .u8 0, .bool false, .bool false, .int .u64 0]), 5, 24) := by kernel_rfl

def InsertDoes (B : Nat) (w : World) (v : Value) (n i : Nat) (L news : List Value) (e : Ending) (w' : World) : Prop :=
  ∃ v', e = .returned v' ∧ w'.ownsRow B 106 5 v' (n + 1) (L.take (i * 5) ++ news ++ L.drop (i * 5)) ∧ w.grownBy w' v.ownBlock

set_option maxRecDepth 100000 in
theorem insert_end (B : Nat) (w : World) (v : Value) (n : Nat) (L news : List Value) (ge : Nat) (hown : w.ownsRow B 106 5 v n L) (hB : B ≤ w.heap.size) (hn : n ≤ 256)
    (hg : w.heap[ge]? = some (.cells news.toArray 106 (0, 0))) (hl : news.length = 5) (h1 : ∀ u ∈ news, u.oneCell' = true) :
    Calls Tryz.prog 51 #[v, .int .i64 n, .slice (some ⟨ge, 0, none⟩) 1 1] w (InsertDoes B w v n n L news) := by
  obtain ⟨i0, hi, hz0, hz1, hz2⟩ := info_parts info106
  have hnews : ∀ j u, news[j]? = some u → w.cell? ((⟨ge, 0, none⟩ : Addr).add j) = some u := by
    intro j u hu
    rw [show (⟨ge, 0, none⟩ : Addr).add j = ⟨ge, j, none⟩ from by unfold Addr.add; split <;> simp_all]
    simp [World.cell?, hg, hu]
  have HO := Lib.hid hown
  have HN := Lib.hid hnews
  have HI := Lib.hid hi
  have HZ0 := Lib.hid hz0
  have HZ1 := Lib.hid hz1
  have HZ2 := Lib.hid hz2
  have HL := Lib.hid hl
  have H1 := Lib.hid h1
  have hlen := hown.1
  have HLEN := Lib.hid hlen
  clear hnews hi hz0 hz1 hz2 hg hl h1 hlen
  rcases hown.2 with ⟨rfl, rfl⟩ | ⟨g, cap, cur, rfl, hbg, hgg, hnc, hcm, hcs, htake⟩
  · clear hown
    go_enter Tryz.func51, Tryz.ntmps51
    go_wp2_with (at_builtin; refine wpList_append_own _ rfl _ _ 107 rfl B 106 i0 _ 5 24 Tryz.underlying107 HI.out HZ0.out HZ1.out HZ2.out rfl (by decide) _ _ _ rfl HO.out ⟨ge, 0, none⟩ 1 1 news rfl (by rw [HL.out]) HN.out H1.out ?c1 ?c2 hB ?_)
    case c1 => unfold maxLen; omega
    case c2 => omega
    intro v' w1 hown1 hgr _
    have HO1 := Lib.hid hown1
    have HGR := Lib.hid hgr
    clear hown1 hgr
    go_wp2_with fail
    go_ret
    refine ⟨_, rfl, ?_, HGR.out⟩
    have := HO1.out
    rwa [List.take_of_length_le (by rw [HLEN.out]; exact Nat.le_refl _), List.drop_of_length_le (by rw [HLEN.out]; exact Nat.le_refl _), List.append_nil]
  · have hcm' := hcm
    unfold maxLen at hcm'
    have HG := Lib.hid hgg
    have HT := Lib.hid htake
    have HC := Lib.hid hcs
    clear hgg htake hcs hown
    rcases Nat.lt_or_ge n cap with hcap | hcap
    · go_enter Tryz.func51, Tryz.ntmps51
      go_wp2_with (at_builtin; refine wpList_append_own _ rfl _ _ 107 rfl B 106 i0 _ 5 24 Tryz.underlying107 HI.out HZ0.out HZ1.out HZ2.out rfl (by decide) _ _ _ rfl HO.out ⟨ge, 0, none⟩ 1 1 news rfl (by rw [HL.out]) HN.out H1.out ?c1 ?c2 hB ?_)
      case c1 => unfold maxLen; omega
      case c2 => omega
      intro v' w1 hown1 hgr _
      have HO1 := Lib.hid hown1
      have HGR := Lib.hid hgr
      clear hown1 hgr
      go_wp2_with fail
      go_ret
      refine ⟨_, rfl, ?_, HGR.out⟩
      have := HO1.out
      rwa [List.take_of_length_le (by rw [HLEN.out]; exact Nat.le_refl _), List.drop_of_length_le (by rw [HLEN.out]; exact Nat.le_refl _), List.append_nil]
    · obtain rfl : cap = n := by omega
      clear hcap hnc
      go_enter Tryz.func51, Tryz.ntmps51
      go_wp2_with (at_builtin; refine wpList_append_own _ rfl _ _ 107 rfl B 106 i0 _ 5 24 Tryz.underlying107 HI.out HZ0.out HZ1.out HZ2.out rfl (by decide) _ _ _ rfl HO.out ⟨ge, 0, none⟩ 1 1 news rfl (by rw [HL.out]) HN.out H1.out ?c1 ?c2 hB ?_)
      case c1 => unfold maxLen; omega
      case c2 => omega
      intro v' w1 hown1 hgr _
      have HO1 := Lib.hid hown1
      have HGR := Lib.hid hgr
      clear hown1 hgr
      go_wp2_with fail
      go_ret
      refine ⟨_, rfl, ?_, HGR.out⟩
      have := HO1.out
      rwa [List.take_of_length_le (by rw [HLEN.out]; exact Nat.le_refl _), List.drop_of_length_le (by rw [HLEN.out]; exact Nat.le_refl _), List.append_nil]

theorem ins_list {α : Type} (A Z R news : List α) (k : Nat) (hk : k ≤ A.length) (h5 : news.length = 5) :
    let A1 := (A.take k ++ Z).take k ++ news ++ (A.take k ++ Z).drop (k + 5)
    (A1.take (k + 5) ++ A.drop k ++ R).take (A.length + 5) = A.take k ++ news ++ A.drop k := by
  intro A1
  have hlk : (A.take k).length = k := by simp; omega
  have e1 : (A.take k ++ Z).take k = A.take k := by rw [List.take_append_of_le_length (by omega), List.take_of_length_le (by omega)]
  have e2 : A1.take (k + 5) = A.take k ++ news := by
    show ((A.take k ++ Z).take k ++ news ++ (A.take k ++ Z).drop (k + 5)).take (k + 5) = _
    rw [e1, List.take_append_of_le_length (by simp; omega), List.take_of_length_le (by simp; omega)]
  rw [e2, List.take_append_of_le_length (by simp; omega), List.take_of_length_le (by simp; omega)]

theorem wpList_append_zeros {P : Program} {w : World} {ops : Array Oper} {rest : List Oper} {o : Oper} {a : Act} {Q : Exit → Act → World → Prop} (hgd : o.guard = none) (s x : Operand) (t u : TypeId)
    (ho : o.op = .call { callee := .builtin .append, args := #[s, x], argTypes := #[t, u] }) (e : TypeId) (i : TypeInfo) (z : Value) (ht : P.underlying t = some (.slice e)) (hu : P.underlying u = some (.int .i64)) (hi : P.info? e = some i) (hz : i.zero = some z)
    (b : Addr) (sLen sCap : Nat) (hs : a.eval s = .slice (some b) sLen sCap) (olds : List Value) (hlo : olds.length = sLen * i.size) (holds : ∀ j v, olds[j]? = some v → w.cell? (b.add j) = some v) (hsz : 0 < i.size)
    (n : Nat) (hx : a.eval x = .int .i64 n) (hn0 : 0 < n) (hg : sCap < sLen + n) (h63 : sLen + n ≤ 4611686018427387904) (hfit : Builtin.nextslicecap (sLen + n) sCap * i.bytes ≤ 281474976710656) (hfit' : n * i.bytes ≤ 281474976710656)
    (hzs : z.cells.size = i.size) (tot : Nat) (htot : sLen + n = tot)
    (h : ∀ (cap : Nat) (Z : List Value) (W : World), tot ≤ cap → cap ≤ maxLen → Z.length = (cap - sLen) * i.size → Hid (W.heap[w.heap.size]? = some (.cells (olds ++ Z).toArray e (0, 0))) → Hid (w.grownBy W none) → wpList P ops Q rest (a.put o.dst (.slice (some ⟨w.heap.size, 0, none⟩) tot cap)) W) : wpList P ops Q (o :: rest) a w := by
  subst htot
  refine wpList_plain hgd fun K hK => ?_
  have hrun := run_append_zeros (P := P) w t u o.type e i z ht hu hi hz b sLen sCap olds hlo holds hsz n hn0 hg h63 hfit hfit'
  have hge := grownCap_ge w (sLen + n) sCap e
  have hh := hK _ _ (h (grownCap w (sLen + n) sCap e) ((Builtin.zeroCells z.cells n).toList ++ (Builtin.zeroCells z.cells (grownCap w (sLen + n) sCap e - (sLen + n))).toList)
    (w.drew.alloc (.cells (olds.toArray ++ Builtin.zeroCells z.cells n ++ Builtin.zeroCells z.cells (grownCap w (sLen + n) sCap e - (sLen + n))) e)) hge (grownCap_le_maxLen w _ _ e (by unfold maxLen; omega))
    (by rw [List.length_append, Array.length_toList, Array.length_toList, size_zeroCells, size_zeroCells, hzs, ← Nat.add_mul]; congr 1; omega)
    (by
      have := heap_alloc_new w.drew (.cells (olds.toArray ++ Builtin.zeroCells z.cells n ++ Builtin.zeroCells z.cells (grownCap w (sLen + n) sCap e - (sLen + n))) e)
      refine Lib.hid (this.trans ?_)
      congr 2
      apply Array.ext'
      simp)
    (Lib.hid ⟨rfl, rfl, rfl, by simp, fun k hk _ => Below.heap_alloc w.drew _ k hk⟩))
  unfold Oper.wp
  simp only [execOp, ho, resolve, invoke, builtin, Sem.run_bind, Sem.run_pure, Result.andThen_ok, List.map_toArray, List.map_cons, List.map_nil, hs, hx, hrun]
  exact hh
end Go.Proofs.YtnkbhpnflfhhnaaGreatDoor
