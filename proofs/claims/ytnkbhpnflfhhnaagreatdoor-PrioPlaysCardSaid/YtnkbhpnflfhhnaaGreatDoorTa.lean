import Derived.Test.YtnkbhpnflfhhnaaGreatDoorRc
import Derived.Deep.Slices
import Derived.Deep.Fields
import Derived.ChangeSame
import Derived.OpenShut
import Derived.ProofKit
import Derived.SizedLaws
import Derived.Test.YtnkbhpnflfhhnaaGreatDoorSa
namespace Go.Proofs.YtnkbhpnflfhhnaaGreatDoor
open Go.ChangeShapes Go.WideShapes Go.Deep Go.RowKit

theorem list_of {α : Type} : ∀ {n : Nat} {P : Nat → α → Prop}, (∀ i, i < n → ∃ x, P i x) → ∃ xs : List α, xs.length = n ∧ ∀ (i : Nat) (h : i < xs.length), P i xs[i]
  | 0, _, _ => ⟨[], rfl, fun i h => by simp at h⟩
  | n + 1, P, h => by
    obtain ⟨xs, hl, hx⟩ := list_of (n := n) (P := P) (fun i hi => h i (by omega))
    obtain ⟨x, hx'⟩ := h n (by omega)
    refine ⟨xs ++ [x], by simp [hl], fun i hi => ?_⟩
    by_cases hin : i < xs.length
    · rw [List.getElem_append_left hin]; exact hx i hin
    · have : i = n := by simp at hi; omega
      subst this
      rw [List.getElem_append_right (by omega)]
      simpa [hl] using hx'

theorem add_at (a : Addr) (n : Nat) (h : a.spot = none) : a.add n = ⟨a.block, a.off + n, none⟩ := by
  unfold Addr.add
  split
  · rename_i h0; subst h0; cases a; simp_all
  · rfl
theorem weightsAll_mem {H : Type} {P : Program} {e : TypeId} {d : DataW H} : ∀ {l : List (DataW H)}, d ∈ l → ∀ n ∈ d.weights P e, n ∈ DataW.weightsAll P e l
  | [], h, _, _ => by cases h
  | x :: l, h, n, hn => by
    simp only [DataW.weightsAll, List.mem_append]
    rcases List.mem_cons.1 h with rfl | h
    · exact .inl hn
    · exact .inr (weightsAll_mem h n hn)
theorem weightsEach_mem {H : Type} {P : Program} {t : TypeId} {d : DataW H} : ∀ {ts : List TypeId} {ds : List (DataW H)} {j : Nat}, ts[j]? = some t → ds[j]? = some d → ∀ n ∈ d.weights P t, n ∈ DataW.weightsEach P ts ds := fun ht hd n hn => DataW.weights_mem_each ht hd n hn

set_option maxRecDepth 100000 in
theorem open_u64s {H : Type} {enc : TypeId × Value → H} {W : World} {fuel : Nat} {cs : List Value} {x : DataW H × List MemPlace} (h : DataW.trod enc Tryz.prog W 0 (fun _ => true) true fuel 57 cs = some x) (hz : ∀ n ∈ x.1.weights Tryz.prog 57, n ≤ reachBytes) :
    ∃ oa ids cap, cs = [.slice oa (List.length ids) cap] ∧ ids.length ≤ 100000000000000 ∧ U64s W oa ids ∧ (∀ id ∈ ids, W64 id) ∧ ∀ j (_ : j < ids.length), ∃ g off, oa = some ⟨g, off, none⟩ ∧ g < W.heap.size := by
  rcases open_ints Tryz.underlying57 u29 (by kernel_rfl) h with ⟨hcs, -⟩ | ⟨a, len, cap, zs, hcs, -, hl, hm, hzl, hx, hat, hwf⟩
  · exact ⟨none, [], 0, by rw [hcs]; rfl, by simp, fun i hi => by simp at hi, by simp, fun j hj => by simp at hj⟩
  · simp only [if_true] at hzl
    have hlen : (zs.take len).length = len := by rw [List.length_take]; omega
    have hsmall : len ≤ 100000000000000 := by
      have hb : Tryz.prog.bytesOf 29 = 8 := by kernel_rfl
      have h1 := hz (((zs.take len).length + (zs.drop len).length) * 8) (by
        rw [hx]
        simp [DataW.weights, Tryz.underlying57, lits, hb])
      rw [hlen] at h1
      have : reachBytes < 2 ^ 47 := reachBytes_lt
      omega
    have hcell : ∀ i, i < len → ∃ g off, some a = some (⟨g, off, none⟩ : Addr) ∧ W.cell? ⟨g, off + i, none⟩ = some (.int .u64 (zs.getD i 0)) := fun i hi => by
      have h1 := hat i (by omega)
      have h0 := World.cell?_spot (hat 0 (by omega))
      have hspot : a.spot = none := by simpa [Addr.add] using h0
      refine ⟨a.block, a.off, by cases a; simp_all, ?_⟩
      rw [← add_at _ _ hspot]; exact h1
    refine ⟨some a, zs.take len, cap, by rw [hcs, hlen], by rw [hlen]; exact hsmall, fun i hi => ?_, fun id hid => bounds_u64 (hwf id (List.mem_of_mem_take hid)), fun j hj => ?_⟩
    · obtain ⟨g, off, h1, h2⟩ := hcell i (by rw [hlen] at hi; exact hi)
      refine ⟨g, off, h1, ?_⟩
      rw [h2, List.getElem_take]
      congr 1
      simp [List.getD_eq_getElem?_getD, List.getElem?_eq_getElem (show i < zs.length by rw [hlen] at hi; omega)]
    · obtain ⟨g, off, h1, h2⟩ := hcell j (by rw [hlen] at hj; exact hj)
      exact ⟨g, off, h1, World.block_lt_of_cell? W _ h2⟩

def U64sArg (w : World) (v : Value) : Prop := ∃ oa ids cap, v = .slice oa (List.length ids) cap ∧ ids.length ≤ 100000000000000 ∧ U64s w oa ids ∧ (∀ id ∈ ids, W64 id) ∧ ∀ j (_ : j < ids.length), ∃ g off, oa = some ⟨g, off, none⟩ ∧ g < w.heap.size
set_option maxRecDepth 100000 in
theorem reads_u64s {H : Type} {enc : TypeId × Value → H} {W : World} {r : Reach} {base : Nat} {v : Value} {d : DataW H} {p : List MemPlace}
    (hv : Value.okWide Tryz.prog W r base 57 v) (h : DataW.Trod enc Tryz.prog W 0 (fun _ => true) true 57 v d p) (hz : ∀ n ∈ d.weights Tryz.prog 57, n ≤ reachBytes) : U64sArg W v := by
  obtain ⟨a, len, cap, rfl⟩ := okWide_slice Tryz.underlying57 hv
  obtain ⟨fuel, hf⟩ := h
  obtain ⟨oa, ids, cap', hcs, h1⟩ := open_u64s hf hz
  simp [Value.cells] at hcs
  obtain ⟨rfl, rfl, rfl⟩ := hcs
  exact ⟨_, ids, _, rfl, h1⟩

set_option maxRecDepth 100000 in
theorem open_do {H : Type} {enc : TypeId × Value → H} {W : World} {fuel : Nat} {cs : List Value} {x : DataW H × List MemPlace} (h : DataW.trod enc Tryz.prog W 0 (fun _ => true) true fuel 59 cs = some x) (hz : ∀ n ∈ x.1.weights Tryz.prog 59, n ≤ reachBytes) :
    ∃ y : DoV, cs = [.int .u8 y.kind, .int .u64 y.id, .int .u8 y.urg, .bool y.inc, .bool y.is, .slice y.oi y.ids.length y.ci] ∧ W64 y.id ∧ 0 ≤ y.urg ∧ y.urg ≤ 255 ∧ 0 ≤ y.kind ∧ y.kind ≤ 255 ∧ y.ids.length ≤ 100000000000000 ∧ U64s W y.oi y.ids ∧ (∀ id ∈ y.ids, W64 id) ∧ ∀ j (_ : j < y.ids.length), ∃ g off, y.oi = some ⟨g, off, none⟩ ∧ g < W.heap.size := by
  obtain ⟨xs, n, -, rfl, hl, hxl, hf⟩ := DataW.trod_struct Tryz.underlying59 h
  have hc : Tryz.prog.cellsOf 59 = 6 := by kernel_rfl
  have e5 : Tryz.prog.cellsOf 5 = 1 := by kernel_rfl
  have e29 : Tryz.prog.cellsOf 29 = 1 := by kernel_rfl
  have e42 : Tryz.prog.cellsOf 42 = 2 := by kernel_rfl
  have e4 : Tryz.prog.cellsOf 4 = 1 := by kernel_rfl
  have e57 : Tryz.prog.cellsOf 57 = 1 := by kernel_rfl
  rw [hc] at hl
  match xs, hxl, cs, hl with
  | [y0, y1, y2, y3, y4], _, [c0, c1, c2, c3, c4, c5], _ =>
    have k0 : DataW.trod enc Tryz.prog W 0 (fun _ => true) true n 5 (([c0, c1, c2, c3, c4, c5].drop 0).take (Tryz.prog.cellsOf 5)) = some y0 := hf 0 _ rfl
    have k1 : DataW.trod enc Tryz.prog W 0 (fun _ => true) true n 29 (([c0, c1, c2, c3, c4, c5].drop 1).take (Tryz.prog.cellsOf 29)) = some y1 := hf 1 _ rfl
    have k2 : DataW.trod enc Tryz.prog W 0 (fun _ => true) true n 42 (([c0, c1, c2, c3, c4, c5].drop 2).take (Tryz.prog.cellsOf 42)) = some y2 := hf 2 _ rfl
    have k3 : DataW.trod enc Tryz.prog W 0 (fun _ => true) true n 4 (([c0, c1, c2, c3, c4, c5].drop 4).take (Tryz.prog.cellsOf 4)) = some y3 := hf 3 _ rfl
    have k4 : DataW.trod enc Tryz.prog W 0 (fun _ => true) true n 57 (([c0, c1, c2, c3, c4, c5].drop 5).take (Tryz.prog.cellsOf 57)) = some y4 := hf 4 _ rfl
    rw [e5] at k0
    rw [e29] at k1
    rw [e42] at k2
    rw [e4] at k3
    rw [e57] at k4
    simp only [List.drop_zero, List.take_succ_cons, List.take_zero, List.drop_succ_cons] at k0 k1 k2 k3 k4
    obtain ⟨a, ea, -, wa⟩ := DataW.trod_int Tryz.underlying5 k0
    obtain ⟨b, eb, -, wb⟩ := DataW.trod_int u29 k1
    obtain ⟨z0, z1, n', -, -, q0, q1⟩ := trod_struct2 Tryz.underlying42 k2
    simp only [e5, e4, List.drop_zero, List.take_succ_cons, List.take_zero, List.drop_succ_cons] at q0 q1
    obtain ⟨u, eu, -, wu⟩ := DataW.trod_int Tryz.underlying5 q0
    obtain ⟨i, ei, -⟩ := DataW.trod_bool Tryz.underlying4 q1
    obtain ⟨s, es, -⟩ := DataW.trod_bool Tryz.underlying4 k3
    simp only [List.cons.injEq, and_true] at ea eb eu ei es
    subst ea eb eu ei es
    obtain ⟨oa, ids, cap, ec, h1, h2, h3, h4⟩ := open_u64s k4 (fun m hm => hz m (by
      simp only [DataW.weights, Tryz.underlying59, List.map_cons, List.map_nil]
      exact DataW.weights_mem_each (j := 4) rfl rfl m hm))
    simp only [List.cons.injEq, and_true] at ec
    subst ec
    have ha := bounds_u8 wa
    have hu := bounds_u8 wu
    exact ⟨⟨a, b, u, i, s, oa, cap, ids⟩, rfl, bounds_u64 wb, hu.1, hu.2, ha.1, ha.2, h1, h2, h3, h4⟩

/-- A script as an argument. -/
def DosArg (w : World) (v : Value) : Prop := ∃ oa l cap, v = .slice oa (List.length l) cap ∧ l.length ≤ 4611686018427387904 ∧ DoRow w.heap.size w oa l ∧ ∀ y ∈ l, W64 y.id ∧ 0 ≤ y.urg ∧ y.urg ≤ 255 ∧ ∀ id ∈ y.ids, W64 id
set_option maxRecDepth 100000 in
theorem reads_dos {H : Type} {enc : TypeId × Value → H} {W : World} {r : Reach} {base : Nat} {v : Value} {d : DataW H} {p : List MemPlace}
    (hv : Value.okWide Tryz.prog W r base 54 v) (h : DataW.Trod enc Tryz.prog W 0 (fun _ => true) true 54 v d p) (hz : ∀ n ∈ d.weights Tryz.prog 54, n ≤ reachBytes) : DosArg W v := by
  obtain ⟨a, len, cap, rfl⟩ := okWide_slice Tryz.underlying54 hv
  obtain ⟨fuel, hf⟩ := h
  rcases open_slice Tryz.underlying54 hf with ⟨hcs, _⟩ | ⟨a', len', cap', m, n, D, Pl, hcs, _, hl, hm, hmm, hx, hi⟩
  · simp [Value.cells] at hcs
    obtain ⟨rfl, rfl, rfl⟩ := hcs
    exact ⟨none, [], 0, rfl, by simp, fun i h => by simp at h, by simp⟩
  · simp [Value.cells] at hcs
    obtain ⟨rfl, rfl, rfl⟩ := hcs
    have hc6 : Tryz.prog.cellsOf 59 = 6 := by kernel_rfl
    rw [hc6] at hi
    simp only [if_true] at hmm
    subst hmm
    simp only [Prod.mk.injEq] at hx
    obtain ⟨hd, -⟩ := hx
    have hwi : ∀ i, i < len → ∀ n ∈ (D i).weights Tryz.prog 59, n ≤ reachBytes := fun i hil n hn => hz n (by
      rw [hd]
      simp only [DataW.weights, Tryz.underlying54, List.mem_cons, List.mem_append]
      exact .inr (.inl (weightsAll_mem (List.mem_map.2 ⟨i, List.mem_range.2 hil, rfl⟩) n hn)))
    have hsmall : len ≤ 4611686018427387904 := by
      have hb : Tryz.prog.bytesOf 59 = 48 := by kernel_rfl
      have h1 := hz ((len + (m - len)) * 48) (by
        rw [hd]
        simp [DataW.weights, Tryz.underlying54, hb])
      have : reachBytes < 2 ^ 47 := reachBytes_lt
      omega
    obtain ⟨l, hll, hls⟩ := list_of (n := len) (P := fun i (y : DoV) => (∀ j (c : Value), [Value.int .u8 y.kind, .int .u64 y.id, .int .u8 y.urg, .bool y.inc, .bool y.is, .slice y.oi y.ids.length y.ci][j]? = some c → W.cell? ((a'.add (i * 6)).add j) = some c) ∧ W64 y.id ∧ 0 ≤ y.urg ∧ y.urg ≤ 255 ∧ y.ids.length ≤ 100000000000000 ∧ U64s W y.oi y.ids ∧ (∀ id ∈ y.ids, W64 id) ∧ ∀ j (_ : j < y.ids.length), ∃ g off, y.oi = some ⟨g, off, none⟩ ∧ g < W.heap.size)
      (fun i hil => by
        obtain ⟨cs', hc, ht⟩ := hi i (by omega)
        obtain ⟨_, hcl, hat⟩ := World.cells?_some hc
        obtain ⟨y, rfl, g1, g2, g3, -, -, g4⟩ := open_do ht (hwi i hil)
        refine ⟨y, fun j c hjc => ?_, g1, g2, g3, g4⟩
        have hj : j < 6 := by
          apply Classical.byContradiction
          intro hge
          rw [List.getElem?_eq_none (by simp; omega)] at hjc
          cases hjc
        rw [hat j hj, hjc])
    subst hll
    refine ⟨some a', l, _, rfl, hsmall, fun i hil => ?_, fun y hy => ?_⟩
    · obtain ⟨c, g1, g2, g3, g4, g5, g6, g7⟩ := hls i hil
      have hspot : a'.spot = none := by
        have := World.cell?_spot ((hls 0 (by omega)).1 0 _ rfl)
        simpa [Addr.add] using this
      have hcc : ∀ j c', [Value.int .u8 l[i].kind, .int .u64 l[i].id, .int .u8 l[i].urg, .bool l[i].inc, .bool l[i].is, .slice l[i].oi l[i].ids.length l[i].ci][j]? = some c' → W.cell? ⟨a'.block, a'.off + i * 6 + j, none⟩ = some c' := fun j c' hj => by
        have := c j c' hj
        rw [add_at _ _ hspot, add_at _ _ rfl] at this
        exact this
      have c0 := hcc 0 _ rfl
      refine ⟨a'.block, a'.off, by cases a'; simp_all, c0, hcc 1 _ rfl, hcc 2 _ rfl, hcc 3 _ rfl, hcc 4 _ rfl, hcc 5 _ rfl, World.block_lt_of_cell? W ⟨a'.block, a'.off + i * 6 + 0, none⟩ c0, g4, g5, g7⟩
    · obtain ⟨i, hil, rfl⟩ := List.getElem_of_mem hy
      obtain ⟨c, g1, g2, g3, g4, g5, g6, g7⟩ := hls i hil
      exact ⟨g1, g2, g3, g6⟩
end Go.Proofs.YtnkbhpnflfhhnaaGreatDoor
