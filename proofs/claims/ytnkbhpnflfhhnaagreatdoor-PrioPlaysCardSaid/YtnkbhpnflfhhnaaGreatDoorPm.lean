import Derived.Test.YtnkbhpnflfhhnaaGreatDoorPl
namespace Go.Proofs.YtnkbhpnflfhhnaaGreatDoor
open Go.ChangeShapes Go.WideShapes Go.ChangeAt Go.RowKit

def delB (ids : List Int) (s : St) : Bool := decide (s.id ∈ ids)
def idxD (ids : List Int) : List St → Nat → Int
  | [], _ => -1
  | x :: xs, k => if delB ids x = true then k else idxD ids xs (k + 1)

theorem idxD_cases (ids : List Int) : ∀ (xs : List St) (k : Nat), (idxD ids xs k = -1 ∧ ∀ s ∈ xs, delB ids s = false) ∨ ∃ (i : Nat) (h : i < xs.length), idxD ids xs k = ((k + i : Nat) : Int) ∧ delB ids xs[i] = true ∧ ∀ j (hj : j < xs.length), j < i → delB ids xs[j] = false
  | [], k => .inl ⟨rfl, fun s hs => by cases hs⟩
  | x :: xs, k => by
    unfold idxD
    cases hx : delB ids x
    · rw [if_neg (by simp)]
      rcases idxD_cases ids xs (k + 1) with ⟨h1, h2⟩ | ⟨i, h, h1, h2, h3⟩
      · refine .inl ⟨h1, fun s hs => ?_⟩
        rcases List.mem_cons.1 hs with rfl | hs
        · exact hx
        · exact h2 s hs
      · refine .inr ⟨i + 1, by simpa using h, by rw [h1]; omega, by simpa using h2, fun j hj hji => ?_⟩
        cases j with
        | zero => simpa using hx
        | succ j => simpa using h3 j (by simpa using hj) (by omega)
    · rw [if_pos rfl]
      exact .inr ⟨0, by simp, by simp, by simpa using hx, fun j _ h => by omega⟩

def IdxDRel (w : World) (ids : List Int) (xs : List St) (i : Value) (wr : World) : Prop := ∃ k : Nat, k ≤ xs.length ∧ i = .int .i64 k ∧ idxD ids (xs.drop k) k = idxD ids xs 0 ∧ Below w.heap.size w wr

theorem indexFunc_any (B box : Nat) (oa oi : Option Addr) (xs : List St) (cap ci : Nat) (ids : List Int) (w : World) (hx : Row w oa xs) (hi : IdsAt B w box oi ci ids) (hl : xs.length ≤ 4611686018427387904) :
    Calls Tryz.prog 91 #[.slice oa xs.length cap, .func (.func 53) #[] #[.pointer (some ⟨box, 0, none⟩)]] w (Gives w (.int .i64 (idxD ids xs 0))) := by
  have HX := Lib.hid hx
  have HI := Lib.hid hi
  clear hx hi
  go_enter Tryz.func91, Tryz.ntmps91
  go_wp2_with fail
  go_loopw [8] (fun i wr => IdxDRel w ids xs i wr) (fun i _ => xs.length - (intOf i).toNat)
  case atStart => exact ⟨0, by omega, rfl, rfl, Below.refl _ _⟩
  case round =>
    obtain ⟨k, hk, rfl, hr, hb⟩ := hrel
    have HR := Lib.hid hr
    have HB := Lib.hid hb
    clear hr hb
    by_cases hlt : k < xs.length
    · obtain ⟨g, off, rfl, x0, x1, x2, x3, x4⟩ := HX.out.below HB.out k hlt
      obtain ⟨s, hs⟩ : ∃ s, s = xs[k] := ⟨_, rfl⟩
      have HD : Hid (idxD ids (xs.drop k) k = if delB ids s = true then (k : Int) else idxD ids (xs.drop (k + 1)) (k + 1)) := Lib.hid (by rw [List.drop_eq_getElem_cons hlt, idxD, hs])
      rw [← hs] at x0 x1 x2 x3 x4
      clear hs
      go_wp2_with fail
      refine (drop1_any B box oi ids ci s _ (HI.out.keeps (Keeps.of_below HB.out))).mono ?_
      rintro e w1 ⟨rfl, hb1⟩
      have HB1 := Lib.hid (HB.out.trans (hb1.mono HB.out.size))
      clear hb1 x0 x1 x2 x3 x4
      obtain ⟨d, hd⟩ : ∃ d, d = delB ids s := ⟨_, rfl⟩
      have HDD := Lib.hid hd
      rw [show decide (s.id ∈ ids) = d from hd.symm]
      clear hd
      cases d
      · go_wp2_with fail
        go_roundw
        case rel => exact ⟨k + 1, by omega, by go_num, by have h1 := HR.out; rw [HD.out, ← HDD.out, if_neg (by simp)] at h1; exact h1, HB1.out⟩
        case measure => simp [intOf]; omega
      · go_wp2_with fail
        go_ret
        exact ⟨by have h1 := HR.out; rw [HD.out, ← HDD.out, if_pos rfl] at h1; rw [← h1]; rfl, HB1.out⟩
    · have : k = xs.length := by omega
      subst this
      go_wp2_with fail
      go_ret
      exact ⟨by have h1 := HR.out; rw [List.drop_length] at h1; rw [← h1]; rfl, HB.out⟩

/-- A stream of a plan's is stored over. -/
theorem PlanAt.storeAll {B : Nat} {w : World} {b g n cap : Nat} {xs : List St} {clk : Int} (h : PlanAt B w b (.slice (some ⟨g, 0, none⟩) n cap) xs clk) (hn : n = xs.length) (i : Nat) (hi : i < xs.length) (y : St) :
    let w' := ((((w.setCell ⟨g, i * 5, none⟩ (.int .u64 y.id)).setCell ⟨g, i * 5 + 1, none⟩ (.int .u8 y.urg)).setCell ⟨g, i * 5 + 2, none⟩ (.bool y.inc)).setCell ⟨g, i * 5 + 3, none⟩ (.bool y.rdy)).setCell ⟨g, i * 5 + 4, none⟩ (.int .u64 y.srv)
    PlanAt B w' b (.slice (some ⟨g, 0, none⟩) n cap) (xs.set i y) clk ∧ Keeps B w w' := by
  obtain ⟨a1, a2⟩ := h.store hn i 0 hi (by omega) (.int .u64 y.id) { xs[i] with id := y.id } rfl
  obtain ⟨b1, b2⟩ := a1.store (by simp [hn]) i 1 (by simpa using hi) (by omega) (.int .u8 y.urg) { xs[i] with id := y.id, urg := y.urg } (by simp [St.cells])
  obtain ⟨c1, c2⟩ := b1.store (by simp [hn]) i 2 (by simpa using hi) (by omega) (.bool y.inc) { xs[i] with id := y.id, urg := y.urg, inc := y.inc } (by simp [St.cells])
  obtain ⟨d1, d2⟩ := c1.store (by simp [hn]) i 3 (by simpa using hi) (by omega) (.bool y.rdy) { xs[i] with id := y.id, urg := y.urg, inc := y.inc, rdy := y.rdy } (by simp [St.cells])
  obtain ⟨e1, e2⟩ := d1.store (by simp [hn]) i 4 (by simpa using hi) (by omega) (.int .u64 y.srv) y (by simp [St.cells])
  refine ⟨?_, a2.trans (b2.trans (c2.trans (d2.trans e2)))⟩
  simp only [List.set_set] at e1
  exact e1

def DeleteDoes (B : Nat) (w : World) (b : Nat) (oa : Option Addr) (cap : Nat) (xs : List St) (clk : Int) (ids : List Int) (e : Ending) (w' : World) : Prop :=
  e = .returned (.slice oa (xs.filter fun s => !delB ids s).length cap) ∧ Keeps B w w' ∧
    ∃ ys : List St, PlanAt B w' b (.slice oa xs.length cap) ys clk ∧ ys.length = xs.length ∧ ys.take (xs.filter fun s => !delB ids s).length = xs.filter fun s => !delB ids s

def DelRel (B : Nat) (w : World) (b : Nat) (oa : Option Addr) (cap : Nat) (xs : List St) (clk : Int) (ids : List Int) (i j : Value) (wr : World) : Prop :=
  ∃ (k m : Nat) (ys : List St), k ≤ xs.length ∧ m < k ∧ j = .int .i64 k ∧ i = .int .i64 m ∧ Keeps B w wr ∧ PlanAt B wr b (.slice oa xs.length cap) ys clk ∧ ys.length = xs.length ∧ ys.drop k = xs.drop k ∧ ys.take m = (xs.take k).filter (fun s => !delB ids s) ∧ m = ((xs.take k).filter (fun s => !delB ids s)).length

theorem zeroRow (k : Nat) : (Builtin.zeroCells (Value.agg #[.int .u64 0, .int .u8 0, .bool false, .bool false, .int .u64 0]).cells k).toList = rowOf (List.replicate k St.nil) := by
  apply List.ext_getElem
  · rw [rowOf_length, List.length_replicate, Array.length_toList, size_zeroCells]; rfl
  · intro t h1 h2
    have h3 : t < k * 5 := by rw [rowOf_length, List.length_replicate] at h2; exact h2
    have hg := rowOf_get (List.replicate k St.nil) (t / 5) (t % 5) (by simp; omega) (by omega)
    rw [show t / 5 * 5 + t % 5 = t from by omega, List.getElem?_eq_getElem h2] at hg
    simp only [List.getElem_replicate] at hg
    have h5 : t % 5 < 5 := by omega
    have : (rowOf (List.replicate k St.nil))[t] = St.nil.cells[t % 5]'(by show t % 5 < 5; omega) := by
      rw [List.getElem?_eq_getElem (by show t % 5 < 5; omega)] at hg
      simpa using hg
    rw [this]
    simp only [Builtin.zeroCells, Array.getElem_toList, Array.getElem_map, Array.getElem_range]
    show (Value.agg #[.int .u64 0, .int .u8 0, .bool false, .bool false, .int .u64 0]).cells[t % 5]! = _
    rcases (show t % 5 = 0 ∨ t % 5 = 1 ∨ t % 5 = 2 ∨ t % 5 = 3 ∨ t % 5 = 4 by omega) with h | h | h | h | h <;> (simp only [h]; rfl)

theorem zero106 : ∀ w, (zeroValue 106).run Tryz.prog w = .ok (.agg #[.int .u64 0, .int .u8 0, .bool false, .bool false, .int .u64 0]) w := by intro w; kernel_rfl
theorem run_clear_cells (w : World) (ty : TypeId) (g m n c : Nat) (cur : Array Value) (hg : w.heap[g]? = some (.cells cur 106 (0, 0))) (hn : 0 < n) (hfit : m * 5 + n * 5 ≤ cur.size) :
    (Builtin.clear_ #[107] ty #[.slice (some ⟨g, m * 5, none⟩) n c]).run Tryz.prog w = .ok (.tuple #[]) (w.setRow g (cur.toList.take (m * 5) ++ rowOf (List.replicate n St.nil) ++ cur.toList.drop (m * 5 + (rowOf (List.replicate n St.nil)).length)).toArray) := by
  have hl : (rowOf (List.replicate n St.nil)).length = n * 5 := by rw [rowOf_length, List.length_replicate]
  have hst := run_storeCells_at Tryz.prog g (m * 5) 106 (rowOf (List.replicate n St.nil)) 0 cur w hg (by rw [hl]; simpa using hfit) (rowOf_one _)
  simp only [Nat.add_zero] at hst
  obtain ⟨k, rfl⟩ : ∃ k, n = k + 1 := ⟨n - 1, by omega⟩
  simp only [Builtin.clear_, run_underlying Tryz.underlying107, Sem.run_bind, Sem.run_pure, Result.andThen_ok, List.getElem?_toArray, List.getElem?_cons_zero, zero106, zeroRow, hst]

theorem PlanAt.cleared {B : Nat} {w : World} {b g n cap : Nat} {ys : List St} {clk : Int} (h : PlanAt B w b (.slice (some ⟨g, 0, none⟩) n cap) ys clk) (hn : n = ys.length) (m : Nat) (hm : m < n) (ty : TypeId) :
    ∃ w', (Builtin.clear_ #[107] ty #[.slice (some ⟨g, m * 5, none⟩) (n - m) (cap - m)]).run Tryz.prog w = .ok (.tuple #[]) w' ∧ PlanAt B w' b (.slice (some ⟨g, 0, none⟩) n cap) (ys.take m ++ List.replicate (n - m) St.nil) clk ∧ Keeps B w w' := by
  subst hn
  rcases h.own.2 with ⟨h', -⟩ | ⟨g', cap', cur, h', hbg, hgg, hnc, hcm, hcs, htake⟩
  · cases h'
  simp only [Value.slice.injEq, Option.some.injEq, Addr.mk.injEq, and_true, true_and] at h'
  obtain ⟨rfl, rfl⟩ := h'
  have hne : b ≠ g := fun e => h.apart (by rw [e]; rfl)
  refine ⟨_, run_clear_cells w ty g m (ys.length - m) (cap - m) cur hgg (by omega) (by rw [hcs]; omega), ?_, ?_⟩
  · have hrl : (rowOf (List.replicate (ys.length - m) St.nil)).length = (ys.length - m) * 5 := by rw [rowOf_length, List.length_replicate]
    have hll : (ys.take m ++ List.replicate (ys.length - m) St.nil).length = ys.length := by simp; omega
    refine ⟨(setRow_other w g b _ hne).trans h.blk, ?_, h.base, by rw [hll]; exact h.len⟩
    rw [hll]
    refine ⟨by rw [rowOf_length, hll], .inr ⟨g, cap, _, rfl, hbg, setRow_heap w g cur _ 106 _ hgg, hnc, hcm, ?_, ?_⟩⟩
    · simp [hrl, hcs]; omega
    · have e1 : cur.toList.take (m * 5) = rowOf (ys.take m) := by rw [← rowOf_take, ← htake, List.take_take, show min (m * 5) (ys.length * 5) = m * 5 from by omega]
      rw [rowOf_append, e1]
      rw [List.take_append_of_le_length (by rw [List.length_append, rowOf_length, hrl, List.length_take]; omega), List.take_of_length_le (by rw [List.length_append, rowOf_length, hrl, List.length_take]; omega)]
  · exact Keeps.of_grown (k := g) ⟨rfl, rfl, rfl, by simp, fun k hk hk2 => setRow_other w g k _ (fun e => hk2 (by rw [e]))⟩ hbg hgg (.inl rfl)


set_option maxRecDepth 100000 in
theorem delete_some (B b box : Nat) (g : Nat) (oi : Option Addr) (xs : List St) (cap ci : Nat) (clk : Int) (ids : List Int) (w : World) (hp : PlanAt B w b (.slice (some ⟨g, 0, none⟩) xs.length cap) xs clk) (hi : IdsAt B w box oi ci ids)
    (i0 : Nat) (hi0 : i0 < xs.length) (hidx : idxD ids xs 0 = i0) (hd0 : delB ids xs[i0] = true) (hdj : ∀ j (hj : j < xs.length), j < i0 → delB ids xs[j] = false) :
    Calls Tryz.prog 52 #[.slice (some ⟨g, 0, none⟩) xs.length cap, .func (.func 53) #[] #[.pointer (some ⟨box, 0, none⟩)]] w (DeleteDoes B w b (some ⟨g, 0, none⟩) cap xs clk ids) := by
  obtain ⟨oa, cap', hv, h1, h2, hx⟩ := hp.read
  simp only [Value.slice.injEq, true_and] at hv
  obtain ⟨rfl, rfl⟩ := hv
  have hl := hp.len
  have HP := Lib.hid hp
  have HI := Lib.hid hi
  have HX := Lib.hid hx
  have HIDX := Lib.hid hidx
  have HD0 := Lib.hid hd0
  have HDJ := Lib.hid hdj
  clear hp hi hx hidx hd0 hdj
  go_enter Tryz.func52, Tryz.ntmps52
  go_wp2_with fail
  refine (indexFunc_any B box _ oi xs cap ci ids _ HX.out HI.out (by omega)).mono ?_
  rintro e w1 ⟨rfl, hb1⟩
  rw [HIDX.out]
  have HB1 := Lib.hid hb1
  have hne1 : ((i0 : Int) == -1) = false := by simp
  clear hb1
  go_wp2_with fail
  have hst : (xs.take (i0 + 1)).filter (fun s => !delB ids s) = xs.take i0 := by
    rw [List.take_succ_eq_append_getElem hi0, List.filter_append]
    have e1 : (xs.take i0).filter (fun s => !delB ids s) = xs.take i0 := by
      refine List.filter_eq_self.2 fun s hs => ?_
      obtain ⟨j, hj, rfl⟩ := List.mem_iff_getElem.1 hs
      have hj' : j < i0 := by simp at hj; omega
      rw [List.getElem_take, HDJ.out j (by omega) hj']; rfl
    have e2 : [xs[i0]].filter (fun s => !delB ids s) = [] := by simp [HD0.out]
    rw [e1, e2, List.append_nil]
  have HST := Lib.hid hst
  clear hst
  go_loopw [5, 6] (fun i j wr => DelRel B w b (some ⟨g, 0, none⟩) cap xs clk ids i j wr) (fun _ j _ => xs.length - (intOf j).toNat)
  case atStart =>
    exact ⟨i0 + 1, i0, xs, by omega, by omega, by go_num, rfl, Keeps.of_below HB1.out, HP.out.below HB1.out, rfl, rfl, by rw [HST.out], by rw [HST.out]; simp; omega⟩
  case round =>
    obtain ⟨k, m, ys, hk, hmk, rfl, rfl, hkp, hpl, hyl, hyd, hyt, hym⟩ := hrel
    have HK := Lib.hid hkp
    have HPL := Lib.hid hpl
    have HYL := Lib.hid hyl
    have HYD := Lib.hid hyd
    have HYT := Lib.hid hyt
    have HYM := Lib.hid hym
    clear hkp hyl hyd hyt hym
    by_cases hlt : k < xs.length
    · have hky : k < ys.length := by rw [HYL.out]; exact hlt
      have hsame : ys[k] = xs[k] := by
        have h := HYD.out
        rw [List.drop_eq_getElem_cons hky, List.drop_eq_getElem_cons hlt] at h
        exact (List.cons.inj h).1
      obtain ⟨g', he, -, ⟨x0, x1, x2, x3, x4⟩, fz⟩ := hpl.cellsAt hky
      simp only [Option.some.injEq, Addr.mk.injEq, and_true] at he
      subst he
      obtain ⟨s, hs⟩ : ∃ s, s = xs[k] := ⟨_, rfl⟩
      rw [hsame, ← hs] at x0 x1 x2 x3 x4
      have HS := Lib.hid hs
      clear hs fz hpl hsame
      go_wp2_with fail
      have hwa := (Below.refl wr.heap.size wr).alloc (Nat.le_refl _) (.cells #[.int .u64 s.id, .int .u8 s.urg, .bool s.inc, .bool s.rdy, .int .u64 s.srv] 106)
      refine (drop1_any B box oi ids ci s _ (HI.out.keeps (HK.out.trans (Keeps.of_below hwa)))).mono ?_
      rintro e w2 ⟨rfl, hb2⟩
      have v0 : w2.cell? ⟨wr.heap.size, 0, none⟩ = some (.int .u64 s.id) := by rw [hb2.cell (by simp)]; simp
      have v1 : w2.cell? ⟨wr.heap.size, 1, none⟩ = some (.int .u8 s.urg) := by rw [hb2.cell (by simp)]; simp
      have v2 : w2.cell? ⟨wr.heap.size, 2, none⟩ = some (.bool s.inc) := by rw [hb2.cell (by simp)]; simp
      have v3 : w2.cell? ⟨wr.heap.size, 3, none⟩ = some (.bool s.rdy) := by rw [hb2.cell (by simp)]; simp
      have v4 : w2.cell? ⟨wr.heap.size, 4, none⟩ = some (.int .u64 s.srv) := by rw [hb2.cell (by simp)]; simp
      have hbb : Below wr.heap.size wr w2 := hwa.trans (hb2.mono (by simp))
      have hpl2 := HPL.out.below hbb
      have HK2 := Lib.hid (HK.out.trans (Keeps.of_below hbb))
      have HPL2 := Lib.hid hpl2
      have hmy : m < ys.length := by omega
      obtain ⟨g', he, -, ⟨y0, y1, y2, y3, y4⟩, fz⟩ := hpl2.cellsAt hmy
      simp only [Option.some.injEq, Addr.mk.injEq, and_true] at he
      subst he
      have f0 := fz (m * 5)
      have f1 := fz (m * 5 + 1)
      have f2 := fz (m * 5 + 2)
      have f3 := fz (m * 5 + 3)
      have f4 := fz (m * 5 + 4)
      clear hwa hb2 hbb hpl2 fz x0 x1 x2 x3 x4
      obtain ⟨d, hd⟩ : ∃ d, d = delB ids s := ⟨_, rfl⟩
      have hdd : (xs.take (k + 1)).filter (fun s => !delB ids s) = (xs.take k).filter (fun s => !delB ids s) ++ (if d = true then [] else [s]) := by
        rw [List.take_succ_eq_append_getElem hlt, List.filter_append, ← HS.out, hd]
        congr 1
        cases hq : delB ids s <;> simp [hq]
      have HDD := Lib.hid hdd
      rw [show decide (s.id ∈ ids) = d from hd.symm]
      clear hd hdd
      cases d
      · go_wp2_with fail
        go_roundw
        case rel =>
          obtain ⟨k1, k2⟩ := HPL2.out.storeAll (by rw [HYL.out]) m hmy s
          refine ⟨k + 1, m + 1, ys.set m s, by omega, by omega, by go_num, by go_num, HK2.out.trans k2, k1, by rw [List.length_set]; exact HYL.out, ?_, ?_, ?_⟩
          · rw [List.drop_set_of_lt (by omega)]
            have h := HYD.out
            rw [List.drop_eq_getElem_cons hky, List.drop_eq_getElem_cons hlt] at h
            exact (List.cons.inj h).2
          · rw [HDD.out, if_neg (by simp), ← HYT.out, List.take_succ_eq_append_getElem (by simpa using hmy), List.take_set_of_le (by omega)]
            simp
          · rw [HDD.out, if_neg (by simp), List.length_append, ← HYM.out]; rfl
        case measure => simp [intOf]; omega
      · go_wp2_with fail
        go_roundw
        case rel =>
          refine ⟨k + 1, m, ys, by omega, by omega, by go_num, rfl, HK2.out, HPL2.out, HYL.out, ?_, ?_, ?_⟩
          · have h := HYD.out
            rw [List.drop_eq_getElem_cons hky, List.drop_eq_getElem_cons hlt] at h
            exact (List.cons.inj h).2
          · rw [HDD.out, if_pos trivial, List.append_nil]; exact HYT.out
          · rw [HDD.out, if_pos trivial, List.append_nil]; exact HYM.out
        case measure => simp [intOf]; omega
    · have : k = xs.length := by omega
      subst this
      obtain ⟨w3, hcl, hpl3, hk3⟩ := HPL.out.cleared (by rw [HYL.out]) m hmk 0
      have hcl' : ∀ ty, (Builtin.clear_ #[107] ty #[.slice (some ⟨g, m * 5, none⟩) (xs.length - m) (cap - m)]).run Tryz.prog wr = .ok (.tuple #[]) w3 := fun ty => hcl
      have HPL3 := Lib.hid hpl3
      have HK3 := Lib.hid hk3
      clear hcl hpl3 hk3 hpl
      go_wp2_with fail
      go_ret
      have hfl : m = (xs.filter (fun s => !delB ids s)).length := by have h := HYM.out; rw [List.take_length] at h; exact h
      have hft : ys.take m = xs.filter (fun s => !delB ids s) := by have h := HYT.out; rw [List.take_length] at h; exact h
      refine ⟨by rw [← hfl]; rfl, HK.out.trans HK3.out, _, HPL3.out, by rw [List.length_append, List.length_take, List.length_replicate, HYL.out]; omega, ?_⟩
      rw [← hfl, List.take_append_of_le_length (by rw [List.length_take, HYL.out]; omega), List.take_take, Nat.min_self, hft]
end Go.Proofs.YtnkbhpnflfhhnaaGreatDoor
