import Derived.Test.YtbmfjffccfmhmaaRows
import Derived.Deep.Slices
import Derived.Deep.Fields
import Derived.ChangeSame
import Derived.OpenShut
import Derived.ProofKit
import Derived.WalkKit
import Derived.SizedLaws
namespace Go.Proofs.Ytbmfjffccfmhmaa
open Go.ChangeShapes Go.WideShapes Go.Deep Go.RowKit

/-- The slice at oa with n elements reads as samples xs. -/
def Samples (w : World) (oa : Option Addr) (xs : List (Int × Int)) : Prop :=
  ∀ (i : Nat) (h : i < xs.length), ∃ b off, oa = some ⟨b, off, none⟩ ∧ w.cell? ⟨b, off + i * 2, none⟩ = some (.int .u64 xs[i].1) ∧ w.cell? ⟨b, off + i * 2 + 1, none⟩ = some (.int .u64 xs[i].2) ∧
      0 ≤ xs[i].1 ∧ xs[i].1 ≤ 18446744073709551615 ∧ 0 ≤ xs[i].2 ∧ xs[i].2 ≤ 18446744073709551615

theorem list_of {α : Type} : ∀ {n : Nat} {P : Nat → α → Prop}, (∀ i, i < n → ∃ x, P i x) → ∃ xs : List α, xs.length = n ∧ ∀ (i : Nat) (h : i < xs.length), P i xs[i]
  | 0, _, _ => ⟨[], rfl, fun i h => by simp at h⟩
  | n + 1, P, h => by
    obtain ⟨xs, hl, hx⟩ := list_of (n := n) (P := P) (fun i hi => h i (by omega))
    obtain ⟨x, hx'⟩ := h n (by omega)
    refine ⟨xs ++ [x], by simp [hl], fun i hi => ?_⟩
    by_cases hin : i < xs.length
    · rw [List.getElem_append_left hin]; exact hx i hin
    · have : i = n := by simp at hi; omega
      subst this
      rw [List.getElem_append_right (by omega)]
      simpa [hl] using hx'

theorem add_at (a : Addr) (n : Nat) (h : a.spot = none) : a.add n = ⟨a.block, a.off + n, none⟩ := by
  unfold Addr.add
  split
  · rename_i h0; subst h0; cases a; simp_all
  · rfl

set_option maxRecDepth 100000 in
theorem reads_samples {H : Type} {enc : TypeId × Value → H} {W : World} {r : Reach} {base : Nat} {v : Value} {d : DataW H} {p : List MemPlace}
    (hv : Value.okWide Try.prog W r base 32 v) (h : DataW.Trod enc Try.prog W 0 (fun _ => true) true 32 v d p) : ∃ oa xs cap, v = .slice oa (List.length xs) cap ∧ xs.length ≤ cap ∧ cap ≤ maxLen ∧ Samples W oa xs := by
  obtain ⟨a, len, cap, rfl⟩ := okWide_slice Try.underlying32 hv
  obtain ⟨fuel, hf⟩ := h
  rcases open_slice Try.underlying32 hf with ⟨hcs, _⟩ | ⟨a', len', cap', m, n, D, Pl, hcs, _, hl, hm, hmm, hx, hi⟩
  · simp [Value.cells] at hcs
    obtain ⟨rfl, rfl, rfl⟩ := hcs
    exact ⟨none, [], 0, rfl, by simp, by simp, fun i h => by simp at h⟩
  · simp [Value.cells] at hcs
    obtain ⟨rfl, rfl, rfl⟩ := hcs
    have hc2 : Try.prog.cellsOf 34 = 2 := by kernel_rfl
    rw [hc2] at hi
    simp only [if_true] at hmm
    subst hmm
    have each : ∀ i, i < len → ∃ x y : Int, W.cell? (a'.add (i * 2)) = some (.int .u64 x) ∧ W.cell? ((a'.add (i * 2)).add 1) = some (.int .u64 y) ∧ 0 ≤ x ∧ x ≤ 18446744073709551615 ∧ 0 ≤ y ∧ y ≤ 18446744073709551615 := by
      intro i hil
      obtain ⟨cs', hc, ht⟩ := hi i (by omega)
      obtain ⟨_, hcl, hat⟩ := World.cells?_some hc
      obtain ⟨y0, y1, n', -, -, k0, k1⟩ := trod_struct2 Try.underlying34 ht
      have e24 : Try.prog.cellsOf 24 = 1 := by kernel_rfl
      match cs', hcl with
      | [c0, c1], _ =>
        simp only [e24, List.drop_zero, List.take_succ_cons, List.take_zero, List.drop_succ_cons] at k0 k1
        obtain ⟨x, ex, -, wx⟩ := DataW.trod_int Try.underlying24 k0
        obtain ⟨y, ey, -, wy⟩ := DataW.trod_int Try.underlying24 k1
        simp only [List.cons.injEq, and_true] at ex ey
        subst ex ey
        refine ⟨x, y, ?_, ?_, (bounds_u64 wx).1, (bounds_u64 wx).2, (bounds_u64 wy).1, (bounds_u64 wy).2⟩
        · have := hat 0 (by omega)
          simpa [Addr.add] using this
        · have := hat 1 (by omega)
          simpa using this
    obtain ⟨xs, hxl, hxs⟩ := list_of (P := fun i (q : Int × Int) => W.cell? (a'.add (i * 2)) = some (.int .u64 q.1) ∧ W.cell? ((a'.add (i * 2)).add 1) = some (.int .u64 q.2) ∧ 0 ≤ q.1 ∧ q.1 ≤ 18446744073709551615 ∧ 0 ≤ q.2 ∧ q.2 ≤ 18446744073709551615)
      (fun i hil => by obtain ⟨x, y, h⟩ := each i hil; exact ⟨(x, y), h⟩)
    subst hxl
    refine ⟨some a', xs, _, rfl, hl, hm, fun i hil => ?_⟩
    obtain ⟨h0, h1, h2⟩ := hxs i hil
    have hspot : a'.spot = none := by
      have := World.cell?_spot (hxs 0 (by omega)).1
      simpa [Addr.add] using this
    refine ⟨a'.block, a'.off, by cases a'; simp_all, ?_, ?_, h2⟩
    · rw [← add_at _ _ hspot]; exact h0
    · rw [show (⟨a'.block, a'.off + i * 2 + 1, none⟩ : Addr) = (a'.add (i * 2)).add 1 from by rw [add_at _ _ hspot]; rfl]; exact h1
end Go.Proofs.Ytbmfjffccfmhmaa
