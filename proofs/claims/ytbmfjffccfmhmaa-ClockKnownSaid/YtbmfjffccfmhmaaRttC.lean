import Derived.Test.YtbmfjffccfmhmaaRttB
namespace Go.Proofs.Ytbmfjffccfmhmaa
open Go.ChangeShapes Go.WideShapes Go.ChangeAt Go.RowKit
attribute [local go_sem] max2_int min2_int max_two min_two

theorem rtt_new (w : World) (t : TypeId) (h : t = 28) : RttAt (w.alloc (.cells #[.bool false, .int .u64 0, .int .u64 0, .int .u64 0, .int .u64 0] t)) w.heap.size ⟨false, 0, 0, 0, 0⟩ := by
  subst h
  exact heap_alloc_new w _
theorem grown_below {B : Nat} {w w1 w2 : World} (h : Below B w w1) (hg : w1.grownBy w2 (some B)) (hB : B ≤ w1.heap.size) : Below B w w2 :=
  h.grown hg hB (fun k e => by cases e; exact Nat.le_refl _)
theorem RttAt.below {B b : Nat} {s : RS} {w w' : World} (h : RttAt w b s) (hw : Below B w w') (hB : b < B) : RttAt w' b s := (hw.block b hB).trans h

theorem works_any (w : World) : Calls Try.prog 8 #[] w (Gives w (.bool true)) := by
  go_enter Try.func8, Try.ntmps8
  go_wp2_with fail
  refine (sample_any w.heap.size ⟨false, 0, 0, 0, 0⟩ 1000 0 _ (by omega) (by omega) (rtt_new w _ rfl) (by decide) (by decide) (by decide) (by decide) (by decide) (by decide)).mono ?_
  rintro e w1 ⟨rfl, hb, hg⟩
  have hw1 : Below w.heap.size w w1 := grown_below ((Below.refl _ w).alloc (Nat.le_refl _) _) hg (by simp)
  have H1 : Hid (Below w.heap.size w w1) := hw1
  have hb' : RttAt w1 w.heap.size ⟨true, 1000, 1000, 1000, 500⟩ := hb
  have HB := Lib.hid hb'
  clear hb hg hw1
  have c0 := hb'.cells
  clear hb'
  obtain ⟨c0, c1, c2, c3, c4, f0, f1, f2, f3, f4⟩ := c0
  go_wp2_with fail
  clear c0 c1 c2 c3 c4 f0 f1 f2 f3 f4
  refine (sample_any w.heap.size ⟨true, 1000, 1000, 1000, 500⟩ 1800 500 _ (by omega) (by omega) HB.out (by decide) (by decide) (by decide) (by decide) (by decide) (by decide)).mono ?_
  rintro e w2 ⟨rfl, hb, hg⟩
  have hb' : RttAt w2 w.heap.size ⟨true, 1800, 1000, 1037, 450⟩ := hb
  have H2 : Hid (Below w.heap.size w w2) := grown_below H1.out hg (by have := lt_of_block HB.out; omega)
  have HB2 := Lib.hid hb'
  clear hb hg H1 HB
  have c0 := hb'.cells
  clear hb'
  obtain ⟨c0, c1, c2, c3, c4, f0, f1, f2, f3, f4⟩ := c0
  go_wp2_with fail
  clear c0 c1 c2 c3 c4 f0 f1 f2 f3 f4
  refine (pto_at w.heap.size _ 25 0 _ HB2.out (by decide) (by decide) (by decide) (by decide)).mono ?_
  rintro e w3 ⟨rfl, hb⟩
  have HB3 := Lib.hid (HB2.out.below hb (lt_of_block HB2.out))
  have H3 := Lib.hid (H2.out.trans (hb.mono H2.out.size))
  clear hb H2 HB2
  rw [show (RS.known ⟨true, 1800, 1000, 1037, 450⟩).pto 25 0 = 2862 from by decide]
  go_wp2_with fail
  refine (pto_at w.heap.size _ 25 2 _ HB3.out (by decide) (by decide) (by decide) (by decide)).mono ?_
  rintro e w4 ⟨rfl, hb⟩
  have HB4 := Lib.hid (HB3.out.below hb (lt_of_block HB3.out))
  have H4 := Lib.hid (H3.out.trans (hb.mono H3.out.size))
  clear hb H3 HB3
  rw [show (RS.known ⟨true, 1800, 1000, 1037, 450⟩).pto 25 2 = 11448 from by decide]
  go_wp2_with fail
  refine (loss_at w.heap.size _ _ HB4.out (by decide) (by decide)).mono ?_
  rintro e w5 ⟨rfl, hb⟩
  have H5 := Lib.hid (H4.out.trans (hb.mono H4.out.size))
  clear hb H4 HB4
  rw [show (RS.known ⟨true, 1800, 1000, 1037, 450⟩).loss = 2025 from by decide]
  go_wp2_with fail
  go_ret
  exact ⟨rfl, H5.out⟩
end Go.Proofs.Ytbmfjffccfmhmaa
