import Derived.Test.YtbmfjffccfmhmaaRttC
namespace Go.Proofs.Ytbmfjffccfmhmaa
open Go.ChangeShapes Go.WideShapes Go.ChangeAt Go.RowKit
attribute [local go_sem] max2_int min2_int max_two min_two

theorem dbl_succ : ∀ (k : Nat) (n : Int), 0 ≤ n → n ≤ 1099511627776 → dbl n (k + 1) = mnv (2 * dbl n k) 1099511627776
  | 0, n, h0, h => by
    show (if n < 1099511627776 then mnv (2 * n) 1099511627776 else n) = mnv (2 * n) 1099511627776
    split
    · rfl
    · rw [mnv_eq]; omega
  | k + 1, n, h0, h => by
    rw [dbl]
    split
    · rename_i hn
      obtain ⟨a, b⟩ := mnv_bd (2 * n) (by omega)
      rw [dbl_succ k _ a b]
      conv => rhs; rw [dbl, if_pos hn]
    · rename_i hn
      rw [dbl_same n hn, mnv_eq]
      omega

theorem dbl_bd (k : Nat) : ∀ n : Int, 0 ≤ n → n ≤ 1099511627776 → n ≤ dbl n k ∧ dbl n k ≤ 1099511627776 := by
  induction k with
  | zero => intro n h0 h; exact ⟨Int.le_refl _, h⟩
  | succ k ih =>
    intro n h0 h
    obtain ⟨a, b⟩ := ih n h0 h
    rw [dbl_succ k n h0 h, mnv_eq]
    omega

theorem dbl_top : ∀ (j k : Nat) (n : Int), 0 ≤ n → n ≤ 1099511627776 → j ≤ k → 1099511627776 ≤ n * 2 ^ j → dbl n k = 1099511627776
  | 0, k, n, h0, h, _, hj => by
    have : n = 1099511627776 := by simp at hj; omega
    rw [dbl_same n (by omega)]; exact this
  | j + 1, k, n, h0, h, hk, hj => by
    obtain ⟨m, rfl⟩ : ∃ m, k = m + 1 := ⟨k - 1, by omega⟩
    rw [dbl]
    split
    · rcases Int.lt_or_le (2 * n) 1099511627776 with h2 | h2
      · rw [show mnv (2 * n) 1099511627776 = 2 * n from by rw [mnv_eq]; omega]
        refine dbl_top j m (2 * n) (by omega) (by omega) (by omega) ?_
        rw [Int.pow_succ] at hj
        rw [Int.mul_comm 2 n, Int.mul_assoc, Int.mul_comm 2]
        exact hj
      · rw [show mnv (2 * n) 1099511627776 = 1099511627776 from by rw [mnv_eq]; omega]
        exact dbl_same _ (by omega) _
    · omega

theorem rttKnown_walk (w : World) : Calls Try.prog 3 #[] w (Gives w (.bool true)) := by
  go_enter Try.func3, Try.ntmps3
  go_wp2_with fail
  refine (sample_nil _ _ _).mono ?_
  rintro e w1 ⟨rfl, rfl⟩
  go_wp2_with fail
  refine (works_any _).mono ?_
  rintro e w2 ⟨rfl, hb⟩
  have H2 : Hid (Below w1.heap.size w1 w2) := ((Below.refl _ w1).alloc (Nat.le_refl _) _).trans (hb.mono (by simp))
  have HB : Hid (RttAt w2 w1.heap.size ⟨false, 0, 0, 0, 0⟩) := (rtt_new w1 _ rfl).below hb (by simp)
  clear hb
  go_wp2_with fail
  refine (pto_nil _ 0 _ (by decide) (by decide)).mono ?_
  rintro e w3 ⟨rfl, hb⟩
  have HB3 := Lib.hid (HB.out.below hb (lt_of_block HB.out))
  have H3 := Lib.hid (H2.out.trans (hb.mono H2.out.size))
  clear hb H2 HB
  rw [show RS.zero.pto 0 0 = 999000 from by decide]
  go_wp2_with fail
  refine (pto_at w1.heap.size _ 0 0 _ HB3.out (by decide) (by decide) (by decide) (by decide)).mono ?_
  rintro e w4 ⟨rfl, hb⟩
  have HB4 := Lib.hid (HB3.out.below hb (lt_of_block HB3.out))
  have H4 := Lib.hid (H3.out.trans (hb.mono H3.out.size))
  clear hb H3 HB3
  rw [show (RS.known ⟨false, 0, 0, 0, 0⟩).pto 0 0 = 999000 from by decide]
  go_wp2_with fail
  refine (loss_nil _).mono ?_
  rintro e w5 ⟨rfl, hb⟩
  have HB5 := Lib.hid (HB4.out.below hb (lt_of_block HB4.out))
  have H5 := Lib.hid (H4.out.trans (hb.mono H4.out.size))
  clear hb H4 HB4
  rw [show RS.zero.loss = 374625 from by decide]
  go_wp2_with fail
  refine (pto_at w1.heap.size _ 0 9223372036854775808 _ HB5.out (by decide) (by decide) (by decide) (by decide)).mono ?_
  rintro e w6 ⟨rfl, hb⟩
  have H6 := Lib.hid (H5.out.trans (hb.mono H5.out.size))
  clear hb H5 HB5
  rw [show (RS.known ⟨false, 0, 0, 0, 0⟩).pto 0 9223372036854775808 = 1099511627776 from dbl_top 41 _ _ (by decide) (by decide) (by decide) (by decide)]
  go_wp2_with fail
  go_ret
  exact ⟨rfl, H6.out⟩
end Go.Proofs.Ytbmfjffccfmhmaa
