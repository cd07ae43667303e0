import Derived.Test.YtbmfjffccfmhmaaRttD
import Derived.LoopTactic
namespace Go.Proofs.Ytbmfjffccfmhmaa
open Go.ChangeShapes Go.WideShapes Go.ChangeAt Go.RowKit
attribute [local go_sem] max2_int min2_int max_two min_two

def itv : Nat → Int
  | 0 => 549755813888
  | k + 1 => 3 * itv k / 4
theorem itv_last : itv 199 = 0 := by decide +kernel
theorem itv_bd (k : Nat) : 0 ≤ itv k ∧ itv k ≤ 549755813888 := by
  induction k with
  | zero => exact ⟨by show (0 : Int) ≤ 549755813888; omega, by show (549755813888 : Int) ≤ 549755813888; omega⟩
  | succ k ih => show 0 ≤ 3 * itv k / 4 ∧ 3 * itv k / 4 ≤ 549755813888; omega

def SteadyRel (B : Nat) (w : World) (n : Int) (i : Value) (wr : World) : Prop :=
  ∃ (k : Nat) (v : Int), k ≤ 200 ∧ i = .int .i64 k ∧ Below B w wr ∧ RttAt wr B (if k = 0 then ⟨false, 0, 0, 0, 0⟩ else ⟨true, n, n, n, v⟩) ∧ 0 ≤ v ∧ v ≤ itv (k - 1) ∧ (k = 0 → v = 0)

theorem steady_first (n : Int) (h0 : 0 ≤ n) (h1 : n < 1099511627776) : RS.first (mnv n 1099511627776) = ⟨true, n, n, n, n / 2⟩ := by
  rw [show mnv n 1099511627776 = n from by rw [mnv_eq]; omega]; rfl
theorem steady_next (n v : Int) (h0 : 0 ≤ n) (h1 : n < 1099511627776) : RS.next ⟨true, n, n, n, v⟩ (mnv n 1099511627776) (mnv 0 1099511627776) = ⟨true, n, n, n, 3 * v / 4⟩ := by
  rw [show mnv n 1099511627776 = n from by rw [mnv_eq]; omega, show mnv 0 1099511627776 = 0 from by decide]
  have e1 : mnv n n = n := by rw [mnv_eq]; omega
  simp only [RS.next, e1]
  rw [if_pos (by omega)]
  rw [show mxv n (n - 0) - mnv n (n - 0) = 0 from by rw [mnv_eq, mxv_eq]; omega, show (7 * n + (n - 0)) / 8 = n from by omega]
  simp
theorem steady_pto (n : Int) (h0 : 0 ≤ n) (h1 : n < 1099511627776) : (RS.known ⟨true, n, n, n, 0⟩).pto 0 0 = mnv (n + 1000) 1099511627776 := by
  show mnv (mnv n 1099511627776 + mxv (4 * mnv 0 1099511627776) 1000 + mnv 0 1099511627776) 1099511627776 = _
  rw [show mnv n 1099511627776 = n from by rw [mnv_eq]; omega, show mnv 0 1099511627776 = 0 from by decide, show mxv (4 * 0) 1000 = 1000 from by decide, Int.add_zero]

set_option maxRecDepth 100000 in
theorem rttSteady_walk (a : Int) (ha : (Lit.int .u64 a).wf = true) (w : World) : Calls Try.prog 5 #[.int .u64 a] w (Gives w (.bool true)) := by
  have hb0 : 0 ≤ a := (bounds_u64 ha).1
  obtain ⟨n, hn⟩ : ∃ n, n = a % 1099511627776 := ⟨_, rfl⟩
  have hn0 : 0 ≤ n := by omega
  have hn1 : n < 1099511627776 := by omega
  have HN := Lib.hid hn
  clear hn ha
  go_enter Try.func5, Try.ntmps5
  go_wp2_with fail
  rw [← HN.out]
  go_loopw [9] (fun i wr => SteadyRel w.heap.size w n i wr) (fun i _ => 200 - (intOf i).toNat)
  case atStart => exact ⟨0, 0, by omega, rfl, (Below.refl _ w).alloc (Nat.le_refl _) _, rtt_new w _ rfl, by omega, (itv_bd 0).1, fun _ => rfl⟩
  case round =>
    obtain ⟨k, v, hk, rfl, hbel, hat, hv0, hv1, hv2⟩ := hrel
    have HBEL := Lib.hid hbel
    have HV2 := Lib.hid hv2
    have HV1 := Lib.hid hv1
    have hvb : v ≤ 549755813888 := by have := (itv_bd (k - 1)).2; omega
    clear hbel hv2 hv1
    by_cases h200 : k = 200
    · subst h200
      have hv : v = 0 := by have := HV1.out; rw [show itv (200 - 1) = 0 from itv_last] at this; omega
      subst hv
      have hat' : RttAt wr w.heap.size ⟨true, n, n, n, 0⟩ := hat
      have HAT := Lib.hid hat'
      obtain ⟨c0, c1, c2, c3, c4, f0, f1, f2, f3, f4⟩ := hat'.cells
      clear hat hat' HV1 HV2
      go_wp2_with fail
      clear c0 c1 c2 c3 c4 f0 f1 f2 f3 f4
      refine (pto_at w.heap.size _ 0 0 _ HAT.out (by decide) (by assumption) (Int.le_refl _) (by decide)).mono ?_
      rintro e w3 ⟨rfl, hb⟩
      have H3 := Lib.hid (HBEL.out.trans (hb.mono HBEL.out.size))
      clear hb
      rw [steady_pto n hn0 hn1]
      go_wp2_with fail
      refine (works_any _).mono ?_
      rintro e w4 ⟨rfl, hb⟩
      have H4 := Lib.hid (H3.out.trans (hb.mono H3.out.size))
      clear hb
      go_wp2_with fail
      go_ret
      exact ⟨rfl, H4.out⟩
    · by_cases hk0 : k = 0
      · subst hk0
        have hv : v = 0 := HV2.out rfl
        subst hv
        have hat' : RttAt wr w.heap.size ⟨false, 0, 0, 0, 0⟩ := hat
        have HAT := Lib.hid hat'
        obtain ⟨c0, c1, c2, c3, c4, f0, f1, f2, f3, f4⟩ := hat'.cells
        clear hat hat' HV1 HV2
        go_wp2_with fail
        clear c0 c1 c2 c3 c4 f0 f1 f2 f3 f4
        refine (sample_any w.heap.size _ n 0 _ (by omega) (by omega) HAT.out (by decide) (by decide) (by decide) (by decide) (by decide) (by decide)).mono ?_
        rintro e w1 ⟨rfl, hb, hg⟩
        have hb' : RttAt w1 w.heap.size ⟨true, n, n, n, n / 2⟩ := by rw [← steady_first n hn0 hn1]; exact hb
        have H1 : Hid (Below w.heap.size w w1) := Lib.hid (grown_below HBEL.out hg (by have := lt_of_block HAT.out; omega))
        have HB := Lib.hid hb'
        clear hb hg HAT HBEL
        obtain ⟨c0, c1, c2, c3, c4, f0, f1, f2, f3, f4⟩ := hb'.cells
        clear hb'
        go_wp2_with fail
        go_roundw
        case rel => exact ⟨1, n / 2, by omega, rfl, H1.out, HB.out, by omega, by show n / 2 ≤ 549755813888; omega, by omega⟩
        case measure => simp [intOf]
      · have hat' : RttAt wr w.heap.size ⟨true, n, n, n, v⟩ := by rw [if_neg hk0] at hat; exact hat
        have HAT := Lib.hid hat'
        obtain ⟨c0, c1, c2, c3, c4, f0, f1, f2, f3, f4⟩ := hat'.cells
        clear hat hat' HV2
        have hlt : k < 200 := by omega
        obtain ⟨j, rfl⟩ : ∃ j, k = j + 1 := ⟨k - 1, by omega⟩
        rcases Int.lt_or_le 0 v with hv | hv
        ·
          go_wp2_with fail
          clear c0 c1 c2 c3 c4 f0 f1 f2 f3 f4
          refine (sample_any w.heap.size _ n 0 _ (by omega) (by omega) HAT.out (by assumption) ?_ (by assumption) ?_ ?_ ?_).mono ?_
          · show n ≤ 1099511627776; omega
          · show n ≤ 1099511627776; omega
          · show 0 ≤ v; omega
          · show v ≤ 1099511627776; omega
          rintro e w1 ⟨rfl, hb, hg⟩
          have hb' : RttAt w1 w.heap.size ⟨true, n, n, n, (3 * v / 4)⟩ := by first | exact (steady_next n v hn0 hn1 ▸ hb)
          have H1 : Hid (Below w.heap.size w w1) := Lib.hid (grown_below HBEL.out hg (by have := lt_of_block HAT.out; omega))
          have HB := Lib.hid hb'
          clear hb hg HAT HBEL
          obtain ⟨c0, c1, c2, c3, c4, f0, f1, f2, f3, f4⟩ := hb'.cells
          clear hb'
          have hle : 3 * v / 4 ≤ v := by omega
          go_wp2_with fail
          go_roundw
          case rel => exact ⟨j + 1 + 1, (3 * v / 4), by omega, by go_num, H1.out, by rw [if_neg (by omega)]; exact HB.out, by omega, by have := HV1.out; show 3 * v / 4 ≤ 3 * itv j / 4; simp at this; omega, by omega⟩
          case measure => simp [intOf]; omega
        · obtain rfl : v = 0 := by omega
          go_wp2_with fail
          clear c0 c1 c2 c3 c4 f0 f1 f2 f3 f4
          refine (sample_any w.heap.size _ n 0 _ (by omega) (by omega) HAT.out (by assumption) ?_ (by assumption) ?_ ?_ ?_).mono ?_
          · show n ≤ 1099511627776; omega
          · show n ≤ 1099511627776; omega
          · show 0 ≤ (0 : Int); omega
          · show (0 : Int) ≤ 1099511627776; omega
          rintro e w1 ⟨rfl, hb, hg⟩
          have hb' : RttAt w1 w.heap.size ⟨true, n, n, n, (0 : Int)⟩ := by first | exact (steady_next n (0 : Int) hn0 hn1 ▸ hb)
          have H1 : Hid (Below w.heap.size w w1) := Lib.hid (grown_below HBEL.out hg (by have := lt_of_block HAT.out; omega))
          have HB := Lib.hid hb'
          clear hb hg HAT HBEL
          obtain ⟨c0, c1, c2, c3, c4, f0, f1, f2, f3, f4⟩ := hb'.cells
          clear hb'
          go_wp2_with fail
          go_roundw
          case rel => exact ⟨j + 1 + 1, (0 : Int), by omega, by go_num, H1.out, by rw [if_neg (by omega)]; exact HB.out, by omega, (itv_bd _).1, by omega⟩
          case measure => simp [intOf]; omega

end Go.Proofs.Ytbmfjffccfmhmaa
