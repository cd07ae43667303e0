import Derived.Test.YtbmfjffccfmhmaaRttD
import Derived.Test.YtbmfjffccfmhmaaRead
import Derived.LoopTactic
namespace Go.Proofs.Ytbmfjffccfmhmaa
open Go.ChangeShapes Go.WideShapes Go.ChangeAt Go.RowKit
attribute [local go_sem] max2_int min2_int max_two min_two

structure Inv (s : RS) (lo hi : Int) : Prop where
  lo0 : 0 ≤ lo
  lo1 : lo ≤ 1099511627776
  hi0 : 0 ≤ hi
  hi1 : hi ≤ 1099511627776
  mn0 : 0 ≤ s.mn
  mn1 : s.mn ≤ 1099511627776
  sm0 : 0 ≤ s.sm
  vr0 : 0 ≤ s.vr
  sm1 : s.sm ≤ hi
  vr1 : s.vr ≤ hi
  at0 : s.has = false → lo = 1099511627776 ∧ hi = 0
  at1 : s.has = true → s.mn = lo ∧ lo ≤ s.sm + 7

theorem Inv.zero : Inv ⟨false, 0, 0, 0, 0⟩ 1099511627776 0 := ⟨by omega, by omega, by omega, by omega, Int.le_refl _, by simp, Int.le_refl _, Int.le_refl _, Int.le_refl _, Int.le_refl _, fun _ => ⟨rfl, rfl⟩, (fun h => by cases h)⟩

def RS.step (s : RS) (l d : Int) : RS := if s.has then s.next (mnv l 1099511627776) (mnv d 1099511627776) else RS.first (mnv l 1099511627776)

theorem Inv.step {s : RS} {lo hi l d : Int} (h : Inv s lo hi) (hl : 0 ≤ l) (hd : 0 ≤ d) :
    Inv (s.step l d) (mnv lo (mnv l 1099511627776)) (mxv hi (mnv l 1099511627776)) ∧ (s.step l d).mn = mnv lo (mnv l 1099511627776) ∧ (s.step l d).la = mnv l 1099511627776 ∧
      mnv lo (mnv l 1099511627776) ≤ (s.step l d).sm + 8 ∧ (s.step l d).has = true := by
  obtain ⟨n, hn⟩ : ∃ n, n = mnv l 1099511627776 := ⟨_, rfl⟩
  obtain ⟨e, he⟩ : ∃ e, e = mnv d 1099511627776 := ⟨_, rfl⟩
  have hn0 : 0 ≤ n ∧ n ≤ 1099511627776 := by rw [hn]; exact mnv_bd l hl
  have he0 : 0 ≤ e ∧ e ≤ 1099511627776 := by rw [he]; exact mnv_bd d hd
  unfold RS.step
  rw [← hn, ← he]
  obtain ⟨a1, a2, a3, a4, a5, a6, a7, a8, a9, a10, a11, a12⟩ := h
  cases hs : s.has
  · obtain ⟨rfl, rfl⟩ := a11 hs
    rw [if_neg (by simp)]
    simp only [RS.first, mnv_eq, mxv_eq]
    refine ⟨⟨?_, ?_, ?_, ?_, ?_, ?_, ?_, ?_, ?_, ?_, (fun h => by cases h), fun _ => ⟨?_, ?_⟩⟩, ?_, ?_, ?_, ?_⟩ <;> (try rfl) <;> (try simp only []) <;> omega
  · obtain ⟨b1, b2⟩ := a12 hs
    rw [if_pos rfl]
    simp only [RS.next, mnv_eq, mxv_eq]
    rw [b1]
    obtain ⟨adj, hadj⟩ : ∃ adj, adj = (if min lo n + e ≤ n then n - e else n) := ⟨_, rfl⟩
    rw [← hadj]
    have hadj1 : min lo n ≤ adj ∧ adj ≤ n := by rw [hadj]; split <;> omega
    clear hadj
    refine ⟨⟨?_, ?_, ?_, ?_, ?_, ?_, ?_, ?_, ?_, ?_, (fun h => by cases h), fun _ => ⟨?_, ?_⟩⟩, ?_, ?_, ?_, ?_⟩ <;> (try rfl) <;> (try simp only []) <;> omega

theorem known_sm {s : RS} (h : 0 ≤ s.sm) : 0 ≤ s.known.sm := by unfold RS.known; split <;> first | exact h | exact z_sm

theorem pto_facts (s : RS) (d : Int) (m : Nat) (h1 : 0 ≤ s.sm) (hd : 0 ≤ d) :
    s.pto d m ≤ s.pto d (m + 1) ∧ s.pto d (m + 1) ≤ 1099511627776 ∧ s.pto d (m + 1) ≤ 2 * s.pto d m ∧ 1000 ≤ s.pto d m := by
  unfold RS.pto
  obtain ⟨x, hx⟩ : ∃ x, x = mnv (mnv s.sm 1099511627776 + mxv (4 * mnv s.vr 1099511627776) 1000 + mnv d 1099511627776) 1099511627776 := ⟨_, rfl⟩
  rw [← hx]
  have hx1 : 1000 ≤ x ∧ x ≤ 1099511627776 := by
    obtain ⟨b1, b2⟩ := mnv_bd s.sm h1
    obtain ⟨b3, b4⟩ := mnv_bd d hd
    have b5 : 1000 ≤ mxv (4 * mnv s.vr 1099511627776) 1000 := by rw [mxv_eq]; omega
    rw [hx, mnv_eq]; omega
  obtain ⟨c1, c2⟩ := dbl_bd m x (by omega) hx1.2
  rw [dbl_succ m x (by omega) hx1.2, mnv_eq]
  omega

def BoundsRel (B : Nat) (w : World) (n : Nat) (lo hi i : Value) (wr : World) : Prop :=
  ∃ (k : Nat) (s : RS) (l h : Int), k ≤ n ∧ i = .int .i64 k ∧ lo = .int .u64 l ∧ hi = .int .u64 h ∧ Below B w wr ∧ RttAt wr B s ∧ Inv s l h ∧ (k = 0 → s = ⟨false, 0, 0, 0, 0⟩)

theorem rttBounds_long (oa : Option Addr) (len cap : Nat) (d t : Int) (w : World) (h : 300 < len) (hm : len ≤ 9223372036854775807) : Calls Try.prog 4 #[.slice oa len cap, .int .u64 d, .int .u64 t] w (Gives w (.bool true)) := by
  go_enter Try.func4, Try.ntmps4
  go_wp2_with fail
  refine (works_any _).mono ?_
  rintro e w4 ⟨rfl, hb⟩
  go_wp2_with fail
  go_ret
  exact ⟨rfl, hb⟩

set_option maxRecDepth 100000 in
theorem rttBounds_short (oa : Option Addr) (xs : List (Int × Int)) (cap : Nat) (d t : Int) (w : World) (h : xs.length ≤ 300) (hx : Samples w oa xs) (hd : 0 ≤ d) (ht : 0 ≤ t) :
    Calls Try.prog 4 #[.slice oa xs.length cap, .int .u64 d, .int .u64 t] w (Gives w (.bool true)) := by
  have HX := Lib.hid hx
  clear hx
  go_enter Try.func4, Try.ntmps4
  go_wp2_with fail
  go_loopw [8, 9, 23] (fun lo hi i wr => BoundsRel w.heap.size w xs.length lo hi i wr) (fun _ _ i _ => xs.length - (intOf i).toNat)
  case atStart => exact ⟨0, _, _, _, by omega, rfl, rfl, rfl, (Below.refl _ w).alloc (Nat.le_refl _) _, rtt_new w _ rfl, Inv.zero, fun _ => rfl⟩
  case round =>
    obtain ⟨k, s, lo, hi, hk, rfl, rfl, rfl, hbel, hat, hinv, hz⟩ := hrel
    have HBEL := Lib.hid hbel
    have HAT := Lib.hid hat
    have HINV := Lib.hid hinv
    clear hbel hat hz hinv
    by_cases hlt : k < xs.length
    · obtain ⟨b, off, rfl, hx0, hx1, hb0, hb1, hb2, hb3⟩ := HX.out k hlt
      have hxw0 : wr.cell? ⟨b, off + k * 2, none⟩ = some (.int .u64 xs[k].1) := (HBEL.out.cell (World.block_lt_of_cell? w _ hx0)).trans hx0
      have hxw1 : wr.cell? ⟨b, off + k * 2 + 1, none⟩ = some (.int .u64 xs[k].2) := (HBEL.out.cell (World.block_lt_of_cell? w _ hx1)).trans hx1
      clear hx0 hx1
      go_wp2_with fail
      have hin := HINV.out
      refine (sample_any w.heap.size s _ _ _ hb0 hb2 (HAT.out.below (((Below.refl _ wr).alloc (Nat.le_refl _) _)) (lt_of_block HAT.out)) hin.mn0 hin.mn1 hin.sm0 (Int.le_trans hin.sm1 hin.hi1) hin.vr0 (Int.le_trans hin.vr1 hin.hi1)).mono ?_
      rintro e w1 ⟨rfl, hb', hg⟩
      have hx0 : w1.cell? ⟨wr.heap.size, 0, none⟩ = some (.int .u64 xs[k].1) := hg.cell (by simp) (by have := lt_of_block HAT.out; simp; omega)
      have hx1 : w1.cell? ⟨wr.heap.size, 1, none⟩ = some (.int .u64 xs[k].2) := hg.cell (by simp) (by have := lt_of_block HAT.out; simp; omega)
      have H1 : Hid (Below w.heap.size w w1) := Lib.hid (grown_below (HBEL.out.alloc HBEL.out.size _) hg (by have := lt_of_block HAT.out; simp; omega))
      have hst : RttAt w1 w.heap.size (s.step xs[k].1 xs[k].2) := hb'
      have HST := Lib.hid hst
      obtain ⟨g1, g2, g3, g4, g5⟩ := hin.step hb0 hb2
      obtain ⟨s', hs'⟩ : ∃ s', s' = s.step xs[k].1 xs[k].2 := ⟨_, rfl⟩
      rw [← hs'] at g1 g2 g3 g4 g5 HST
      have hst' : RttAt w1 w.heap.size s' := HST.out
      obtain ⟨c0, c1, c2, c3, c4, f0, f1, f2, f3, f4⟩ := hst'.cells
      have G1 := Lib.hid g1
      have i1 := g1.sm1
      have i2 := g1.vr1
      have i3 := g1.sm0
      have i4 := g1.hi1
      rw [g2] at c2
      rw [g3] at c1
      rw [g5] at c0
      have G5 := Lib.hid g5
      clear hs' hg hb' hst hin hst' g1 g2 g3 g5 hxw0 hxw1 HAT HBEL HINV
      go_wp2_with fail
      go_roundw
      case rel => exact ⟨k + 1, s', _, _, by omega, by go_num, rfl, rfl, H1.out, HST.out, G1.out, by omega⟩
      case measure => simp [intOf]; omega
    · have hin := HINV.out
      have q1 := hin.sm0
      have q2 := hin.vr0
      obtain ⟨m, hm⟩ : ∃ m : Nat, (m : Int) = t % 60 := ⟨(t % 60).toNat, by omega⟩
      have HM := Lib.hid hm
      have hm60 : m < 60 := by omega
      obtain ⟨r1, r2, r3, r4⟩ := pto_facts s.known d m (known_sm q1) hd
      have HR1 := Lib.hid r1
      have HR2 := Lib.hid r2
      have HR3 := Lib.hid r3
      have HR4 := Lib.hid r4
      clear hm hin r1 r2 r3 r4
      go_wp2_with fail
      rw [← HM.out]
      refine (pto_at w.heap.size s d m _ HAT.out hd q1 q2 (by omega)).mono ?_
      rintro e w1 ⟨rfl, hb⟩
      have HB3 := Lib.hid (HAT.out.below hb (lt_of_block HAT.out))
      have H3 := Lib.hid (HBEL.out.trans (hb.mono HBEL.out.size))
      clear hb
      go_wp2_with fail
      have HM' : Hid (t % 60 + 1 = ((m + 1 : Nat) : Int)) := by show t % 60 + 1 = _; rw [← HM.out]; rfl
      first
        | rw [show ((m : Int) + 1) = ((m + 1 : Nat) : Int) from rfl]
        | rw [HM'.out]
      refine (pto_at w.heap.size s d (m + 1) _ HB3.out hd q1 q2 (by omega)).mono ?_
      rintro e w2 ⟨rfl, hb⟩
      have H4 := Lib.hid (H3.out.trans (hb.mono H3.out.size))
      clear hb
      have r1 := HR1.out
      have r2 := HR2.out
      have r3 := HR3.out
      have r4 := HR4.out
      obtain ⟨A, hA⟩ : ∃ A, A = s.known.pto d m := ⟨_, rfl⟩
      obtain ⟨B, hB⟩ : ∃ B, B = s.known.pto d (m + 1) := ⟨_, rfl⟩
      rw [← hA] at r1 r3 r4
      rw [← hB] at r1 r2 r3
      rw [← hA, ← hB]
      clear hA hB HR1 HR2 HR3 HR4
      go_wp2_with fail
      refine (works_any _).mono ?_
      rintro e w4 ⟨rfl, hb⟩
      have H5 := Lib.hid (H4.out.trans (hb.mono H4.out.size))
      clear hb
      go_wp2_with fail
      go_ret
      exact ⟨rfl, H5.out⟩

def SamplesArg (w : World) (v : Value) : Prop := ∃ oa xs cap, v = .slice oa (List.length xs) cap ∧ xs.length ≤ cap ∧ cap ≤ maxLen ∧ Samples w oa xs

theorem rttBounds_walk (w : World) (v : Value) (h : SamplesArg w v) (d : Int) (hd : (Lit.int .u64 d).wf = true) (t : Int) (ht : (Lit.int .u64 t).wf = true) :
    Calls Try.prog 4 #[v, .int .u64 d, .int .u64 t] w (Gives w (.bool true)) := by
  obtain ⟨oa, xs, cap, rfl, h1, h2, hx⟩ := h
  unfold maxLen at h2
  by_cases h3 : xs.length ≤ 300
  · exact rttBounds_short oa xs cap d t w h3 hx (bounds_u64 hd).1 (bounds_u64 ht).1
  · exact rttBounds_long oa xs.length cap d t w (by omega) (by omega)
end Go.Proofs.Ytbmfjffccfmhmaa
