import Derived.Test.YtbmfjffccfmhmaaRttA
import Derived.Laws.ResultCell
namespace Go.Proofs.Ytbmfjffccfmhmaa
open Go.ChangeShapes Go.WideShapes Go.ChangeAt Go.RowKit
attribute [local go_sem] max2_int min2_int max_two min_two

def RS.val (s : RS) : Value := .agg #[.bool s.has, .int .u64 s.la, .int .u64 s.mn, .int .u64 s.sm, .int .u64 s.vr]
def RS.zero : RS := ⟨false, 333000, 333000, 333000, 166500⟩

def Gives (w : World) (v : Value) (e : Ending) (w' : World) : Prop := e = .returned v ∧ Below w.heap.size w w'

theorem known_nil (w : World) : Calls Try.prog 18 #[.pointer none] w (Gives w RS.zero.val) := by
  go_enter Try.func18, Try.ntmps18
  go_wp2
  exact bodyPost_ret (v := RS.zero.val) (by simp [results, Try.results18, go_sem]; rfl) rfl ⟨rfl, (Below.refl _ _).alloc (Nat.le_refl _) _⟩

theorem known_not (b : Nat) (s : RS) (w : World) (hb : RttAt w b s) (hs : s.has = false) : Calls Try.prog 18 #[.pointer (some ⟨b, 0, none⟩)] w (Gives w RS.zero.val) := by
  obtain ⟨c0, c1, c2, c3, c4, f0, f1, f2, f3, f4⟩ := hb.cells
  rw [hs] at c0
  have hlt := lt_of_block hb
  clear hb hs
  go_enter Try.func18, Try.ntmps18
  go_wp2
  exact bodyPost_ret (v := RS.zero.val) (by simp [results, Try.results18, go_sem]; rfl) rfl ⟨rfl, (Below.refl _ _).alloc (Nat.le_refl _) _⟩

theorem known_has (b : Nat) (s : RS) (w : World) (hb : RttAt w b s) (hs : s.has = true) : Calls Try.prog 18 #[.pointer (some ⟨b, 0, none⟩)] w (Gives w s.val) := by
  obtain ⟨c0, c1, c2, c3, c4, f0, f1, f2, f3, f4⟩ := hb.cells
  rw [hs] at c0
  have hlt := lt_of_block hb
  have HS := Lib.hid hs
  clear hb hs
  unfold RS.val
  rw [HS.out]
  go_enter Try.func18, Try.ntmps18
  go_wp2
  exact bodyPost_ret (v := .agg #[.bool true, .int .u64 s.la, .int .u64 s.mn, .int .u64 s.sm, .int .u64 s.vr]) (by simp [results, Try.results18, go_sem]) rfl ⟨rfl, (Below.refl _ _).alloc (Nat.le_refl _) _⟩

theorem k0_any (s : RS) (w : World) : Calls Try.prog 17 #[s.val] w (Gives w (RS.val ⟨s.has, mnv s.la 1099511627776, s.mn, mnv s.sm 1099511627776, mnv s.vr 1099511627776⟩)) := by
  unfold RS.val
  go_enter Try.func17, Try.ntmps17
  go_wp2
  exact bodyPost_ret (v := .agg #[.bool s.has, .int .u64 (mnv s.la 1099511627776), .int .u64 s.mn, .int .u64 (mnv s.sm 1099511627776), .int .u64 (mnv s.vr 1099511627776)]) (by simp [results, Try.results17, go_sem]) rfl ⟨rfl, ((Below.refl _ _).alloc (Nat.le_refl _) _).alloc (by simp) _⟩

/-- What a way counts as. -/
def RS.known (s : RS) : RS := if s.has then s else RS.zero
theorem known_any (b : Nat) (s : RS) (w : World) (hb : RttAt w b s) : Calls Try.prog 18 #[.pointer (some ⟨b, 0, none⟩)] w (Gives w s.known.val) := by
  unfold RS.known
  cases hs : s.has
  · exact known_not b s w hb hs
  · exact known_has b s w hb hs

theorem z_sm : 0 ≤ RS.zero.sm := by show (0 : Int) ≤ 333000; omega
theorem z_la : 0 ≤ RS.zero.la := by show (0 : Int) ≤ 333000; omega
theorem z_vr : 0 ≤ RS.zero.vr := by show (0 : Int) ≤ 166500; omega
def dbl (n : Int) : Nat → Int
  | 0 => n
  | k + 1 => if n < 1099511627776 then dbl (mnv (2 * n) 1099511627776) k else n
def RS.pto (s : RS) (d : Int) (times : Nat) : Int :=
  dbl (mnv (mnv s.sm 1099511627776 + mxv (4 * mnv s.vr 1099511627776) 1000 + mnv d 1099511627776) 1099511627776) times

theorem mnv_bd (x : Int) (h : 0 ≤ x) : 0 ≤ mnv x 1099511627776 ∧ mnv x 1099511627776 ≤ 1099511627776 := by rw [mnv_eq]; omega

theorem dbl_same (n : Int) (h : ¬ n < 1099511627776) : ∀ k, dbl n k = n := by
  intro k
  cases k with
  | zero => rfl
  | succ k => simp [dbl, h]

def PtoRel (r : Int) (t n : Value) : Prop := ∃ (k : Nat) (m : Int), t = .int .u64 k ∧ n = .int .u64 m ∧ 0 ≤ m ∧ m ≤ 1099511627776 ∧ (k : Int) < 18446744073709551616 ∧ dbl m k = r

theorem pto_of (p : Value) (s : RS) (d : Int) (times : Nat) (w : World) (h : ∀ w' : World, Below w.heap.size w w' → Calls Try.prog 18 #[p] w' (Gives w' s.val)) (hd : 0 ≤ d) (h1 : 0 ≤ s.sm) (h2 : 0 ≤ s.vr) (ht : (times : Int) < 18446744073709551616) :
    Calls Try.prog 9 #[p, .int .u64 d, .int .u64 times] w (Gives w (.int .u64 (s.pto d times))) := by
  have H := Lib.hid h
  have HT := Lib.hid ht
  obtain ⟨b1, b2⟩ := mnv_bd s.sm h1
  obtain ⟨b3, b4⟩ := mnv_bd s.vr h2
  obtain ⟨b5, b6⟩ := mnv_bd d hd
  have b7 : 0 ≤ mxv (4 * mnv s.vr 1099511627776) 1000 := by rw [mxv_eq]; omega
  have b8 : mxv (4 * mnv s.vr 1099511627776) 1000 ≤ 4398046511104 := by rw [mxv_eq]; omega
  obtain ⟨b9, b10⟩ := mnv_bd (mnv s.sm 1099511627776 + mxv (4 * mnv s.vr 1099511627776) 1000 + mnv d 1099511627776) (by omega)
  clear h ht
  go_enter Try.func9, Try.ntmps9
  go_wp2_with fail
  refine (H.out _ (Below.refl _ _)).mono ?_
  rintro e w1 ⟨rfl, hb1⟩
  have HB1 := Lib.hid hb1
  clear hb1
  unfold RS.val
  go_wp2_with fail
  refine (k0_any _ _).mono ?_
  rintro e w2 ⟨rfl, hb2⟩
  have HB2 := Lib.hid (HB1.out.trans (hb2.mono HB1.out.size))
  clear hb2 HB1
  unfold RS.val
  go_wp2_with fail
  go_loop [2, 8] (fun t n => PtoRel (s.pto d times) t n) (fun t _ => (intOf t).toNat)
  case atStart => exact ⟨times, _, rfl, rfl, b9, b10, HT.out, rfl⟩
  case round =>
    obtain ⟨k, m, rfl, rfl, hm0, hm1, hk, hr⟩ := hrel
    have HR := Lib.hid hr
    clear hr HT
    have HW : Hid (Below w.heap.size w (w2.alloc (Obj.cells #[Value.bool s.has, Value.int IntKind.u64 (mnv s.la 1099511627776), Value.int IntKind.u64 s.mn,
        Value.int IntKind.u64 (mnv s.sm 1099511627776), Value.int IntKind.u64 (mnv s.vr 1099511627776)] 26))) := Lib.hid (HB2.out.alloc HB2.out.size _)
    by_cases hk0 : k = 0
    · subst hk0
      go_wp2
      go_ret
      exact ⟨ret_int HR.out, HW.out⟩
    · obtain ⟨j, rfl⟩ : ∃ j, k = j + 1 := ⟨k - 1, by omega⟩
      by_cases hm : m < 1099511627776
      · obtain ⟨c1, c2⟩ := mnv_bd (2 * m) (by omega)
        go_wp2
        go_round
        case rel => exact ⟨j, _, by go_num, rfl, c1, c2, by omega, by have h := HR.out; rw [dbl, if_pos hm] at h; exact h⟩
        case measure => simp [intOf]
      · go_wp2
        go_ret
        exact ⟨ret_int (by have h := HR.out; rw [dbl_same _ (Int.not_lt.mpr hm)] at h; exact h), HW.out⟩

def RS.loss (s : RS) : Int := mxv 1000 (9 * mxv (mnv s.la 1099511627776) (mnv s.sm 1099511627776) / 8)

theorem loss_of (p : Value) (s : RS) (w : World) (h : ∀ w' : World, Below w.heap.size w w' → Calls Try.prog 18 #[p] w' (Gives w' s.val)) (h0 : 0 ≤ s.la) (h1 : 0 ≤ s.sm) :
    Calls Try.prog 10 #[p] w (Gives w (.int .u64 s.loss)) := by
  have H := Lib.hid h
  obtain ⟨b1, b2⟩ := mnv_bd s.sm h1
  obtain ⟨b3, b4⟩ := mnv_bd s.la h0
  have b7 : 0 ≤ mxv (mnv s.la 1099511627776) (mnv s.sm 1099511627776) := by rw [mxv_eq]; omega
  have b8 : mxv (mnv s.la 1099511627776) (mnv s.sm 1099511627776) ≤ 1099511627776 := by rw [mxv_eq]; omega
  clear h
  go_enter Try.func10, Try.ntmps10
  go_wp2_with fail
  refine (H.out _ (Below.refl _ _)).mono ?_
  rintro e w1 ⟨rfl, hb1⟩
  have HB1 := Lib.hid hb1
  clear hb1
  unfold RS.val
  go_wp2_with fail
  refine (k0_any _ _).mono ?_
  rintro e w2 ⟨rfl, hb2⟩
  have HB2 := Lib.hid (HB1.out.trans (hb2.mono HB1.out.size))
  clear hb2 HB1
  unfold RS.val
  go_wp2_with fail
  go_ret
  exact ⟨rfl, HB2.out.alloc HB2.out.size _⟩

theorem pto_at (b : Nat) (s : RS) (d : Int) (times : Nat) (w : World) (hb : RttAt w b s) (hd : 0 ≤ d) (h1 : 0 ≤ s.sm) (h2 : 0 ≤ s.vr) (ht : (times : Int) < 18446744073709551616) :
    Calls Try.prog 9 #[.pointer (some ⟨b, 0, none⟩), .int .u64 d, .int .u64 times] w (Gives w (.int .u64 (s.known.pto d times))) := by
  refine pto_of _ s.known d times w (fun w' hw => known_any b s w' ?_) hd ?_ ?_ ht
  · exact (hw.block b (lt_of_block hb)).trans hb
  · unfold RS.known; split <;> first | exact h1 | exact z_sm
  · unfold RS.known; split <;> first | exact h2 | exact z_vr | exact z_la

theorem loss_at (b : Nat) (s : RS) (w : World) (hb : RttAt w b s) (h1 : 0 ≤ s.sm) (h2 : 0 ≤ s.la) :
    Calls Try.prog 10 #[.pointer (some ⟨b, 0, none⟩)] w (Gives w (.int .u64 s.known.loss)) := by
  refine loss_of _ s.known w (fun w' hw => known_any b s w' ?_) ?_ ?_
  · exact (hw.block b (lt_of_block hb)).trans hb
  · unfold RS.known; split <;> first | exact h2 | exact z_vr | exact z_la
  · unfold RS.known; split <;> first | exact h1 | exact z_sm

theorem pto_nil (d : Int) (times : Nat) (w : World) (hd : 0 ≤ d) (ht : (times : Int) < 18446744073709551616) :
    Calls Try.prog 9 #[.pointer none, .int .u64 d, .int .u64 times] w (Gives w (.int .u64 (RS.zero.pto d times))) :=
  pto_of _ RS.zero d times w (fun w' _ => known_nil w') hd z_sm z_vr ht

theorem loss_nil (w : World) : Calls Try.prog 10 #[.pointer none] w (Gives w (.int .u64 RS.zero.loss)) :=
  loss_of _ RS.zero w (fun w' _ => known_nil w') z_la z_sm
end Go.Proofs.Ytbmfjffccfmhmaa
