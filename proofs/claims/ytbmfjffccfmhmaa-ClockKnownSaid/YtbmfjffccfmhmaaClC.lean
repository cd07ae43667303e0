import Derived.Test.YtbmfjffccfmhmaaClB
namespace Go.Proofs.Ytbmfjffccfmhmaa
open Go.ChangeShapes Go.WideShapes Go.ChangeAt Go.RowKit

/-- The packets on their way that the document's connection has: none, or one that elicits. -/
def LAt (w : World) (v : Value) (q : Bool) : Prop := (q = false ∧ v = .slice none 0 0) ∨ (q = true ∧ ∃ b, v = .slice (some ⟨b, 0, none⟩) 1 1 ∧ w.heap[b]? = some (.cells #[.int .u64 0, .int .u64 1000, .int .u64 0, .bool true, .int .u64 0, .slice none 0 0] 92 (0, 0)))

theorem LAt.below {w w' : World} {v : Value} {q : Bool} (h : LAt w v q) (hb : Below w.heap.size w w') : LAt w' v q := by
  rcases h with h | ⟨h1, b, h2, h3⟩
  · exact .inl h
  · exact .inr ⟨h1, b, h2, (hb.block b (lt_of_block h3)).trans h3⟩
theorem elicits (w : World) : Calls Try.prog 34 #[.agg #[.int .u64 0, .int .u64 1000, .int .u64 0, .bool true, .int .u64 0, .slice none 0 0]] w (Gives w (.bool true)) := by
  go_enter Try.func34, Try.ntmps34
  go_wp2
  go_ret
  exact ⟨rfl, (Below.refl _ _).alloc (Nat.le_refl _) _⟩
theorem index_none (w : World) : Calls Try.prog 35 #[.slice none 0 0, .func (.func 34) #[] #[]] w (Gives w (.int .i64 (-1))) := by
  go_enter Try.func35, Try.ntmps35
  go_wp2
  go_loop [8] (fun i => i = .int .i64 0) (fun _ => 0)
  case atStart => rfl
  case round =>
    obtain rfl := hrel
    go_wp2
    go_ret
    exact ⟨rfl, Below.refl _ _⟩
theorem index_one (b : Nat) (w : World) (h : w.heap[b]? = some (.cells #[.int .u64 0, .int .u64 1000, .int .u64 0, .bool true, .int .u64 0, .slice none 0 0] 92 (0, 0))) :
    Calls Try.prog 35 #[.slice (some ⟨b, 0, none⟩) 1 1, .func (.func 34) #[] #[]] w (Gives w (.int .i64 0)) := by
  have x0 : w.cell? ⟨b, 0, none⟩ = some (.int .u64 0) := by simp [World.cell?, h]
  have x1 : w.cell? ⟨b, 1, none⟩ = some (.int .u64 1000) := by simp [World.cell?, h]
  have x2 : w.cell? ⟨b, 2, none⟩ = some (.int .u64 0) := by simp [World.cell?, h]
  have x3 : w.cell? ⟨b, 3, none⟩ = some (.bool true) := by simp [World.cell?, h]
  have x4 : w.cell? ⟨b, 4, none⟩ = some (.int .u64 0) := by simp [World.cell?, h]
  have x5 : w.cell? ⟨b, 5, none⟩ = some (.slice none 0 0) := by simp [World.cell?, h]
  clear h
  go_enter Try.func35, Try.ntmps35
  go_wp2_with fail
  refine wp_loop_rounds 1 ?_
  rw [rounds_succ]
  go_wp2_with (go_at_call 34; refine (elicits _).mono ?_; rintro e w1 ⟨rfl, hb1⟩)
  go_ret
  exact ⟨rfl, hb1⟩
theorem contains_any (v : Value) (q : Bool) (w : World) (h : LAt w v q) : Calls Try.prog 33 #[v, .func (.func 34) #[] #[]] w (Gives w (.bool q)) := by
  rcases h with ⟨rfl, rfl⟩ | ⟨rfl, b, rfl, h⟩
  · go_enter Try.func33, Try.ntmps33
    go_wp2_with (go_at_call 35; refine (index_none _).mono ?_; rintro e w1 ⟨rfl, hb1⟩)
    go_ret
    exact ⟨rfl, hb1⟩
  · have H := Lib.hid h
    clear h
    go_enter Try.func33, Try.ntmps33
    go_wp2_with (go_at_call 35; refine (index_one b _ H.out).mono ?_; rintro e w1 ⟨rfl, hb1⟩)
    go_ret
    exact ⟨rfl, hb1⟩
theorem waits_any (b : Nat) (v : Value) (q : Bool) (w : World) (hc : w.cell? ⟨b, 0, none⟩ = some v) (h : LAt w v q) : Calls Try.prog 31 #[.pointer (some ⟨b, 0, none⟩)] w (Gives w (.bool q)) := by
  have H := Lib.hid h
  clear h
  go_enter Try.func31, Try.ntmps31
  go_wp2_with (go_at_call 33; refine (contains_any v q _ H.out).mono ?_; rintro e w1 ⟨rfl, hb1⟩)
  go_ret
  exact ⟨rfl, hb1⟩
/-- A way of which nothing is known yet, wherever it lies. -/
theorem known_off (b o : Nat) (w : World) (hc : w.cell? ⟨b, o, none⟩ = some (.bool false)) : Calls Try.prog 18 #[.pointer (some ⟨b, o, none⟩)] w (Gives w RS.zero.val) := by
  have hlt : b < w.heap.size := block_lt_of_cell hc
  go_enter Try.func18, Try.ntmps18
  go_wp2
  exact bodyPost_ret (v := RS.zero.val) (by simp [results, Try.results18, go_sem]; rfl) rfl ⟨rfl, (Below.refl _ _).alloc (Nat.le_refl _) _⟩
theorem pto_off (b o : Nat) (d : Int) (times : Nat) (w : World) (hc : w.cell? ⟨b, o, none⟩ = some (.bool false)) (hlt : b < w.heap.size) (hd : 0 ≤ d) (ht : (times : Int) < 18446744073709551616) :
    Calls Try.prog 9 #[.pointer (some ⟨b, o, none⟩), .int .u64 d, .int .u64 times] w (Gives w (.int .u64 (RS.zero.pto d times))) :=
  pto_of _ RS.zero d times w (fun w' hb => known_off b o w' ((hb.cell (p := ⟨b, o, none⟩) hlt).trans hc)) hd z_sm z_vr ht
theorem isNaN_any (x : Int) (w : World) : Calls Try.prog 29 #[.int .u64 x] w fun e w' => e = .returned (.bool false) ∧ w = w' := by
  go_enter Try.func29, Try.ntmps29
  go_wp2
  all_goals (go_ret; exact ⟨by simp, rfl⟩)
theorem cell_heap {w W : World} (h : W.heap = w.heap) (a : Addr) : W.cell? a = w.cell? a := by simp [World.cell?, h]
theorem frozen_heap {w W : World} (h : W.heap = w.heap) (a : Addr) : W.frozen? a = w.frozen? a := by simp [World.frozen?, h]
theorem below_drew' {B : Nat} (w : World) : Below B w w.drew := (Below.refl _ _).drew
def cmp3 (x y : Int) : Int := if x < y then -1 else if y < x then 1 else 0
theorem compare_any (x y : Int) (w : World) : Calls Try.prog 22 #[.int .u64 x, .int .u64 y] w fun e w' => e = .returned (.int .i64 (cmp3 x y)) ∧ w = w' := by
  go_enter Try.func22, Try.ntmps22
  go_wp2_with (go_at_call 29; refine (isNaN_any _ _).mono ?_; rintro e w1 ⟨rfl, rfl⟩)
  all_goals (go_ret; refine ⟨ret_int ?_, rfl⟩; unfold cmp3; first | rw [if_pos (by assumption)] | rw [if_neg (by omega), if_pos (by omega)] | rw [if_neg (by omega), if_neg (by omega)])
theorem byAt_any (a1 k1 s1 a2 k2 s2 : Int) (w : World) : Calls Try.prog 21 #[.agg #[.int .u64 a1, .int .u8 k1, .int .u8 s1], .agg #[.int .u64 a2, .int .u8 k2, .int .u8 s2]] w (Gives w (.int .i64 (cmp3 a1 a2))) := by
  go_enter Try.func21, Try.ntmps21
  go_wp2_with (go_at_call 22; refine (compare_any _ _ _).mono ?_; rintro e w1 ⟨rfl, rfl⟩)
  go_ret
  exact ⟨rfl, ((Below.refl _ _).alloc (Nat.le_refl _) _).alloc (by simp) _⟩
end Go.Proofs.Ytbmfjffccfmhmaa
