import Derived.Test.YtnkbhpnflfhhnaaGreatDoorQk
namespace Go.Proofs.YtnkbhpnflfhhnaaGreatDoor
open Go.ChangeShapes Go.WideShapes Go.ChangeAt Go.RowKit

/-- Where a plan stands in a run that began in w0. -/
structure Now (w0 : World) (b : Nat) (xs : List St) (clk : Int) (w : World) : Prop where
  plan : ∃ v, PlanAt w0.heap.size w b v xs clk
  keep : Keeps w0.heap.size w0 w

theorem Now.does {w0 w w' : World} {b : Nat} {xs ys : List St} {clk clk' : Int} {r : Value} {e : Ending} (h : Now w0 b xs clk w) (hd : Does w0.heap.size w b ys clk' r e w') : e = .returned r ∧ Now w0 b ys clk' w' :=
  ⟨hd.1, hd.2.1, h.keep.trans hd.2.2⟩
theorem Now.gives {w0 w w' : World} {b : Nat} {xs : List St} {clk : Int} (h : Now w0 b xs clk w) (hb : Below w.heap.size w w') : Now w0 b xs clk w' :=
  ⟨h.plan.imp fun _ h => h.below hb, h.keep.trans (Keeps.of_below hb)⟩

def rdUp (k : Nat) : List St := if k = 0 then ex3 false false false 0 else if k = 1 then ex3 true false false 0 else if k = 2 then ex3 true true false 0 else ex3 true true true 0
def Rel1 (w0 : World) (b g : Nat) (i : Value) (wr : World) : Prop := ∃ k : Nat, k ≤ 3 ∧ i = .int .i64 k ∧ Now w0 b (rdUp k) 0 wr ∧ wr.heap[g]? = some (.cells #[.int .u64 0, .int .u64 4, .int .u64 8] 29 (0, 0))
def Rel2 (w0 : World) (b : Nat) (i : Value) (wr : World) : Prop := ∃ k : Nat, k ≤ 3 ∧ i = .int .i64 k ∧ Now w0 b (ex3 true true true k) k wr
theorem Now.ids {w w' : World} {B b : Nat} {xs : List St} {clk : Int} {r : Value} {e : Ending} {g : Nat} {cs : Array Value} (h : w.heap[g]? = some (.cells cs 29 (0, 0))) (hd : Does B w b xs clk r e w') : w'.heap[g]? = some (.cells cs 29 (0, 0)) :=
  (Safe.block (B := B) (.inr ⟨cs, 29, (0, 0), h, by decide, by decide⟩) hd.2.2 (lt_of_block h)).trans h

set_option maxHeartbeats 8000000 in
set_option maxRecDepth 100000 in
theorem works_any (w : World) : Calls Tryz.prog 20 #[] w (Gives w (.bool true)) := by
  go_enter Tryz.func20, Tryz.ntmps20
  go_wp2_with fail
  refine (print_five _).mono ?_
  rintro e w1 ⟨rfl, hb1⟩
  have H1 := Lib.hid hb1
  clear hb1
  go_wp2_with fail
  refine (parse_A _).mono ?_
  rintro e w2 ⟨rfl, hb2⟩
  have H2 := Lib.hid (H1.out.trans (hb2.mono H1.out.size))
  clear hb2 H1
  go_wp2_with fail
  refine (new_any _).mono ?_
  rintro e w3 ⟨rfl, hw3⟩
  have H3 := Lib.hid hw3
  clear hw3
  have c0 : w3.cell? ⟨w2.heap.size, 0, none⟩ = some (.int .u8 1) := by
    rw [H3.out, Below.cell (Below.refl _ _ |>.alloc (Nat.le_refl _) _) (by simp)]
    simp
  have c1 : w3.cell? ⟨w2.heap.size, 1, none⟩ = some (.bool false) := by
    rw [H3.out, Below.cell (Below.refl _ _ |>.alloc (Nat.le_refl _) _) (by simp)]
    simp
  have hn3 : Now w (w2.heap.size + 1) [] 0 w3 := by
    rw [H3.out]
    refine ⟨⟨.slice none 0 0, ?_⟩, (Keeps.of_below (B := w.heap.size) H2.out).trans (Keeps.of_below (((Below.refl _ _).alloc (Nat.le_refl _) _).alloc (by simp) _))⟩
    have := new_plan w.heap.size (w2.alloc (.cells #[.int .u8 1, .bool false] 42)) (by have := H2.out.size; simp; omega)
    rwa [World.size_alloc] at this
  obtain ⟨b, hb⟩ : ∃ b, b = w2.heap.size + 1 := ⟨_, rfl⟩
  rw [← hb] at hn3
  have N3 := Lib.hid hn3
  have HBE := Lib.hid hb
  clear hn3
  go_wp2_with fail
  refine (default_any _).mono ?_
  rintro e w4 ⟨rfl, hb4⟩
  have N4 := Lib.hid (N3.out.gives hb4)
  clear hb4 N3 c0 c1 H3 H2
  go_wp2_with fail
  rw [← hb]
  obtain ⟨v, hv⟩ := N4.out.plan
  refine (setXs_any _ _ v [] 0 4 3 false _ hv r0).mono ?_
  intro e w5 hd
  rw [ex1_eq] at hd
  obtain ⟨rfl, hn⟩ := N4.out.does hd
  have N5 := Lib.hid hn
  clear hn hd hv N4
  go_wp2_with fail
  refine (default_any _).mono ?_
  rintro e w6 ⟨rfl, hb6⟩
  have N6 := Lib.hid (N5.out.gives hb6)
  clear hb6 N5
  go_wp2_with fail
  rw [← hb]
  obtain ⟨v, hv⟩ := N6.out.plan
  refine (setXs_any _ _ v ex1 0 0 3 false _ hv r1).mono ?_
  intro e w7 hd
  rw [ex2_eq] at hd
  obtain ⟨rfl, hn⟩ := N6.out.does hd
  have N7 := Lib.hid hn
  clear hn hd hv N6
  go_wp2_with fail
  rw [← hb]
  obtain ⟨v, hv⟩ := N7.out.plan
  refine (setXs_any _ _ v ex2 0 8 1 true _ hv r2).mono ?_
  intro e w8 hd
  rw [ex3_eq] at hd
  obtain ⟨rfl, hn⟩ := N7.out.does hd
  have N8 := Lib.hid hn
  clear hn hd hv N7
  go_wp2_with fail
  rw [← hb]
  obtain ⟨g, hg⟩ : ∃ g, g = w8.heap.size := ⟨_, rfl⟩
  have hg8 : (w8.alloc (.cells #[.int .u64 0, .int .u64 4, .int .u64 8] 29)).heap[g]? = some (.cells #[.int .u64 0, .int .u64 4, .int .u64 8] 29 (0, 0)) := by rw [hg]; exact World.alloc_heap_new w8 _
  have n8 : Now w b (ex3 false false false 0) 0 (w8.alloc (.cells #[.int .u64 0, .int .u64 4, .int .u64 8] 29)) := N8.out.gives ((Below.refl _ _).alloc (Nat.le_refl _) _)
  rw [← hg]
  clear hb
  go_loopw [52] (fun i wr => Rel1 w b g i wr) (fun i _ => 3 - (intOf i).toNat)
  case atStart => exact ⟨0, by omega, rfl, n8, hg8⟩
  case round =>
    obtain ⟨k, hk, rfl, hn, hgr⟩ := hrel
    have NR := Lib.hid hn
    have HG := Lib.hid hgr
    have c0 : wr.cell? ⟨g, 0, none⟩ = some (.int .u64 0) := by simp [World.cell?, hgr]
    have c1 : wr.cell? ⟨g, 1, none⟩ = some (.int .u64 4) := by simp [World.cell?, hgr]
    have c2 : wr.cell? ⟨g, 2, none⟩ = some (.int .u64 8) := by simp [World.cell?, hgr]
    clear hn hgr hg hg8 n8 N8
    rcases (show k = 0 ∨ k = 1 ∨ k = 2 ∨ k = 3 from by omega) with rfl | rfl | rfl | rfl
    · go_wp2_with fail
      obtain ⟨v, hv⟩ := NR.out.plan
      refine (ready_any _ _ v (ex3 false false false 0) 0 0 true _ hv (r3 _ _ _ _)).mono ?_
      intro e w' hd
      rw [rd0_eq, hs0_eq] at hd
      have hg' := Now.ids HG.out hd
      obtain ⟨rfl, hn⟩ := NR.out.does hd
      have N' := Lib.hid hn
      clear hn hd hv c0 c1 c2
      go_wp2_with fail
      go_roundw
      case rel => exact ⟨1, by omega, by go_num, N'.out, hg'⟩
      case measure => simp [intOf]
    · go_wp2_with fail
      obtain ⟨v, hv⟩ := NR.out.plan
      refine (ready_any _ _ v (ex3 true false false 0) 0 4 true _ hv (r3 _ _ _ _)).mono ?_
      intro e w' hd
      rw [rd1_eq, hs1_eq] at hd
      have hg' := Now.ids HG.out hd
      obtain ⟨rfl, hn⟩ := NR.out.does hd
      have N' := Lib.hid hn
      clear hn hd hv c0 c1 c2
      go_wp2_with fail
      go_roundw
      case rel => exact ⟨2, by omega, by go_num, N'.out, hg'⟩
      case measure => simp [intOf]
    · go_wp2_with fail
      obtain ⟨v, hv⟩ := NR.out.plan
      refine (ready_any _ _ v (ex3 true true false 0) 0 8 true _ hv (r3 _ _ _ _)).mono ?_
      intro e w' hd
      rw [rd2_eq, hs2_eq] at hd
      have hg' := Now.ids HG.out hd
      obtain ⟨rfl, hn⟩ := NR.out.does hd
      have N' := Lib.hid hn
      clear hn hd hv c0 c1 c2
      go_wp2_with fail
      go_roundw
      case rel => exact ⟨3, by omega, by go_num, N'.out, hg'⟩
      case measure => simp [intOf]
    · go_wp2_with fail
      clear c0 c1 c2 HG
      go_loopw [61] (fun i wr => Rel2 w b i wr) (fun i _ => 3 - (intOf i).toNat)
      case atStart => exact ⟨0, by omega, rfl, NR.out⟩
      case round =>
        obtain ⟨k, hk, rfl, hn⟩ := hrel
        have N2 := Lib.hid hn
        clear hn NR
        by_cases hlt : k < 3
        · have h012 : (k : Int) = 0 ∨ (k : Int) = 1 ∨ (k : Int) = 2 := by omega
          go_wp2_with fail
          obtain ⟨v, hv⟩ := N2.out.plan
          refine (serve_any _ _ v (ex3 true true true k) k _ hv (r3 _ _ _ _) (by omega) (by omega)).mono ?_
          intro e w' hd
          rw [sv_eq _ h012, sc_eq _ h012, ni_eq _ h012] at hd
          obtain ⟨rfl, hn⟩ := N2.out.does hd
          have N' := Lib.hid hn
          clear hn hd hv
          go_wp2_with fail
          go_roundw
          case rel =>
            refine ⟨_, _, _, _, _, _, _, _, _, _, _, _, _, _, _, _, _, ?_, rfl⟩
            exact ⟨k + 1, by omega, by go_num, by have := N'.out; exact_mod_cast this⟩
          case measure => simp [intOf]; omega
        · obtain rfl : k = 3 := by omega
          go_wp2_with fail
          obtain ⟨b8, hb8⟩ : ∃ b8, b8 = wr.heap.size := ⟨_, rfl⟩
          have h8 : (wr.alloc (.cells #[.int .u64 8] 29)).heap[b8]? = some (.cells #[.int .u64 8] 29 (0, 0)) := by rw [hb8]; exact World.alloc_heap_new wr _
          have n9 : Now w b (ex3 true true true 3) 3 (wr.alloc (.cells #[.int .u64 8] 29)) := N2.out.gives ((Below.refl _ _).alloc (Nat.le_refl _) _)
          rw [← hb8]
          obtain ⟨v, hv⟩ := n9.plan
          refine (drop_any _ _ v (some ⟨b8, 0, none⟩) (ex3 true true true 3) 1 3 [8] _ hv ?_ ?_ (by decide)).mono ?_
          · intro i hi
            obtain rfl : i = 0 := by simpa using hi
            exact ⟨b8, 0, rfl, by simp [World.cell?, h8]⟩
          · intro i hi
            exact ⟨b8, 0, rfl, .inr ⟨_, _, _, h8, by decide, by decide⟩⟩
          intro e w' hd
          rw [dr_eq] at hd
          obtain ⟨rfl, hn⟩ := n9.does hd
          have N' := Lib.hid hn
          clear hn hd hv n9 h8
          go_wp2_with fail
          obtain ⟨v, hv⟩ := N'.out.plan
          refine (next_plan _ _ v ex4 3 _ hv).mono ?_
          rw [n4_eq]
          rintro e w'' ⟨rfl, hb2⟩
          have N'' := Lib.hid (N'.out.gives hb2)
          clear hb2 hv N'
          go_wp2_with fail
          obtain ⟨v, hv⟩ := N''.out.plan
          refine (len_any _ _ v ex4 3 _ hv).mono ?_
          rintro e w4 ⟨rfl, hb2⟩
          have N4 := Lib.hid (N''.out.gives hb2)
          clear hb2 hv N''
          rw [show (ex4.length : Int) = 2 from rfl]
          go_wp2_with fail
          go_ret
          exact ⟨rfl, N4.out.keep.below (Nat.le_refl _)⟩
end Go.Proofs.YtnkbhpnflfhhnaaGreatDoor
