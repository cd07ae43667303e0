import Derived.Test.YtnkbhpnflfhhnaaGreatDoorQf
namespace Go.Proofs.YtnkbhpnflfhhnaaGreatDoor
open Go.ChangeShapes Go.WideShapes Go.ChangeAt Go.RowKit Go.Shelf
attribute [local go_sem] Oper.semAt_some

def strLeft (w : World) (b : Nat) : Nat := match w.heap[b]? with | some (.cells cs _ _) => (match cs[0]? with | some (Value.string t) => t.size | _ => 0) | _ => 0
theorem strLeft_eq {w : World} {b : Nat} {t : ByteArray} (h : w.heap[b]? = some (.cells #[.string t] 9 (0, 0))) : strLeft w b = t.size := by simp [strLeft, h]

def Boxes (W : World) (bs bsep bsv : Nat) (t : ByteArray) : Prop :=
  W.heap[bsep]? = some (.cells #[.string ⟨#[44]⟩] 9 (0, 0)) ∧ W.heap[bs]? = some (.cells #[.string t] 9 (0, 0)) ∧ W.heap[bsv]? = some (.cells #[.int .i64 0] 3 (0, 0))

theorem Boxes.set {W : World} {bs bsep bsv : Nat} {t t' : ByteArray} (h : Boxes W bs bsep bsv t) (hne1 : bs ≠ bsep) (hne2 : bs ≠ bsv) : Boxes (W.setCell ⟨bs, 0, none⟩ (.string t')) bs bsep bsv t' := by
  refine ⟨?_, by have := blk_set h.2.1 0 (.string t'); exact this, ?_⟩
  · exact ((grownBy_set W bs 0 (.string t')).block bsep (lt_of_block h.1) (fun e => hne1 (Option.some.inj e).symm)).trans h.1
  · exact ((grownBy_set W bs 0 (.string t')).block bsv (lt_of_block h.2.2) (fun e => hne2 (Option.some.inj e).symm)).trans h.2.2

def SplitRel (bs bsep bsv : Nat) (xs : List ByteArray) (J : List ByteArray → World → Prop) (wr : World) : Prop :=
  ∃ pre rest t, xs = pre ++ rest ∧ Boxes wr bs bsep bsv t ∧ t.size ≤ 4611686018427387904 ∧ SplitsTo t rest ∧ J pre wr

set_option maxRecDepth 100000 in
theorem split_iter (n : Nat) (bs bsep bsv : Nat) (hne1 : bs ≠ bsep) (hne2 : bs ≠ bsv) (t : ByteArray) (xs : List ByteArray) (J Jx : List ByteArray → World → Prop) (l : Nat) (W : World) (hb : Boxes W bs bsep bsv t) (ht : t.size ≤ 4611686018427387904) (hx : SplitsTo t xs)
    (hJs : ∀ pre (W : World) v, J pre W → J pre (W.setCell ⟨bs, 0, none⟩ v))
    (hY : ∀ pre x rest W1, xs = pre ++ x :: rest → J pre W1 → YieldAt Fence.wide (n - 1) Tryz.prog l #[.string x] W1 fun e W' =>
      (e = .returned (.bool true) ∧ J (pre ++ [x]) W' ∧ (∀ t, Boxes W1 bs bsep bsv t → Boxes W' bs bsep bsv t)) ∨ (e = .returned (.bool false) ∧ Jx (pre ++ [x]) W'))
    (h0 : J [] W) :
    CallsIn Fence.wide n Tryz.prog 120 #[.func (.yield l) #[] #[], .pointer (some ⟨bsep, 0, none⟩), .pointer (some ⟨bs, 0, none⟩), .pointer (some ⟨bsv, 0, none⟩)] W fun e W' =>
      (∃ v, e = .returned v) ∧ (J xs W' ∨ ∃ pre, Jx pre W') := by
  have HY := Lib.hid hY
  have HJS := Lib.hid hJs
  have HX := Lib.hid hx
  have HB := Lib.hid hb
  clear hY hJs hx
  refine callsIn_of_wp Tryz.func120 rfl trivial ?_ rfl
  simp only [Tryz.ntmps120, List.size_toArray, List.length_cons, List.length_nil, Nat.reduceAdd, Nat.reduceSub, Array.replicate_succ, Array.replicate_zero, List.push_toArray, List.append_toArray, List.nil_append, List.cons_append]
  have c1 : W.cell? ⟨bsep, 0, none⟩ = some (.string ⟨#[44]⟩) := by simp [World.cell?, hb.1]
  clear hb
  gi_wp2_with fail
  gi_loopw [7] (fun _ wr => SplitRel bs bsep bsv xs J wr) (fun _ wr => strLeft wr bs)
  case atStart => exact ⟨[], xs, t, rfl, HB.out, ht, HX.out, h0⟩
  case round =>
    obtain ⟨pre, rest, t, hxs, hb, hts, hsp, hj⟩ := hrel
    have c0 : wr.cell? ⟨bs, 0, none⟩ = some (.string t) := by simp [World.cell?, hb.2.1]
    have c1 : wr.cell? ⟨bsep, 0, none⟩ = some (.string ⟨#[44]⟩) := by simp [World.cell?, hb.1]
    have c2 : wr.cell? ⟨bsv, 0, none⟩ = some (.int .i64 0) := by simp [World.cell?, hb.2.2]
    have HB1 := Lib.hid hb
    have HSP := Lib.hid hsp
    clear hb
    match rest, HSP with
    | [], HSP => exact HSP.out.elim
    | [x], HSP =>
      obtain ⟨rfl, hx2⟩ := HSP.out
      clear HSP
      have hi := hx2
      gi_wp2_with fail
      refine ⟨trivial, (fun h => by cases h), ?_⟩
      refine (callsIn_wide.2 (indexS_one t 44 _)).mono ?_
      rw [hi]
      rintro e w' ⟨rfl, rfl⟩
      obtain ⟨fn, tmps, assign, body, hy, hR⟩ := HY.out pre t [] _ hxs hj
      gi_wp2_with fail
      refine ⟨(fun h => by cases h), hR.mono ?_⟩
      rintro e W2 (⟨rfl, hj2, -⟩ | ⟨rfl, hx2⟩)
      · gi_wp2_with fail
        go_end0
        exact ⟨⟨_, rfl⟩, .inl (by rw [hxs]; exact hj2)⟩
      · gi_wp2_with fail
        go_end0
        exact ⟨⟨_, rfl⟩, .inr ⟨_, hx2⟩⟩
    | x :: y :: r, HSP =>
      obtain ⟨i, hi, hil, hx, hsp⟩ := HSP.out
      have HSP2 := Lib.hid hsp
      have HI := Lib.hid hi
      clear HSP hsp hi
      have hi62 : i < 4611686018427387904 := by omega
      gi_wp2_with fail
      refine ⟨trivial, (fun h => by cases h), ?_⟩
      refine (callsIn_wide.2 (indexS_one t 44 _)).mono ?_
      rw [HI.out]
      rintro e w' ⟨rfl, rfl⟩
      obtain ⟨fn, tmps, assign, body, hy, hR⟩ := HY.out pre x (y :: r) _ hxs hj
      gi_wp2_with fail
      refine ⟨(fun h => by cases h), hR.mono ?_⟩
      rintro e W2 (⟨rfl, hj2, hk⟩ | ⟨rfl, hx2⟩)
      · have hb2 := hk t HB1.out
        have c0 : W2.cell? ⟨bs, 0, none⟩ = some (.string t) := by simp [World.cell?, hb2.2.1]
        have c1 : W2.cell? ⟨bsep, 0, none⟩ = some (.string ⟨#[44]⟩) := by simp [World.cell?, hb2.1]
        have f0 : W2.frozen? ⟨bs, 0, none⟩ = false := by simp [World.frozen?, hb2.2.1]
        have HB2 := Lib.hid hb2
        have HJ2 := Lib.hid hj2
        clear hb2 hj2 hk hR hy hj
        gi_wp2_with fail
        have hb3 := HB2.out.set (t' := t.extract (i + 1) t.size) hne1 hne2
        have hsz : (t.extract (i + 1) t.size).size = t.size - (i + 1) := by rw [ByteArray.size_extract, Nat.min_self]
        refine ⟨⟨pre ++ [x], y :: r, _, by rw [hxs]; simp, hb3, by omega, HSP2.out, HJS.out _ _ _ HJ2.out⟩, ?_⟩
        rw [strLeft_eq hb3.2.1, strLeft_eq HB1.out.2.1, hsz]
        omega
      · gi_wp2_with fail
        refine bodyPost_ret (results_none rfl _ _ _) rfl ?_
        exact ⟨⟨_, rfl⟩, .inr ⟨_, hx2⟩⟩
end Go.Proofs.YtnkbhpnflfhhnaaGreatDoor
