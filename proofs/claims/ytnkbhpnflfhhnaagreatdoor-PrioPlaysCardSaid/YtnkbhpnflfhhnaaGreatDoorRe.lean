import Derived.Test.YtnkbhpnflfhhnaaGreatDoorRb
import Derived.Deep.Cut
import Derived.Deep.CutRange
import Derived.Deep.DeepCutAuto
import Derived.Deep.CutBlock
namespace Go.Proofs.YtnkbhpnflfhhnaaGreatDoor
open Go.ChangeShapes Go.WideShapes Go.ChangeAt Go.RowKit

theorem least_step {r : List St} {k : Nat} (hk : k < r.length) : leastOf r (k + 1) = if r[k].rdy = true ∧ r[k].urg < leastOf r k then r[k].urg else leastOf r k := by
  rw [leastOf, getD_at hk]
theorem plain_step {r : List St} {l : Int} {k : Nat} (hk : k < r.length) : plainOf r l (k + 1) = if (r[k].rdy = true ∧ r[k].urg = l ∧ r[k].inc = false) ∧ (plainOf r l k < 0 ∨ r[k].id < (r.getD (plainOf r l k).toNat St.nil).id) then (k : Int) else plainOf r l k := by
  rw [plainOf, getD_at hk]
theorem turn_step {r : List St} {l : Int} {k : Nat} (hk : k < r.length) : turnOf r l (k + 1) = if (r[k].rdy = true ∧ r[k].urg = l) ∧ (turnOf r l k < 0 ∨ r[k].srv < (r.getD (turnOf r l k).toNat St.nil).srv ∨ (r[k].srv = (r.getD (turnOf r l k).toNat St.nil).srv ∧ r[k].id < (r.getD (turnOf r l k).toNat St.nil).id)) then (k : Int) else turnOf r l k := by
  rw [turnOf, getD_at hk]
theorem plain_bd (r : List St) (l : Int) (k : Nat) : -1 ≤ plainOf r l k ∧ plainOf r l k < k := by
  induction k with
  | zero => simp [plainOf]
  | succ k ih => unfold plainOf; split <;> omega
theorem turn_bd (r : List St) (l : Int) (k : Nat) : -1 ≤ turnOf r l k ∧ turnOf r l k < k := by
  induction k with
  | zero => simp [turnOf]
  | succ k ih => unfold turnOf; split <;> omega

def LeastRel (r : List St) (q : Nat) (l i : Value) : Prop := ∃ k : Nat, k + q = r.length ∧ i = .int .i64 k ∧ l = .int .u8 (leastOf r k)
def PlainRel (r : List St) (L : Int) (w : World) (q : Nat) (b i : Value) (wr : World) : Prop := ∃ k : Nat, k + q = r.length ∧ i = .int .i64 k ∧ b = .int .i64 (plainOf r L k) ∧ Below w.heap.size w wr
def TurnRel (r : List St) (L : Int) (w : World) (q : Nat) (b i : Value) (wr : World) : Prop := ∃ k : Nat, k + q = r.length ∧ i = .int .i64 k ∧ b = .int .i64 (turnOf r L k) ∧ Below w.heap.size w wr
/-- A test that was drawn. -/
def Tested (w : World) (T : Bool) (s : Value) (wx : World) : Prop := s = .bool T ∧ Below w.heap.size w wx
def Held (w : World) (P : Int) (s : Value) (wx : World) : Prop := s = .int .i64 P ∧ Below w.heap.size w wx

set_option maxHeartbeats 8000000 in
set_option maxRecDepth 100000 in
theorem refNext_any (oa : Option Addr) (r : List St) (cap : Nat) (w : World) (hx : RefRow w oa r) (hl : r.length ≤ 4611686018427387904) :
    Calls Tryz.prog 28 #[.slice oa r.length cap] w (Gives w (.int .i64 (refNext r))) := by
  have HX := Lib.hid hx
  clear hx
  obtain ⟨n, hn⟩ : ∃ n, n = r.length := ⟨_, rfl⟩
  rw [← hn] at hl ⊢
  have HN := Lib.hid hn
  clear hn
  go_enter Tryz.func28, Tryz.ntmps28
  go_upto_block 0 with (fail)
  go_cut [3] (fun s3 wx => s3 = .int .u8 (leastOf r n) ∧ w = wx)
  case first =>
    go_wp2_with fail
    go_loopg [3, 4] n (fun q l i wr => LeastRel r q l i ∧ w = wr)
    case atStart => exact ⟨⟨0, by rw [HN.out]; omega, rfl, rfl⟩, rfl⟩
    case round =>
      obtain ⟨⟨k, hk, rfl, rfl⟩, rfl⟩ := hrel
      rw [← HN.out] at hk
      by_cases hlt : k < n
      · have hlt' : k < r.length := by rw [← HN.out]; omega
        obtain ⟨g, off, rfl, x0, x1, x2, x3, x4⟩ := HX.out k hlt'
        have HS := Lib.hid (least_step hlt')
        obtain ⟨L, hL⟩ : ∃ L, L = leastOf r k := ⟨_, rfl⟩
        rw [← hL]
        have HL := Lib.hid hL
        obtain ⟨x, hxk⟩ : ∃ x, x = r[k] := ⟨_, rfl⟩
        have HXK := Lib.hid hxk
        rw [← hxk] at x0 x1 x2 x3 x4
        clear hxk hL x0 x2 x4
        cases hr : x.rdy
        · rw [hr] at x3
          have HR := Lib.hid hr
          clear hr
          go_wp2_with fail
          go_roundg (gk - 1)
          case measure => omega
          case rel => exact ⟨⟨k + 1, by rw [← HN.out]; omega, by go_num, by rw [HS.out, if_neg (by rw [← HXK.out, HR.out]; simp), ← HL.out]⟩, rfl⟩
        · rw [hr] at x3
          have HR := Lib.hid hr
          clear hr
          by_cases hu : x.urg < L
          · go_wp2_with fail
            go_roundg (gk - 1)
            case measure => omega
            case rel => exact ⟨⟨k + 1, by rw [← HN.out]; omega, by go_num, by rw [HS.out, if_pos ⟨by rw [← HXK.out]; exact HR.out, by rw [← HXK.out, ← HL.out]; exact hu⟩, ← HXK.out]⟩, rfl⟩
          · go_wp2_with fail
            go_roundg (gk - 1)
            case measure => omega
            case rel => exact ⟨⟨k + 1, by rw [← HN.out]; omega, by go_num, by rw [HS.out, if_neg (fun h => by have := h.2; rw [← HXK.out, ← HL.out] at this; omega), ← HL.out]⟩, rfl⟩
      · obtain rfl : n = k := by omega
        go_wp2_with fail
        go_meet
        case rel => exact ⟨rfl, rfl⟩
  case rest =>
    obtain ⟨rfl, rfl⟩ := hcut
    obtain ⟨L, hL⟩ : ∃ L, L = leastOf r n := ⟨_, rfl⟩
    rw [← hL]
    have HL := Lib.hid hL
    clear hL
    go_upto_block 2 with (fail)
    go_cut [5] (fun s5 wx => Held w (plainOf r L n) s5 wx)
    case first =>
      go_wp2_with fail
      go_loopg [5, 6] n (fun q b i wr => PlainRel r L w q b i wr)
      case atStart => exact ⟨0, by rw [HN.out]; omega, rfl, rfl, Below.refl _ _⟩
      case round =>
        obtain ⟨j, hj, rfl, rfl, hbel⟩ := hrel
        rw [← HN.out] at hj
        have HBEL := Lib.hid hbel
        obtain ⟨bd1, bd2⟩ := plain_bd r L j
        clear hbel
        by_cases hlt : j < n
        · have hlt' : j < r.length := by rw [← HN.out]; omega
          have ij : (j : Int) < (n : Int) := by omega
          obtain ⟨g, off, rfl, x0, x1, x2, x3, x4⟩ := HX.out.below HBEL.out j hlt'
          have HS := Lib.hid (plain_step (l := L) hlt')
          obtain ⟨B, hB⟩ : ∃ B, B = plainOf r L j := ⟨_, rfl⟩
          rw [← hB] at bd1 bd2
          rw [← hB]
          have HBB := Lib.hid hB
          obtain ⟨x, hxk⟩ : ∃ x, x = r[j] := ⟨_, rfl⟩
          have HXK := Lib.hid hxk
          rw [← hxk] at x0 x1 x2 x3 x4
          obtain ⟨y, hy⟩ : ∃ y, y = r.getD B.toNat St.nil := ⟨_, rfl⟩
          have HY := Lib.hid hy
          clear hxk hB hy
          go_upto_region 11 with (fail)
          go_cut [77] (fun s77 wx => Tested w (decide ((x.rdy = true ∧ x.urg = L ∧ x.inc = false) ∧ (B < 0 ∨ x.id < y.id))) s77 wx)
          case first =>
            cases hr : x.rdy
            · rw [hr] at x3
              have HR := Lib.hid hr
              clear hr
              go_wp2_with fail
              go_big_quiet (fail)
              go_wp2_with fail
              go_meet
              case rel => exact ⟨by rw [decide_eq_false (fun h => by have := h.1.1; rw [HR.out] at this; cases this)], below_drewN HBEL.out _⟩
            · rw [hr] at x3
              have HR := Lib.hid hr
              clear hr
              by_cases hu : x.urg = L
              · have HU := Lib.hid hu
                cases hi : x.inc
                · rw [hi] at x2
                  have HI := Lib.hid hi
                  clear hi
                  by_cases hneg : B < 0
                  · go_wp2_with fail
                    go_big_quiet (fail)
                    go_wp2_with fail
                    go_meet
                    case rel => exact ⟨by rw [decide_eq_true ⟨⟨HR.out, HU.out, HI.out⟩, .inl hneg⟩], below_drewN HBEL.out _⟩
                  · obtain ⟨m, rfl⟩ : ∃ m : Nat, B = m := ⟨B.toNat, by omega⟩
                    have hm : m < r.length := by rw [← HN.out]; omega
                    have im : (m : Int) < (n : Int) := by omega
                    have dm0 : decide ((m : Int) < 0) = false := decide_eq_false (by omega)
                    have HG : Hid (y = r[m]) := Lib.hid (by rw [HY.out, Int.toNat_natCast]; exact getD_at hm)
                    obtain ⟨g', off', he, y0, y1, y2, y3, y4⟩ := HX.out.below HBEL.out m hm
                    simp only [Option.some.injEq, Addr.mk.injEq, and_true] at he
                    obtain ⟨rfl, rfl⟩ := he
                    rw [← HG.out] at y0 y1 y2 y3 y4
                    clear y1 y2 y3 y4 x4
                    by_cases hid : x.id < y.id
                    · have hd : decide (x.id < y.id) = true := decide_eq_true hid
                      go_wp2_with fail
                      go_big_quiet (fail)
                      go_wp2_with fail
                      go_meet
                      case rel => exact ⟨by rw [decide_eq_true ⟨⟨HR.out, HU.out, HI.out⟩, .inr hid⟩], below_drewN HBEL.out _⟩
                    · have hd : decide (x.id < y.id) = false := decide_eq_false hid
                      have hm0 : ¬ ((m : Int) < 0) := by omega
                      have HM0 := Lib.hid hm0
                      clear hm0
                      go_wp2_with fail
                      go_big_quiet (fail)
                      go_wp2_with fail
                      go_meet
                      case rel => exact ⟨by rw [decide_eq_false (fun h => (Or.elim h.2 (fun q => by have := HM0.out; omega) (fun q => by omega)))], below_drewN HBEL.out _⟩
                · rw [hi] at x2
                  have HI := Lib.hid hi
                  clear hi
                  go_wp2_with fail
                  go_big_quiet (fail)
                  go_wp2_with fail
                  go_meet
                  case rel => exact ⟨by rw [decide_eq_false (fun h => by have := h.1.2.2; rw [HI.out] at this; cases this)], below_drewN HBEL.out _⟩
              · have hd : (x.urg == L) = false := by simpa using hu
                have HU := Lib.hid hu
                clear hu
                go_wp2_with fail
                go_big_quiet (fail)
                go_wp2_with fail
                go_meet
                case rel => exact ⟨by rw [decide_eq_false (fun h => HU.out h.1.2.1)], below_drewN HBEL.out _⟩
          case rest =>
            obtain ⟨rfl, hbc⟩ := hcut
            have HBC := Lib.hid hbc
            have hst : plainOf r L (j + 1) = if (x.rdy = true ∧ x.urg = L ∧ x.inc = false) ∧ (B < 0 ∨ x.id < y.id) then (j : Int) else B := by rw [HS.out, ← HBB.out, ← HXK.out, ← HY.out]
            have HST := Lib.hid hst
            clear hbc hst x0 x1 x2 x3 x4
            by_cases hT : (x.rdy = true ∧ x.urg = L ∧ x.inc = false) ∧ (B < 0 ∨ x.id < y.id)
            · rw [decide_eq_true hT]
              have HT := Lib.hid hT
              clear hT
              go_wp2_with fail
              go_roundg (gk - 1)
              case measure => omega
              case rel => exact ⟨j + 1, by rw [← HN.out]; omega, by go_num, by rw [HST.out, if_pos HT.out], HBC.out⟩
            · rw [decide_eq_false hT]
              have HT := Lib.hid hT
              clear hT
              go_wp2_with fail
              go_roundg (gk - 1)
              case measure => omega
              case rel => exact ⟨j + 1, by rw [← HN.out]; omega, by go_num, by rw [HST.out, if_neg HT.out], HBC.out⟩
        · obtain rfl : j = n := by omega
          go_wp2_with fail
          go_meet
          case rel => exact ⟨rfl, HBEL.out⟩
    case rest =>
      obtain ⟨rfl, hbc⟩ := hcut
      have HBC := Lib.hid hbc
      have bd := (plain_bd r L n).1
      obtain ⟨P, hP⟩ : ∃ P, P = plainOf r L n := ⟨_, rfl⟩
      rw [← hP] at bd ⊢
      have HP := Lib.hid hP
      clear hP hbc
      by_cases hge : 0 ≤ P
      · go_wp2_with fail
        go_ret
        refine ⟨?_, HBC.out⟩
        unfold refNext
        rw [← HN.out, ← HL.out, if_pos (by rw [← HP.out]; exact hge), ← HP.out]
        rfl
      · obtain rfl : P = -1 := by omega
        go_upto_block 4 with (fail)
        go_cut [5] (fun s5 wx => Held w (turnOf r L n) s5 wx)
        case first =>
          go_wp2_with fail
          go_loopg [5, 7] n (fun q b i wr => TurnRel r L w q b i wr)
          case atStart => exact ⟨0, by rw [HN.out]; omega, rfl, rfl, HBC.out⟩
          case round =>
            obtain ⟨j, hj, rfl, rfl, hbel⟩ := hrel
            rw [← HN.out] at hj
            have HBEL := Lib.hid hbel
            obtain ⟨bd1, bd2⟩ := turn_bd r L j
            clear hbel
            by_cases hlt : j < n
            · have hlt' : j < r.length := by rw [← HN.out]; omega
              have ij : (j : Int) < (n : Int) := by omega
              obtain ⟨g, off, rfl, x0, x1, x2, x3, x4⟩ := HX.out.below HBEL.out j hlt'
              have HS := Lib.hid (turn_step (l := L) hlt')
              obtain ⟨B, hB⟩ : ∃ B, B = turnOf r L j := ⟨_, rfl⟩
              rw [← hB] at bd1 bd2
              rw [← hB]
              have HBB := Lib.hid hB
              obtain ⟨x, hxk⟩ : ∃ x, x = r[j] := ⟨_, rfl⟩
              have HXK := Lib.hid hxk
              rw [← hxk] at x0 x1 x2 x3 x4
              obtain ⟨y, hy⟩ : ∃ y, y = r.getD B.toNat St.nil := ⟨_, rfl⟩
              have HY := Lib.hid hy
              have hst : turnOf r L (j + 1) = if (x.rdy = true ∧ x.urg = L) ∧ (B < 0 ∨ x.srv < y.srv ∨ (x.srv = y.srv ∧ x.id < y.id)) then (j : Int) else B := by rw [HS.out, ← HBB.out, ← HXK.out, ← HY.out]
              have HST := Lib.hid hst
              clear hxk hB hy hst x2
              cases hr : x.rdy
              · rw [hr] at x3
                have HR := Lib.hid hr
                clear hr
                go_wp2_with fail
                go_roundg (gk - 1)
                case measure => omega
                case rel => exact ⟨j + 1, by rw [← HN.out]; omega, by go_num, by rw [HST.out, if_neg (fun h => by have := h.1.1; rw [HR.out] at this; cases this)], HBEL.out⟩
              · rw [hr] at x3
                have HR := Lib.hid hr
                clear hr
                by_cases hu : x.urg = L
                · have HU := Lib.hid hu
                  go_upto_region 19 with (fail)
                  go_cut [143] (fun s143 wx => Tested w (decide (B < 0 ∨ x.srv < y.srv ∨ (x.srv = y.srv ∧ x.id < y.id))) s143 wx)
                  case first =>
                    clear hu x1 x3
                    by_cases hneg : B < 0
                    · go_wp2_with fail
                      go_big_quiet (fail)
                      go_wp2_with fail
                      go_meet
                      case rel => exact ⟨by rw [decide_eq_true (.inl hneg)], below_drewN HBEL.out _⟩
                    · obtain ⟨m, rfl⟩ : ∃ m : Nat, B = m := ⟨B.toNat, by omega⟩
                      have hm : m < r.length := by rw [← HN.out]; omega
                      have im : (m : Int) < (n : Int) := by omega
                      have dm0 : decide ((m : Int) < 0) = false := decide_eq_false (by omega)
                      have HG : Hid (y = r[m]) := Lib.hid (by rw [HY.out, Int.toNat_natCast]; exact getD_at hm)
                      obtain ⟨g', off', he, y0, y1, y2, y3, y4⟩ := HX.out.below HBEL.out m hm
                      simp only [Option.some.injEq, Addr.mk.injEq, and_true] at he
                      obtain ⟨rfl, rfl⟩ := he
                      rw [← HG.out] at y0 y1 y2 y3 y4
                      clear y1 y2 y3
                      by_cases hs : x.srv < y.srv
                      · have hd : decide (x.srv < y.srv) = true := decide_eq_true hs
                        have HSS := Lib.hid hs
                        clear hs
                        go_wp2_with fail
                        go_big_quiet (fail)
                        go_wp2_with fail
                        go_meet
                        case rel => exact ⟨by rw [decide_eq_true (.inr (.inl HSS.out))], below_drewN HBEL.out _⟩
                      · have hd : decide (x.srv < y.srv) = false := decide_eq_false hs
                        by_cases he : x.srv = y.srv
                        · have HE := Lib.hid he
                          have he1 : (x.srv == y.srv) = true := by simpa using he
                          clear he
                          by_cases hid : x.id < y.id
                          · have hd2 : decide (x.id < y.id) = true := decide_eq_true hid
                            go_wp2_with fail
                            go_big_quiet (fail)
                            go_wp2_with fail
                            go_meet
                            case rel => exact ⟨by rw [decide_eq_true (.inr (.inr ⟨HE.out, hid⟩))], below_drewN HBEL.out _⟩
                          · have hd2 : decide (x.id < y.id) = false := decide_eq_false hid
                            go_wp2_with fail
                            go_big_quiet (fail)
                            go_wp2_with fail
                            go_meet
                            case rel => exact ⟨by rw [decide_eq_false (fun h => by omega)], below_drewN HBEL.out _⟩
                        · have HE := Lib.hid he
                          have he1 : decide (x.srv = y.srv) = false := decide_eq_false he
                          have he2 : (x.srv == y.srv) = false := by simpa using he
                          clear he
                          go_wp2_with fail
                          go_big_quiet (fail)
                          go_wp2_with fail
                          go_meet
                          case rel => exact ⟨by rw [decide_eq_false (fun h => by have := HE.out; omega)], below_drewN HBEL.out _⟩
                  case rest =>
                    obtain ⟨rfl, hbc⟩ := hcut
                    have HBQ := Lib.hid hbc
                    clear hbc x0 x1 x3 x4 hu
                    by_cases hT : B < 0 ∨ x.srv < y.srv ∨ (x.srv = y.srv ∧ x.id < y.id)
                    · rw [decide_eq_true hT]
                      have HT := Lib.hid hT
                      clear hT
                      go_wp2_with fail
                      go_roundg (gk - 1)
                      case measure => omega
                      case rel => exact ⟨j + 1, by rw [← HN.out]; omega, by go_num, by rw [HST.out, if_pos ⟨⟨HR.out, HU.out⟩, HT.out⟩], HBQ.out⟩
                    · rw [decide_eq_false hT]
                      have HT := Lib.hid hT
                      clear hT
                      go_wp2_with fail
                      go_roundg (gk - 1)
                      case measure => omega
                      case rel => exact ⟨j + 1, by rw [← HN.out]; omega, by go_num, by rw [HST.out, if_neg (fun h => HT.out h.2)], HBQ.out⟩
                · have hd : (x.urg == L) = false := by simpa using hu
                  have HU := Lib.hid hu
                  clear hu
                  go_wp2_with fail
                  go_roundg (gk - 1)
                  case measure => omega
                  case rel => exact ⟨j + 1, by rw [← HN.out]; omega, by go_num, by rw [HST.out, if_neg (fun h => HU.out h.1.2)], HBEL.out⟩
            · obtain rfl : j = n := by omega
              go_wp2_with fail
              go_meet
              case rel => exact ⟨rfl, HBEL.out⟩
        case rest =>
          obtain ⟨rfl, hbc⟩ := hcut
          have HBD := Lib.hid hbc
          obtain ⟨T, hT⟩ : ∃ T, T = turnOf r L n := ⟨_, rfl⟩
          rw [← hT]
          have HT := Lib.hid hT
          clear hT hbc
          go_wp2_with fail
          go_ret
          refine ⟨?_, HBD.out⟩
          unfold refNext
          rw [← HN.out, ← HL.out, if_neg (by rw [← HP.out]; omega), ← HT.out]
          rfl
end Go.Proofs.YtnkbhpnflfhhnaaGreatDoor
