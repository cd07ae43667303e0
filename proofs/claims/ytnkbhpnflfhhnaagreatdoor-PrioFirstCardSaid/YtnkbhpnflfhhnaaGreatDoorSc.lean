import Derived.Test.YtnkbhpnflfhhnaaGreatDoorSa
import Derived.Test.YtnkbhpnflfhhnaaGreatDoorSb
namespace Go.Proofs.YtnkbhpnflfhhnaaGreatDoor
open Go.ChangeShapes Go.WideShapes Go.ChangeAt Go.RowKit Go.Maps

/-- A plan lies apart from a set. -/
theorem PlanAt.mapped {B : Nat} {w w' : World} {b bm n : Nat} {v : Value} {xs : List St} {clk : Int} {ks : List Int} (h : PlanAt B w b v xs clk) (hs : SetAt w bm n ks) (hg : w.grownBy w' (some bm)) : PlanAt B w' b v xs clk := by
  obtain ⟨D, ⟨es, clock, hm, -⟩, -⟩ := hs.ex
  have hbg : b ≠ bm := by
    rintro rfl
    have := h.blk
    rw [hm] at this
    simp at this
  refine ⟨(hg.block b (lt_of_block h.blk) (fun e => hbg (Option.some.inj e))).trans h.blk, h.own.kept hg ?_, h.base, h.len⟩
  right
  rcases h.own.2 with ⟨rfl, -⟩ | ⟨g', cap', cur, rfl, -, hgg', -⟩
  · simp [Value.ownBlock]
  · intro e
    simp [Value.ownBlock] at e
    subst e
    rw [hm] at hgg'
    simp at hgg'

/-- Where a run of PrioTurns stands: the plan, the set. -/
structure Tu (w0 : World) (b bm n : Nat) (xs : List St) (clk : Int) (ks : List Int) (w : World) : Prop where
  plan : ∃ v, PlanAt w0.heap.size w b v xs clk
  set : SetAt w bm n ks
  bel : Below w0.heap.size w0 w
  base : w0.heap.size ≤ bm

theorem Tu.gives {w0 w w' : World} {b bm n : Nat} {xs : List St} {clk : Int} {ks : List Int} (h : Tu w0 b bm n xs clk ks w) (hb : Below w.heap.size w w') : Tu w0 b bm n xs clk ks w' :=
  ⟨h.plan.imp fun _ h => h.below hb, h.set.below hb, h.bel.trans (hb.mono h.bel.size), h.base⟩
theorem Tu.does {w0 w w' : World} {b bm n : Nat} {xs ys : List St} {clk clk' : Int} {ks : List Int} {r : Value} {e : Ending} (h : Tu w0 b bm n xs clk ks w) (hd : Does w0.heap.size w b ys clk' r e w') : e = .returned r ∧ Tu w0 b bm n ys clk' ks w' ∧ Keeps w0.heap.size w w' :=
  ⟨hd.1, ⟨hd.2.1, h.set.keeps hd.2.2, h.bel.trans (hd.2.2.below h.bel.size), h.base⟩, hd.2.2⟩
theorem Tu.put {w0 w w' : World} {b bm n n' : Nat} {xs : List St} {clk : Int} {ks ks' : List Int} (h : Tu w0 b bm n xs clk ks w) (hs : SetAt w' bm n' ks') (hg : w.grownBy w' (some bm)) : Tu w0 b bm n' xs clk ks' w' :=
  ⟨h.plan.imp fun _ hp => hp.mapped h.set hg, hs, h.bel.grown hg h.bel.size (fun j hj => by cases hj; exact h.base), h.base⟩
/-- Another set is written. -/
theorem Tu.other {w0 w w' : World} {b bm bs n m : Nat} {xs : List St} {clk : Int} {ks l : List Int} (h : Tu w0 b bm n xs clk ks w) (hs : SetAt w bs m l) (hg : w.grownBy w' (some bs)) (hb : w0.heap.size ≤ bs) (hne : bm ≠ bs) : Tu w0 b bm n xs clk ks w' :=
  ⟨h.plan.imp fun _ hp => hp.mapped hs hg, h.set.grown hg (fun e => hne (Option.some.inj e)), h.bel.grown hg h.bel.size (fun j hj => by cases hj; exact hb), h.base⟩

def RelA (w0 : World) (b bm : Nat) (u : Int) (others : List Int) (i : Value) (wr : World) : Prop :=
  ∃ (k : Nat) (xs : List St), k ≤ others.length ∧ i = .int .i64 k ∧ Tu w0 b bm 0 xs 0 [] wr ∧ TInv [] u xs ∧ (∀ s ∈ xs, s.srv = 0) ∧ xs.length ≤ k
def RelB (w0 : World) (b bm : Nat) (u : Int) (m : Nat) (ids : List Int) (i : Value) (wr : World) : Prop :=
  ∃ (k : Nat) (xs : List St) (ks : List Int), k ≤ ids.length ∧ i = .int .i64 k ∧ Tu w0 b bm k xs 0 ks wr ∧ TInv (ids.take k) u xs ∧ (∀ s ∈ xs, s.srv = 0) ∧ xs.length ≤ m + k ∧ (∀ id, id ∈ ks ↔ id ∈ ids.take k)
def RelC (w0 : World) (b bm n : Nat) (u r : Int) (ids ks : List Int) (i : Value) (wr : World) : Prop :=
  ∃ (k : Nat) (xs : List St) (c : Nat), (k : Int) ≤ r ∧ i = .int .u8 k ∧ Tu w0 b bm n xs c ks wr ∧ RInv ids u c [] xs ∧ c = k * ks.length
def RelD (w0 : World) (b bm bs n : Nat) (u : Int) (c : Nat) (ids ks : List Int) (i : Value) (wr : World) : Prop :=
  ∃ (xs : List St) (seen : List Int), seen.length ≤ ks.length ∧ i = .int .i64 seen.length ∧ Tu w0 b bm n xs (c + seen.length : Nat) ks wr ∧ SetAt wr bs seen.length seen ∧ RInv ids u c seen xs

theorem set_ok {xs : List St} {id u : Int} (hu : u ≤ 7) (hl : xs.length < 256) : setRes xs id u = 0 := by
  unfold setRes
  rw [if_neg (by omega)]
  split
  · rfl
  · rw [if_neg (by omega)]
theorem take_snoc' {α : Type} {l : List α} {k : Nat} (h : k < l.length) : l.take (k + 1) = l.take k ++ [l[k]] := List.take_succ_eq_append_getElem h

set_option maxHeartbeats 8000000 in
set_option maxRecDepth 100000 in
theorem turns_any (o1 o2 : Option Addr) (ids others : List Int) (c1 c2 : Nat) (u r : Int) (w : World) (h1 : U64s w o1 ids) (h2 : U64s w o2 others) (hw1 : ∀ id ∈ ids, W64 id) (hu0 : 0 ≤ u) (hu1 : u ≤ 255) (hr0 : 0 ≤ r) (hr1 : r ≤ 255)
    (hl1 : ids.length ≤ 4611686018427387904) (hl2 : others.length ≤ 4611686018427387904) :
    Calls Tryz.prog 7 #[.slice o1 ids.length c1, .slice o2 others.length c2, .int .u8 u, .int .u8 r] w (Gives w (.bool true)) := by
  have H1 := Lib.hid h1
  have H2 := Lib.hid h2
  have HW1 := Lib.hid hw1
  have hmm := @run_makeMap Tryz.prog
  clear h1 h2 hw1
  obtain ⟨n1, hn1⟩ : ∃ n, n = ids.length := ⟨_, rfl⟩
  obtain ⟨n2, hn2⟩ : ∃ n, n = others.length := ⟨_, rfl⟩
  rw [← hn1] at hl1 ⊢
  rw [← hn2] at hl2 ⊢
  have HN1 := Lib.hid hn1
  have HN2 := Lib.hid hn2
  clear hn1 hn2
  by_cases hbig : 60 < n1 ∨ 60 < n2
  · by_cases hb1 : 60 < n1
    · clear hbig
      go_enter Tryz.func7, Tryz.ntmps7
      go_wp2_with fail
      refine (works_any _).mono ?_
      rintro e w2 ⟨rfl, hb2⟩
      have H2 := Lib.hid hb2
      clear hb2
      go_wp2_with fail
      go_ret
      exact ⟨rfl, H2.out⟩
    · have hb2 : 60 < n2 := by omega
      clear hbig
      go_enter Tryz.func7, Tryz.ntmps7
      go_wp2_with fail
      refine (works_any _).mono ?_
      rintro e w2 ⟨rfl, hb2⟩
      have H2 := Lib.hid hb2
      clear hb2
      go_wp2_with fail
      go_ret
      exact ⟨rfl, H2.out⟩
  · have hb1 : ¬ 60 < n1 := by omega
    have hb2 : ¬ 60 < n2 := by omega
    clear hbig
    go_enter Tryz.func7, Tryz.ntmps7
    go_wp2_with fail
    refine (new_any _).mono ?_
    rintro e w2 ⟨rfl, hw2⟩
    go_wp2_with fail
    have hT : Tu w w.heap.size (w.heap.size + 1) 0 [] 0 [] ((w.alloc (.cells #[.slice none 0 0, .int .u64 0] 109)).alloc (.map #[] 0)) :=
      ⟨⟨_, (new_plan w.heap.size w (Nat.le_refl _)).below ((Below.refl _ _).alloc (Nat.le_refl _) _)⟩, by have := SetAt.made (w.alloc (.cells #[.slice none 0 0, .int .u64 0] 109)); rwa [World.size_alloc] at this, ((Below.refl _ w).alloc (Nat.le_refl _) _).alloc (by simp) _, by omega⟩
    have hne : w.heap.size ≤ w.heap.size + 1 := by omega
    clear hw2
    generalize (w.alloc (.cells #[.slice none 0 0, .int .u64 0] 109)).alloc (.map #[] 0) = W0 at hT ⊢
    generalize w.heap.size + 1 = bm at hT hne ⊢
    obtain ⟨b, hb⟩ : ∃ b, b = w.heap.size := ⟨_, rfl⟩
    rw [← hb] at hT ⊢
    have T0 := Lib.hid hT
    clear hT hb hne
    obtain ⟨q, hq⟩ : ∃ q, q = u % 7 := ⟨_, rfl⟩
    have hq0 : 0 ≤ q := by omega
    have hq7 : q < 7 := by omega
    have HQ := Lib.hid hq
    clear hq
    go_loopw [35] (fun i wr => RelA w b bm q others i wr) (fun i _ => n2 - (intOf i).toNat)
    case atStart => exact ⟨0, [], by omega, rfl, T0.out, TInv.nil q, by simp, by simp⟩
    case round =>
      obtain ⟨k, xs, hk, rfl, hT, hI, h0, hln⟩ := hrel
      have TR := Lib.hid hT
      have IR := Lib.hid hI
      have ZR := Lib.hid h0
      rw [← HN2.out] at hk
      clear hT hI h0 T0
      by_cases hlt : k < n2
      · obtain ⟨g, off, rfl, hc⟩ := H2.out k (by rw [← HN2.out]; exact hlt)
        obtain ⟨x, hx⟩ : ∃ x, x = others[k]'(by rw [← HN2.out]; exact hlt) := ⟨_, rfl⟩
        rw [← hx] at hc
        have hcw := (TR.out.bel.cell (World.block_lt_of_cell? w _ hc)).trans hc
        clear hx hc
        go_wp2_with fail
        obtain ⟨v, hv⟩ := TR.out.plan
        refine (setXs_any _ _ v xs _ _ 7 false _ hv IR.out.rise).mono ?_
        rintro e w3 hd
        obtain ⟨rfl, hT3, -⟩ := TR.out.does hd
        have T3 := Lib.hid hT3
        clear hd hT3 hv
        go_wp2_with fail
        obtain ⟨v, hv⟩ := T3.out.plan
        refine (ready_any _ _ v (setXs xs x 7 false) _ _ true _ hv (IR.out.rise.set IR.out.small _ _ _)).mono ?_
        rintro e w4 hd
        obtain ⟨rfl, hT4, -⟩ := T3.out.does hd
        have T4 := Lib.hid hT4
        clear hd hT4 hv
        go_wp2_with fail
        go_roundw
        case rel =>
          obtain ⟨i1, i2⟩ := IR.out.other ZR.out (by omega) x
          exact ⟨k + 1, _, by rw [← HN2.out]; omega, by go_num, T4.out, i1, i2, by rw [upd_len]; have := set_len xs x 7 false; omega⟩
        case measure => simp [intOf]; omega
      · obtain rfl : k = n2 := by omega
        go_wp2_with fail
        go_loopw [49] (fun i wr => RelB w b bm q k ids i wr) (fun i _ => n1 - (intOf i).toNat)
        case atStart => exact ⟨0, xs, [], by omega, rfl, TR.out, IR.out, ZR.out, by omega, by simp⟩
        case round =>
          obtain ⟨j, ys, ks, hj, rfl, hT, hI, h0, hln', hks⟩ := hrel
          have TB := Lib.hid hT
          have IB := Lib.hid hI
          have ZB := Lib.hid h0
          have KB := Lib.hid hks
          rw [← HN1.out] at hj
          clear hT hI h0 hks TR IR ZR
          by_cases hlt : j < n1
          · obtain ⟨g, off, rfl, hc⟩ := H1.out j (by rw [← HN1.out]; exact hlt)
            obtain ⟨x, hx⟩ : ∃ x, x = ids[j]'(by rw [← HN1.out]; exact hlt) := ⟨_, rfl⟩
            have HX := Lib.hid hx
            rw [← hx] at hc
            have hcw := (TB.out.bel.cell (World.block_lt_of_cell? w _ hc)).trans hc
            have hwx : W64 x := HW1.out x (by rw [hx]; exact List.getElem_mem _)
            have HWX := Lib.hid hwx
            clear hx hc hwx
            go_wp2_with fail
            rw [show (u % 7 : Int) = q from HQ.out.symm]
            obtain ⟨v, hv⟩ := TB.out.plan
            refine (setXs_any _ _ v ys _ _ q true _ hv IB.out.rise).mono ?_
            rintro e w3 hd
            obtain ⟨rfl, hT3, -⟩ := TB.out.does hd
            have T3 := Lib.hid hT3
            clear hd hT3 hv
            rw [show setRes ys x q = 0 from set_ok (by omega) (by omega)]
            go_wp2_with fail
            obtain ⟨v, hv⟩ := T3.out.plan
            refine (ready_any _ _ v (setXs ys x q true) _ _ true _ hv (IB.out.rise.set IB.out.small _ _ _)).mono ?_
            rintro e w4 hd
            obtain ⟨rfl, hT4, -⟩ := T3.out.does hd
            have T4 := Lib.hid hT4
            clear hd hT4 hv
            rw [if_pos (show hasId (setXs ys x q true) x = true from (has_iff _ _).2 (set_has (by omega) (by omega)))]
            go_wp2_with (at_mapUpdate; go_must (refine wpList_set_put rfl _ _ _ rfl bm j ks x rfl T4.out.set (by omega) rfl HWX.out rfl ?_; intro w5 hs5 hg5))
            have T5 := Lib.hid (T4.out.put hs5 hg5)
            clear hs5 hg5
            go_wp2_with fail
            go_roundw
            case rel =>
              have htk : ids.take (j + 1) = ids.take j ++ [x] := by rw [take_snoc' (by rw [← HN1.out]; exact hlt), HX.out]
              obtain ⟨i1, i2⟩ := IB.out.mine hq7 ZB.out (by omega) x
              refine ⟨j + 1, _, addI ks x, by rw [← HN1.out]; omega, by go_num, T5.out, by rw [htk]; exact i1, i2, by rw [upd_len]; have := set_len ys x q true; omega, fun id => ?_⟩
              rw [mem_addI, KB.out id, htk]
              simp
            case measure => simp [intOf]; omega
          · obtain rfl : j = n1 := by omega
            have htk : ids.take j = ids := by rw [HN1.out]; exact List.take_length
            rw [htk] at IB KB
            have ht0 := IB.out
            clear htk
            obtain ⟨r11, hr11⟩ : ∃ r11, r11 = r % 11 := ⟨_, rfl⟩
            have hra : 0 ≤ r11 := by omega
            have hrb : r11 ≤ 10 := by omega
            have HR := Lib.hid hr11
            clear hr11
            have hn60 : ks.length ≤ 60 := by have := nodup_le ks ids TB.out.set.nodup (fun x hx => (KB.out x).1 hx); rw [← HN1.out] at this; omega
            obtain ⟨N, hN⟩ : ∃ N, N = ks.length := ⟨_, rfl⟩
            rw [← hN] at hn60
            have HN := Lib.hid hN
            clear hN
            go_wp2_with fail
            rw [show (r % 11 : Int) = r11 from HR.out.symm]
            go_loopw [72] (fun i wr => RelC w b bm j q r11 ids ks i wr) (fun i _ => r11.toNat - (intOf i).toNat)
            case atStart => exact ⟨0, ys, 0, by omega, rfl, TB.out, ⟨IB.out, List.nodup_nil, by simp, fun s hs _ => ⟨fun hm => (by cases hm), fun hlt => by have := ZB.out s hs; omega⟩, fun s hs => by have := ZB.out s hs; simp; omega⟩, by simp⟩
            case round =>
              obtain ⟨p, zs, c, hp, rfl, hT, hI, hc⟩ := hrel
              have TC := Lib.hid hT
              have IC := Lib.hid hI
              have HC := Lib.hid hc
              have hp60 : p * N ≤ 10 * 60 := Nat.mul_le_mul (by omega) hn60
              have hc600 : c ≤ 600 := by rw [HC.out, ← HN.out]; omega
              clear hp60
              clear hT hI hc TB IB ZB ht0
              by_cases hlt : (p : Int) < r11
              · go_wp2_with (at_len; go_must (refine wpList_set_len rfl _ rfl bm j ks rfl (TC.out.set.below ((Below.refl _ _).alloc (Nat.le_refl _) _)) ?_))
                rw [← HN.out]
                have hT : Tu w b bm j zs c ks (wr.alloc (.map #[] 0)) := TC.out.gives ((Below.refl _ _).alloc (Nat.le_refl _) _)
                have hS : SetAt (wr.alloc (.map #[] 0)) wr.heap.size 0 [] := SetAt.made wr
                have hbs : w.heap.size ≤ wr.heap.size := TC.out.bel.size
                have hbl := TC.out.set.lt
                generalize wr.alloc (.map #[] 0) = W1 at hT hS ⊢
                generalize wr.heap.size = bs at hS hbs hbl ⊢
                have T1 := Lib.hid hT
                have S1 := Lib.hid hS
                have HBS := Lib.hid hbs
                clear hT hS hbs TC
                go_loopw [77] (fun i wr => RelD w b bm bs j q c ids ks i wr) (fun i _ => N - (intOf i).toNat)
                case atStart => exact ⟨zs, [], by simp, rfl, T1.out, S1.out, IC.out⟩
                case round =>
                  obtain ⟨ys', seen, hsl, rfl, hT, hS, hI⟩ := hrel
                  have TD := Lib.hid hT
                  have SD := Lib.hid hS
                  have ID := Lib.hid hI
                  rw [← HN.out] at hsl
                  clear hT hS hI T1 S1 IC
                  by_cases hlt' : seen.length < N
                  · obtain ⟨i, hi, hb, hin, hns, hI'⟩ := ID.out.turn hq7 (by obtain ⟨y, hy1, hy2⟩ := missing (l := ks) (m := seen) TD.out.set.nodup (by rw [← HN.out]; exact hlt'); exact ⟨y, (KB.out y).1 hy1, hy2⟩)
                    have hnx : nextId ys' = .tuple #[.int .u64 ys'[i].id, .bool true] := by
                      unfold nextId
                      rw [hb, if_neg (by omega), Int.toNat_natCast, getD_at hi]
                    have hck : servedClk ys' (c + seen.length : Nat) = (c + (seen.length + 1) : Nat) := by
                      unfold servedClk
                      rw [hb, if_neg (by omega)]
                      omega
                    obtain ⟨x, hx⟩ : ∃ x, x = ys'[i].id := ⟨_, rfl⟩
                    rw [← hx] at hnx hin hns hI'
                    have HWX := Lib.hid (HW1.out x hin)
                    have HIN := Lib.hid ((KB.out x).2 hin)
                    have HNS := Lib.hid hns
                    have HI' := Lib.hid hI'
                    have HNX := Lib.hid hnx
                    have HCK := Lib.hid hck
                    clear hb hi hx hnx hck hin hns hI'
                    go_wp2_with fail
                    obtain ⟨v, hv⟩ := TD.out.plan
                    refine (serve_any _ _ v ys' _ _ hv ID.out.t.rise (by omega) (by omega)).mono ?_
                    rintro e w3 hd
                    rw [HNX.out, HCK.out] at hd
                    obtain ⟨rfl, hT3, hk3⟩ := TD.out.does hd
                    have T3 := Lib.hid hT3
                    have S3 := Lib.hid (SD.out.keeps hk3)
                    clear hd hT3 hv hk3 TD SD
                    have tok1 : True := trivial
                    have hbb : Below w3.heap.size w3 ((w3.alloc (.cells #[] 66)).alloc (.cells #[] 66)) := ((Below.refl _ _).alloc (Nat.le_refl _) _).alloc (by simp) _
                    have T4 := Lib.hid (T3.out.gives hbb)
                    have S4 := Lib.hid (S3.out.below hbb)
                    clear hbb
                    go_wp2_with (first | (at_lookup; have _t := tok1; refine wpList_set_yes rfl _ _ rfl bm j ks x rfl T3.out.set rfl HWX.out HIN.out ?_; clear tok1 _t) | (at_lookup; go_must (refine wpList_set_not rfl _ _ rfl bs seen.length seen x rfl (S3.out.below ((Below.refl _ _).alloc (Nat.le_refl _) _)) rfl HWX.out HNS.out ?_)) | (at_mapUpdate; go_must (refine wpList_set_put rfl _ _ _ rfl bs seen.length seen x rfl S4.out (by omega) rfl HWX.out rfl ?_); intro w5 hs5 hg5))
                    rw [show addI seen x = seen ++ [x] from by unfold addI; rw [if_neg HNS.out]] at hs5
                    have T5 := Lib.hid (T4.out.other S4.out hg5 HBS.out (by omega))
                    have S5 := Lib.hid hs5
                    clear hs5 hg5
                    go_wp2_with fail
                    go_roundw
                    case rel =>
                      have hsn : (seen ++ [x]).length = seen.length + 1 := by simp
                      exact ⟨_, seen ++ [x], by rw [hsn, ← HN.out]; omega, by rw [hsn]; go_num, by rw [hsn]; exact T5.out, by rw [hsn]; exact S5.out, HI'.out⟩
                    case measure => simp [intOf]; omega
                  · obtain rfl : seen.length = N := by omega
                    go_wp2_with fail
                    go_roundw
                    case rel =>
                      refine ⟨p + 1, ys', c + seen.length, by omega, by go_num, TD.out, ID.out.next, ?_⟩
                      rw [HC.out, ← HN.out, Nat.add_mul, Nat.one_mul]
                    case measure => simp [intOf]; omega
              · go_wp2_with fail
                refine (works_any _).mono ?_
                rintro e w2 ⟨rfl, hb2⟩
                have H2 := Lib.hid (TC.out.bel.trans (hb2.mono TC.out.bel.size))
                clear hb2
                go_wp2_with fail
                go_ret
                exact ⟨rfl, H2.out⟩
end Go.Proofs.YtnkbhpnflfhhnaaGreatDoor
