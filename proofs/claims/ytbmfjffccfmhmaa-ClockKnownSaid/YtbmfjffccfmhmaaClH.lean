import Derived.Test.YtbmfjffccfmhmaaClG
namespace Go.Proofs.Ytbmfjffccfmhmaa
open Go.ChangeShapes Go.WideShapes Go.ChangeAt Go.RowKit

/-- A fact kept behind a name that nothing unfolds. -/
structure Kpt (p : Prop) : Prop where
  out : p
def ptoL (s : St) : Nat → List T3
  | 0 => []
  | k + 1 => ptoL s k ++ (if (s.sp k).has = true ∧ (s.sp k).q = true then [⟨s.ptoAt k, 4, k⟩] else [])
def lastOf (s : St) : Nat → Int
  | 0 => -1
  | k + 1 => if (s.sp k).has = true then k else lastOf s k
def ptosOf (s : St) : List T3 := if (ptoL s 3 = [] ∧ s.server = false ∧ s.done = false ∧ 0 ≤ lastOf s 3) then [⟨s.ptoAt (lastOf s 3).toNat, 4, lastOf s 3⟩] else ptoL s 3
theorem ptoL_len (s : St) (k : Nat) : (ptoL s k).length ≤ k := by
  induction k with
  | zero => exact Nat.le_refl _
  | succ k ih => rw [ptoL, List.length_append]; split <;> simp <;> omega
theorem lastOf_bd (s : St) (k : Nat) : -1 ≤ lastOf s k ∧ lastOf s k < k := by
  induction k with
  | zero => simp [lastOf]
  | succ k ih => rw [lastOf]; split <;> omega
theorem ptoL_no (s : St) (k : Nat) (h : ¬ ((s.sp k).has = true ∧ (s.sp k).q = true)) : ptoL s (k + 1) = ptoL s k := by rw [ptoL, if_neg h, List.append_nil]
/-- What a call hands back: a slice of its own, of these times. -/
def TimesDoes (w : World) (l : List T3) (e : Ending) (w' : World) : Prop := ∃ v, e = .returned v ∧ w'.ownsRow w.heap.size 83 3 v l.length (flat l) ∧ Below w.heap.size w w'
theorem own_mono {w : World} {base base' : Nat} {e : TypeId} {size : Nat} {v : Value} {n : Nat} {xs : List Value} (h : w.ownsRow base e size v n xs) (hb : base' ≤ base) : w.ownsRow base' e size v n xs := by
  obtain ⟨h1, h2⟩ := h
  refine ⟨h1, ?_⟩
  rcases h2 with h2 | ⟨g, cap, cur, r1, r2, r3⟩
  · exact .inl h2
  · exact .inr ⟨g, cap, cur, r1, Nat.le_trans hb r2, r3⟩
def PtosRel (w0 : World) (base : Nat) (s : St) (q : Nat) (v m i : Value) (wr : World) : Prop :=
  ∃ k : Nat, k + q = 3 ∧ i = .int .i64 k ∧ m = .int .i64 (lastOf s k) ∧ wr.ownsRow base 83 3 v (ptoL s k).length (flat (ptoL s k)) ∧ Below base w0 wr
theorem append_time {w w3 : World} {base : Nat} {v v' : Value} {l : List T3} (t : T3) (_h : w.ownsRow base 83 3 v l.length (flat l)) (h3 : w3.ownsRow base 83 3 v' (l.length + 1) (flat l ++ t.cells)) :
    w3.ownsRow base 83 3 v' (l ++ [t]).length (flat (l ++ [t])) := by
  rw [flat_snoc, List.length_append]; exact h3
set_option maxHeartbeats 8000000 in
set_option maxRecDepth 100000 in
theorem ptos_any (C : Array Value) (s : St) (w : World) (h : StAt C s) (hL : ∀ n, n < 3 → LAt w (s.sp n).l (s.sp n).q) (hp : (s.pto : Int) < 18446744073709551616) (hla : ∀ n, n < 3 → 0 ≤ (s.sp n).la ∧ (s.sp n).la ≤ 1000000) :
    Calls Try.prog 27 #[.agg C] w (TimesDoes w (ptosOf s)) := by
  obtain ⟨i0, hi, hz0, hz1, hz2⟩ := info_parts info83
  have H := Lib.hid h
  have HL := Lib.hid hL
  have HP : Kpt _ := ⟨hp⟩
  have HLA := Lib.hid hla
  have HI := Lib.hid hi
  have HZ0 := Lib.hid hz0
  have HZ1 := Lib.hid hz1
  have HZ2 := Lib.hid hz2
  clear h hL hp hla hi hz0 hz1 hz2
  go_enter Try.func27, Try.ntmps27
  go_upto_region 3 with (with_reducible refine at_box 80 C rfl ?_)
  have C0 := Lib.hid (heap_alloc_last w (.cells C 80))
  have S0 : Hid ((w.alloc (.cells C 80)).heap.size = w.heap.size + 1) := Lib.hid (by simp)
  have L0 : Hid (∀ n, n < 3 → LAt (w.alloc (.cells C 80)) (s.sp n).l (s.sp n).q) := Lib.hid (fun n hn => (HL.out n hn).below ((Below.refl _ _).alloc (Nat.le_refl _) _))
  have B0 := Lib.hid (show Below w.heap.size w (w.alloc (.cells C 80)) from (Below.refl _ _).alloc (Nat.le_refl _) _)
  generalize w.alloc (.cells C 80) = w0 at C0 S0 L0 B0 ⊢
  obtain ⟨bs, hbs⟩ : ∃ bs, bs = w.heap.size := ⟨_, rfl⟩
  rw [← hbs] at C0 S0 ⊢
  have HBS := Lib.hid hbs
  clear hbs HL
  go_wp2_with ((with_reducible refine at_load_mid 68 bs 297 585 80 C C0.out _ U68 rfl size68 ?_ ?_ ?_); (· rw [H.out.size]; decide); (· rfl))
  go_loopg [3, 4, 10] 3 (fun q v m i wr => PtosRel w0 (bs + 1) s q v m i wr)
  case atStart => exact ⟨0, rfl, rfl, rfl, World.ownsRow_nil _ _ _ _, Below.refl _ _⟩
  case round =>
    obtain ⟨k, hk, rfl, rfl, ho, hb⟩ := hrel
    have OR := Lib.hid ho
    have BR := Lib.hid hb
    have CR := Lib.hid ((hb.block bs (by omega)).trans C0.out)
    have ZR := Lib.hid (show bs + 1 ≤ wr.heap.size by have := hb.size; have := S0.out; omega)
    clear ho hb
    by_cases hk3 : k < 3
    · go_upto_region 6 with (first
        | ((with_reducible refine at_index 68 67 3 195 (C.extract 297 (297 + 585)) k _ U68 U67 rfl size67 hk3 (spc C k) rfl ?_ ?_ ?_); (· rfl); (· rfl))
        | (with_reducible refine at_alloc 67 Z67 alloc67 ?_)
        | ((with_reducible refine at_store_new 67 Z67 (spc C k) 67 (by rw [size67, spc_size C k H.out.size hk3]) (by rw [Z67_size, spc_size C k H.out.size hk3]) (spc_ones C k H.out.ones) ?_ ?_ ?_); (· rfl); (· rfl)))
      have P1 := Lib.hid (heap_alloc_last wr (.cells (spc C k) 67))
      have O1 := Lib.hid (OR.out.alloc (.cells (spc C k) 67))
      have B1 := Lib.hid (BR.out.alloc ZR.out (.cells (spc C k) 67))
      have Z1 : Hid (wr.heap.size < (wr.alloc (.cells (spc C k) 67)).heap.size) := Lib.hid (by simp)
      have C1 := Lib.hid ((heap_alloc_old wr (.cells (spc C k) 67) (lt_of_block CR.out)).trans CR.out)
      obtain ⟨p0, p6, p8, p9, p10, p11, p12, p13⟩ := H.out.sp k hk3
      have g0 := spc_get C k 0 H.out.size hk3 (by omega)
      have g8 := spc_get C k 8 H.out.size hk3 (by omega)
      have g9 := spc_get C k 9 H.out.size hk3 (by omega)
      have g10 := spc_get C k 10 H.out.size hk3 (by omega)
      have g11 := spc_get C k 11 H.out.size hk3 (by omega)
      have g12 := spc_get C k 12 H.out.size hk3 (by omega)
      have g13 := spc_get C k 13 H.out.size hk3 (by omega)
      have Q0 := Lib.hid (g0.trans p0)
      have Q8 := Lib.hid (g8.trans p8)
      have Q9 := Lib.hid (g9.trans p9)
      have Q10 := Lib.hid (g10.trans p10)
      have Q11 := Lib.hid (g11.trans p11)
      have Q12 := Lib.hid (g12.trans p12)
      have Q13 := Lib.hid (g13.trans p13)
      clear p0 p6 p8 p9 p10 p11 p12 p13 g0 g8 g9 g10 g11 g12 g13
      generalize wr.alloc (.cells (spc C k) 67) = W at P1 O1 B1 Z1 C1 ⊢
      have q0 : W.cell? ⟨wr.heap.size, 0, none⟩ = some (.bool (s.sp k).has) := (cell_of_row _ _ _ _ _ _ P1.out).trans Q0.out
      have hll := ptoL_len s k
      by_cases hh : (s.sp k).has = true
      · rw [hh] at q0
        have HH := Lib.hid hh
        clear hh
        go_upto_region 8 with (fail)
        have q8 : W.cell? ⟨wr.heap.size, 8, none⟩ = some (s.sp k).l := (cell_of_row _ _ _ _ _ _ P1.out).trans Q8.out
        have q9 : W.cell? ⟨wr.heap.size, 9, none⟩ = some (.bool (s.sp k).sh) := (cell_of_row _ _ _ _ _ _ P1.out).trans Q9.out
        have q10 : W.cell? ⟨wr.heap.size, 10, none⟩ = some (.int .u64 (s.sp k).lg) := (cell_of_row _ _ _ _ _ _ P1.out).trans Q10.out
        have q11 : W.cell? ⟨wr.heap.size, 11, none⟩ = some (.int .u64 (s.sp k).ls) := (cell_of_row _ _ _ _ _ _ P1.out).trans Q11.out
        have q12 : W.cell? ⟨wr.heap.size, 12, none⟩ = some (.int .u64 (s.sp k).la) := (cell_of_row _ _ _ _ _ _ P1.out).trans Q12.out
        have q13 : W.cell? ⟨wr.heap.size, 13, none⟩ = some (.int .u64 (s.sp k).tp) := (cell_of_row _ _ _ _ _ _ P1.out).trans Q13.out
        go_upto_region 9 with (fail)
        have X1 := Lib.hid (heap_alloc_last W (.cells #[(s.sp k).l, .bool (s.sp k).sh, .int .u64 (s.sp k).lg, .int .u64 (s.sp k).ls, .int .u64 (s.sp k).la, .int .u64 (s.sp k).tp, .bool false, .int .u64 0, .int .u64 0, .int .u64 0, .int .u64 0] 106))
        have O2 := Lib.hid (O1.out.alloc (.cells #[(s.sp k).l, .bool (s.sp k).sh, .int .u64 (s.sp k).lg, .int .u64 (s.sp k).ls, .int .u64 (s.sp k).la, .int .u64 (s.sp k).tp, .bool false, .int .u64 0, .int .u64 0, .int .u64 0, .int .u64 0] 106))
        have B2 := Lib.hid (B1.out.alloc (by have := Z1.out; have := ZR.out; omega) (.cells #[(s.sp k).l, .bool (s.sp k).sh, .int .u64 (s.sp k).lg, .int .u64 (s.sp k).ls, .int .u64 (s.sp k).la, .int .u64 (s.sp k).tp, .bool false, .int .u64 0, .int .u64 0, .int .u64 0, .int .u64 0] 106))
        have C2 := Lib.hid ((heap_alloc_old W (.cells #[(s.sp k).l, .bool (s.sp k).sh, .int .u64 (s.sp k).lg, .int .u64 (s.sp k).ls, .int .u64 (s.sp k).la, .int .u64 (s.sp k).tp, .bool false, .int .u64 0, .int .u64 0, .int .u64 0, .int .u64 0] 106) (lt_of_block C1.out)).trans C1.out)
        have Z2 : Hid (wr.heap.size < (W.alloc (.cells #[(s.sp k).l, .bool (s.sp k).sh, .int .u64 (s.sp k).lg, .int .u64 (s.sp k).ls, .int .u64 (s.sp k).la, .int .u64 (s.sp k).tp, .bool false, .int .u64 0, .int .u64 0, .int .u64 0, .int .u64 0] 106)).heap.size) := Lib.hid (by have := Z1.out; simp; omega)
        clear q0 q8 q9 q10 q11 q12 q13
        generalize W.alloc (.cells #[(s.sp k).l, .bool (s.sp k).sh, .int .u64 (s.sp k).lg, .int .u64 (s.sp k).ls, .int .u64 (s.sp k).la, .int .u64 (s.sp k).tp, .bool false, .int .u64 0, .int .u64 0, .int .u64 0, .int .u64 0] 106) = W2 at X1 O2 B2 C2 Z2 ⊢
        have x0 : W2.cell? ⟨W.heap.size, 0, none⟩ = some (s.sp k).l := (cell_of_row _ _ _ _ _ _ X1.out).trans rfl
        have LA : Hid (LAt W2 (s.sp k).l (s.sp k).q) := Lib.hid ((L0.out k hk3).below (B2.out.mono (by have := S0.out; omega)))
        go_wp2_with fail
        refine (waits_any W.heap.size _ _ W2 x0 LA.out).mono ?_
        rintro e w3 ⟨rfl, hb3⟩
        have O3 := Lib.hid (ownsRow_blocks O2.out hb3.block)
        have B3 := Lib.hid (B2.out.trans (hb3.mono (by have := Z2.out; have := ZR.out; omega)))
        have C3 := Lib.hid ((hb3.block _ (lt_of_block C2.out)).trans C2.out)
        have Z3 : Hid (bs + 1 ≤ w3.heap.size) := Lib.hid (by have := Z2.out; have := ZR.out; have := hb3.size; omega)
        clear hb3 x0
        by_cases hq : (s.sp k).q = true
        · rw [hq]
          have HQ := Lib.hid hq
          clear hq
          have hwk : IntKind.u8.wrap (k : Int) = k := by rw [IntKind.wrap_u8]; omega
          go_upto_region 10 with (fail)
          go_wp2_with (first
            | ((with_reducible refine at_load_row 80 bs 80 C C3.out _ U80 rfl ?_ ?_ ?_); (· rw [size80, H.out.size]); (· rfl))
            | (go_at_call 32; refine (pto_any C s k _ H.out hk3 HP.out (HLA.out k hk3)).mono ?_; rintro e w4 ⟨rfl, hb4⟩; have O4 := Lib.hid (ownsRow_blocks O3.out hb4.block); have B4 := Lib.hid (B3.out.trans (hb4.mono Z3.out)); have Z4 := Lib.hid (Nat.le_trans Z3.out hb4.size); clear hb4)
            | (at_builtin; go_loud (refine wpList_append_own _ rfl _ _ 87 rfl (bs + 1) 83 i0 (.agg #[.int .u64 0, .int .u8 0, .int .u8 0]) 3 16 Try.underlying87 HI.out HZ0.out HZ1.out HZ2.out rfl (by decide) _ _ _ rfl (O4.out.alloc _) ⟨w4.heap.size, 0, none⟩ 1 1 (T3.cells ⟨s.ptoAt k, 4, k⟩) rfl rfl (news_new w4 #[.int .u64 (s.ptoAt k), .int .u8 4, .int .u8 k] 83) (by simp [T3.cells, Value.oneCell']) (by unfold maxLen; omega) (by omega) (by simp; have := Z4.out; omega) ?_); intro v' w5 hown5 hgrow _; obtain ⟨oa5, cap5, rfl⟩ := own_slice hown5; have O5 := Lib.hid (append_time _ O4.out hown5); have B5 := Lib.hid ((B4.out.alloc Z4.out (.cells #[.int .u64 (s.ptoAt k), .int .u8 4, .int .u8 k] 83)).grown hgrow (by simp; have := Z4.out; omega) (fun j e => by have := (O4.out.lt j e).1; omega)); clear hown5 hgrow))
          go_roundg (gk - 1)
          case measure => omega
          case rel =>
            refine ⟨k + 1, by omega, by go_num, by rw [lastOf, if_pos HH.out], ?_, B5.out⟩
            rw [ptoL, if_pos ⟨HH.out, HQ.out⟩]
            exact O5.out
        · rw [show (s.sp k).q = false by simpa using hq]
          have HQ := Lib.hid hq
          clear hq
          go_wp2_with fail
          go_roundg (gk - 1)
          case measure => omega
          case rel => exact ⟨k + 1, by omega, by go_num, by rw [lastOf, if_pos HH.out], by rw [ptoL_no s k (fun h => HQ.out h.2)]; exact O3.out, B3.out⟩
      · rw [show (s.sp k).has = false by simpa using hh] at q0
        have HH := Lib.hid hh
        clear hh
        go_wp2_with fail
        go_roundg (gk - 1)
        case measure => omega
        case rel => exact ⟨k + 1, by omega, by go_num, by rw [lastOf, if_neg HH.out], by rw [ptoL_no s k (fun h => HH.out h.1)]; exact O1.out, B1.out⟩
    · obtain rfl : k = 3 := by omega
      go_upto_region 12 with (fail)
      have c0 : wr.cell? ⟨bs, 0, none⟩ = some (.bool s.server) := (cell_of_row _ _ _ _ _ _ CR.out).trans H.out.c0
      have c1 : wr.cell? ⟨bs, 998, none⟩ = some (.bool s.done) := (cell_of_row _ _ _ _ _ _ CR.out).trans H.out.d
      obtain ⟨oa, cap, hv⟩ := own_slice OR.out
      subst hv
      by_cases hne : ptoL s 3 = []
      · have hlen : (ptoL s 3).length = 0 := by rw [hne]; rfl
        have HN := Lib.hid hne
        have OW := OR
        rw [hne] at OR
        simp only [List.length_nil, hlen] at OR ⊢
        clear hne hlen
        cases hs : s.server
        · rw [hs] at c0
          have HS := Lib.hid hs
          cases hd : s.done
          · rw [hd] at c1
            have HD := Lib.hid hd
            clear hs hd
            have hlb := lastOf_bd s 3
            by_cases hl : 0 ≤ lastOf s 3
            · have HLL := Lib.hid hl
              obtain ⟨n, hn⟩ : ∃ n : Nat, lastOf s 3 = n := ⟨(lastOf s 3).toNat, by omega⟩
              rw [hn] at hlb ⊢
              have HNN := Lib.hid hn
              have hn3 : n < 3 := by omega
              clear hn hl hlb
              have hwk : IntKind.u8.wrap (n : Int) = n := by rw [IntKind.wrap_u8]; omega
              go_upto_region 13 with (fail)
              go_upto_region 14 with (first
                | ((with_reducible refine at_load_row 80 bs 80 C CR.out _ U80 rfl ?_ ?_ ?_); (· rw [size80, H.out.size]); (· rfl))
                | (go_at_call 32; refine (pto_any C s n _ H.out hn3 HP.out (HLA.out n hn3)).mono ?_; rintro e w4 ⟨rfl, hb4⟩; have O4 := Lib.hid (ownsRow_blocks OR.out hb4.block); have B4 := Lib.hid (BR.out.trans (hb4.mono ZR.out)); have Z4 := Lib.hid (Nat.le_trans ZR.out hb4.size); clear hb4)
                | (at_builtin; go_loud (refine wpList_append_own _ rfl _ _ 87 rfl (bs + 1) 83 i0 (.agg #[.int .u64 0, .int .u8 0, .int .u8 0]) 3 16 Try.underlying87 HI.out HZ0.out HZ1.out HZ2.out rfl (by decide) _ _ _ rfl (O4.out.alloc _) ⟨w4.heap.size, 0, none⟩ 1 1 (T3.cells ⟨s.ptoAt n, 4, n⟩) rfl rfl (news_new w4 #[.int .u64 (s.ptoAt n), .int .u8 4, .int .u8 n] 83) (by simp [T3.cells, Value.oneCell']) (by unfold maxLen; omega) (by omega) (by simp; have := Z4.out; omega) ?_); intro v' w5 hown5 hgrow _; obtain ⟨oa5, cap5, rfl⟩ := own_slice hown5; have O5 := Lib.hid (append_time (l := []) _ O4.out hown5); have B5 := Lib.hid ((B4.out.alloc Z4.out (.cells #[.int .u64 (s.ptoAt n), .int .u8 4, .int .u8 n] 83)).grown hgrow (by simp; have := Z4.out; omega) (fun j e => by have := (O4.out.lt j e).1; omega)); clear hown5 hgrow))
              go_wp2_with fail
              go_ret
              refine ⟨_, rfl, ?_, B0.out.trans (B5.out.mono (by have := HBS.out; omega))⟩
              rw [ptosOf, if_pos ⟨HN.out, HS.out, HD.out, HLL.out⟩, HNN.out, Int.toNat_natCast]
              exact own_mono O5.out (by have := HBS.out; omega)
            · have HLL := Lib.hid hl
              have hl2 : lastOf s 3 < 0 := by omega
              clear hl
              go_wp2_with fail
              go_ret
              rw [ptosOf, if_neg (fun h => by have := HLL.out; omega), HN.out]
              exact ⟨_, rfl, own_mono OR.out (by have := HBS.out; omega), B0.out.trans (BR.out.mono (by have := HBS.out; omega))⟩
          · rw [hd] at c1
            have HD := Lib.hid hd
            clear hs hd
            go_wp2_with fail
            go_ret
            rw [ptosOf, if_neg (fun h => by rw [HD.out] at h; simp at h), HN.out]
            exact ⟨_, rfl, own_mono OR.out (by have := HBS.out; omega), B0.out.trans (BR.out.mono (by have := HBS.out; omega))⟩
        · rw [hs] at c0
          have HS := Lib.hid hs
          clear hs
          go_wp2_with fail
          go_ret
          rw [ptosOf, if_neg (fun h => by rw [HS.out] at h; simp at h), HN.out]
          exact ⟨_, rfl, own_mono OR.out (by have := HBS.out; omega), B0.out.trans (BR.out.mono (by have := HBS.out; omega))⟩
      · have HN := Lib.hid hne
        have OW := OR
        have hlb : (((ptoL s 3).length : Int) == 0) = false := by
          have : (ptoL s 3).length ≠ 0 := fun h => hne (List.length_eq_zero_iff.1 h)
          simpa using this
        clear hne
        go_wp2_with fail
        go_ret
        rw [ptosOf, if_neg (fun h => HN.out h.1)]
        exact ⟨_, rfl, own_mono OW.out (by have := HBS.out; omega), B0.out.trans (BR.out.mono (by have := HBS.out; omega))⟩
end Go.Proofs.Ytbmfjffccfmhmaa
