import Derived.Test.YtnkbhpnflfhhnaaGreatDoorPd
namespace Go.Proofs.YtnkbhpnflfhhnaaGreatDoor
open Go.ChangeShapes Go.WideShapes Go.ChangeAt Go.RowKit

theorem size106 : (Tryz.prog.info? 106).map (·.size) = some 5 := by kernel_rfl
theorem under3 : Tryz.prog.underlying 3 = some (.int .i64) := by kernel_rfl
theorem add_lit (g off j : Nat) : (⟨g, off, none⟩ : Addr).add j = ⟨g, off + j, none⟩ := by unfold Addr.add; split <;> simp_all

theorem grown_setRow {w W : World} {g : Nat} {row : Option Nat} (h : w.grownBy W row) (hg : w.heap.size ≤ g) (cs : Array Value) : w.grownBy (W.setRow g cs) row :=
  ⟨h.os, h.tape, h.output, by simp; exact h.size, fun k hk hne => by rw [setRow_other W g k cs (by omega)]; exact h.block k hk hne⟩
theorem grown_drew {w W : World} {row : Option Nat} (h : w.grownBy W row) : w.grownBy W.drew row := ⟨h.os, h.tape, h.output, h.size, h.block⟩
theorem grown_some {w W : World} (h : w.grownBy W none) (row : Option Nat) : w.grownBy W row := ⟨h.os, h.tape, h.output, h.size, fun k hk _ => h.block k hk (by simp)⟩

set_option maxRecDepth 100000 in
theorem insert_grow (B : Nat) (w : World) (g n i : Nat) (L news : List Value) (ge : Nat) (hown : w.ownsRow B 106 5 (.slice (some ⟨g, 0, none⟩) n n) n L) (hB : B ≤ w.heap.size) (hn : n ≤ 256) (hi : i < n)
    (hg : w.heap[ge]? = some (.cells news.toArray 106 (0, 0))) (hl : news.length = 5) (h1 : ∀ u ∈ news, u.oneCell' = true) (h1L : ∀ u ∈ L, u.oneCell' = true) :
    Calls Tryz.prog 51 #[.slice (some ⟨g, 0, none⟩) n n, .int .i64 i, .slice (some ⟨ge, 0, none⟩) 1 1] w (InsertDoes B w (.slice (some ⟨g, 0, none⟩) n n) n i L news) := by
  obtain ⟨i0, hi0, hz0, hz1, hz2⟩ := info_parts info106
  have hlen := hown.1
  have hcell : ∀ j u, L[j]? = some u → w.cell? ⟨g, 0 + j, none⟩ = some u := by
    intro j u hu
    have := hown.cells (g := g) rfl j u hu
    rwa [add_lit] at this
  have hgw : g < w.heap.size := (hown.lt g rfl).2
  have HO := Lib.hid hown
  have HG := Lib.hid hg
  have HI := Lib.hid hi0
  have HZ0 := Lib.hid hz0
  have HZ1 := Lib.hid hz1
  have HZ2 := Lib.hid hz2
  have HL := Lib.hid hl
  have H1 := Lib.hid h1
  have H1L := Lib.hid h1L
  have HLEN := Lib.hid hlen
  have HC := Lib.hid hcell
  clear hi0 hz0 hz1 hz2 hg hl h1 h1L hlen hcell hown
  go_enter Tryz.func51, Tryz.ntmps51
  go_wp2_with (refine wpList_append_zeros rfl (.tmp 34) (.tmp 39) 107 3 rfl 106 i0 _ Tryz.underlying107 under3 HI.out HZ0.out ⟨g, 0, none⟩ i n rfl (L.take (i * 5)) ?c1 ?c2 ?c3 (n + 1 - i) ?c4 ?c5 ?c6 ?c7 ?c8 ?c9 ?c10 (n + 1) ?c11 ?_)
  case c1 => rw [HZ1.out, List.length_take, HLEN.out]; omega
  case c2 =>
    intro j v hv
    rw [List.getElem?_take] at hv
    split at hv
    · rw [add_lit]; exact HC.out j v hv
    · cases hv
  case c3 => rw [HZ1.out]; omega
  case c4 => show Value.int IntKind.i64 _ = Value.int IntKind.i64 _; congr 1; omega
  case c5 => omega
  case c6 => omega
  case c7 => omega
  case c8 =>
    rw [HZ2.out, show i + (n + 1 - i) = n + 1 from by omega]
    exact growslice_fits (by omega) (by omega)
  case c9 => rw [HZ2.out]; omega
  case c10 => rw [HZ1.out]; rfl
  case c11 => omega
  intro cap' Z W hc1 hc2 hZl HW HWg
  rw [HZ1.out] at hZl
  have HZl := Lib.hid hZl
  have hc2' := hc2
  unfold maxLen at hc2'
  clear hZl
  have hsrc : ∀ j u, news[j]? = some u → W.cell? ((⟨ge, 0, none⟩ : Addr).add j) = some u := by
    intro j u hu
    have hgl := lt_of_block HG.out
    have := (HWg.out.block ge hgl (by simp)).trans HG.out
    rw [add_lit]
    simp [World.cell?, this, hu]
  have HS := Lib.hid hsrc
  clear hsrc
  go_wp2_with (refine wpList_copy_cells rfl (.tmp 43) (.tmp 44) 107 107 rfl 106 5 1 Tryz.underlying107 size106 w.heap.size (i * 5) (n + 1 - i) (cap' - i) ⟨ge, 0, none⟩ 1 1 rfl rfl (L.take (i * 5) ++ Z).toArray 106 HW.out news ?d1 ?d2 HS.out ?d3 H1.out ?_)
  case d1 => show 1 = min 1 (n + 1 - i); omega
  case d2 => rw [HL.out]
  case d3 =>
    have h1 := HZl.out
    have h2 := HLEN.out
    rw [HL.out]; simp [h1, h2]; omega
  clear HS
  go_wp2_with fail
  refine region_tail 8 (by kernel_rfl) (by kernel_rfl) (fun W2 => W2.heap[w.heap.size]? = some (.cells ((L.take (i * 5) ++ Z).take (i * 5) ++ news ++ (L.take (i * 5) ++ Z).drop (i * 5 + 5)).toArray 106 (0, 0)) ∧ w.grownBy W2 none) ⟨?_, ?_⟩ ?_
  · have := setRow_heap W w.heap.size _ ((L.take (i * 5) ++ Z).take (i * 5) ++ news ++ (L.take (i * 5) ++ Z).drop (i * 5 + 5)).toArray 106 _ HW.out
    have h5 := HL.out
    simpa [World.drew, h5] using this
  · exact grown_drew (grown_setRow HWg.out (Nat.le_refl _) _)
  intro W2 hW2
  obtain ⟨hr, hgr⟩ := hW2
  have HR2 := Lib.hid hr
  have HG2 := Lib.hid hgr
  clear hr hgr HW HWg
  simp only [List.take_succ_cons, List.take_zero, List.drop_succ_cons, List.drop_zero]
  have hw1 : IntKind.i64.wrap ((i : Int) + 1) = (i : Int) + 1 := IntWalk.i64_in _ (by omega)
  have hw2 : ((i : Int) + 1).toNat = i + 1 := by omega
  have hw3 : ¬ cap' = i + 1 := by omega
  have hw4 : (0 : Int) ≤ (i : Int) + 1 := by omega
  have hw5 : (i : Int) + 1 ≤ (n : Int) + 1 := by omega
  have hw6 : (i : Int) ≤ (n : Int) := by omega
  have hw7 : ¬ n = i := by omega
  repeat still_step
  refine wpStill_nil ?_
  clear hw1 hw2 hw3 hw4 hw5 hw6 hw7
  have hsrc : ∀ j u, (L.drop (i * 5))[j]? = some u → W2.cell? ((⟨g, i * 5, none⟩ : Addr).add j) = some u := by
    intro j u hu
    rw [List.getElem?_drop] at hu
    have h0 := HC.out _ _ hu
    rw [add_lit]
    rw [Nat.zero_add] at h0
    exact (World.cell?_of_block (w := w) (HG2.out.block g hgw (by simp))).trans h0
  have HS := Lib.hid hsrc
  clear hsrc
  refine wpList_copy_cells rfl (.tmp 50) (.tmp 53) 107 107 rfl 106 5 (n - i) Tryz.underlying107 size106 w.heap.size ((i + 1) * 5) (n - i) (cap' - (i + 1)) ⟨g, i * 5, none⟩ (n - i) (n - i) rfl rfl _ 106 HR2.out (L.drop (i * 5)) ?d1 ?d2 HS.out ?d3 ?d4 ?_
  case d1 => show n - i = min (n - i) (n - i); omega
  case d2 => rw [List.length_drop, HLEN.out]; omega
  case d3 =>
    have h1 := HZl.out
    have h2 := HLEN.out
    have h3 := HL.out
    simp [h1, h2, h3]; omega
  case d4 => exact fun v hv => H1L.out v (List.mem_of_mem_drop hv)
  go_wp2_with fail
  go_ret
  have h1 := HZl.out
  have h2 := HLEN.out
  have h3 := HL.out
  refine ⟨_, rfl, ⟨?_, .inr ⟨w.heap.size, cap', _, rfl, hB, setRow_heap W2 w.heap.size _ _ 106 _ HR2.out, hc1, hc2, ?_, ?_⟩⟩, grown_some (grown_setRow HG2.out (Nat.le_refl _) _) _⟩
  · simp [h2, h3]; omega
  · simp [h1, h2, h3]; omega
  · have := ins_list L Z (((L.take (i * 5) ++ Z).take (i * 5) ++ news ++ (L.take (i * 5) ++ Z).drop (i * 5 + 5)).drop ((i + 1) * 5 + (L.drop (i * 5)).length)) news (i * 5) (by omega) h3
    rw [show (n + 1) * 5 = L.length + 5 from by rw [h2]; omega, show (i + 1) * 5 = i * 5 + 5 from by omega]
    simp only [List.append_assoc, List.length_drop, show (i + 1) * 5 = i * 5 + 5 from by omega] at this ⊢
    exact this
end Go.Proofs.YtnkbhpnflfhhnaaGreatDoor
