import Derived.Test.YtnkbhpnflfhhnaaGreatDoorPe
namespace Go.Proofs.YtnkbhpnflfhhnaaGreatDoor
open Go.ChangeShapes Go.WideShapes Go.ChangeAt Go.RowKit

theorem ins_list2 {α : Type} (C L news : List α) (k n5 : Nat) (hC : C.take n5 = L) (hn : L.length = n5) (hk : k ≤ n5) (h5 : news.length = 5) (hroom : n5 + 5 ≤ C.length) :
    let C1 := C.take (k + 5) ++ L.drop k ++ C.drop (k + 5 + (L.drop k).length)
    (C1.take k ++ news ++ C1.drop (k + 5)).take (n5 + 5) = L.take k ++ news ++ L.drop k := by
  intro C1
  have e1 : C1.take k = L.take k := by
    show (C.take (k + 5) ++ L.drop k ++ C.drop (k + 5 + (L.drop k).length)).take k = _
    rw [List.append_assoc, List.take_append_of_le_length (by simp; omega), List.take_take, show min k (k + 5) = k from by omega, ← hC, List.take_take, show min k n5 = k from by omega]
  have e2 : C1.drop (k + 5) = L.drop k ++ C.drop (k + 5 + (L.drop k).length) := by
    show (C.take (k + 5) ++ L.drop k ++ C.drop (k + 5 + (L.drop k).length)).drop (k + 5) = _
    rw [List.append_assoc, List.drop_append_of_le_length (by simp; omega), List.drop_of_length_le (by simp; omega), List.nil_append]
  rw [e1, e2, ← List.append_assoc, List.take_append_of_le_length (by simp; omega), List.take_of_length_le (by simp; omega)]

theorem z106 : ∀ w, (Go.sizeOf 106).run Tryz.prog w = .ok 5 w := by intro w; kernel_rfl

set_option maxRecDepth 100000 in
theorem insert_room (B : Nat) (w : World) (g n cap i : Nat) (L news : List Value) (ge : Nat) (hown : w.ownsRow B 106 5 (.slice (some ⟨g, 0, none⟩) n cap) n L) (hn : n ≤ 256) (hi : i < n) (hcap : n < cap)
    (hg : w.heap[ge]? = some (.cells news.toArray 106 (0, 0))) (hge : ge ≠ g) (hl : news.length = 5) (h1 : ∀ u ∈ news, u.oneCell' = true) (h1L : ∀ u ∈ L, u.oneCell' = true) :
    Calls Tryz.prog 51 #[.slice (some ⟨g, 0, none⟩) n cap, .int .i64 i, .slice (some ⟨ge, 0, none⟩) 1 1] w (InsertDoes B w (.slice (some ⟨g, 0, none⟩) n cap) n i L news) := by
  have hlen := hown.1
  rcases hown.2 with ⟨h, -⟩ | ⟨g', cap', cur, h, hbg, hgg, hnc, hcm, hcs, htake⟩
  · cases h
  simp only [Value.slice.injEq, Option.some.injEq, Addr.mk.injEq, and_true, true_and] at h
  obtain ⟨rfl, rfl⟩ := h
  have hcm' := hcm
  unfold maxLen at hcm'
  have hov : ∀ lb cb, (callFunc 89 #[.slice (some ⟨ge, 0, none⟩) 1 1, .slice (some ⟨g, (i + 1) * 5, none⟩) lb cb]).run Tryz.prog w = .ok (.value (.bool false)) w := fun lb cb => by
    rw [run_callFunc_extern Tryz.func89 (by kernel_rfl) (by kernel_rfl) (by kernel_rfl) (e := Extern.SlicesOverlaps.overlaps #[107, 107] #[4]) (by kernel_rfl),
      Lib.run_overlaps_apart w 107 4 106 Tryz.underlying107 5 z106 ⟨ge, 0, none⟩ ⟨g, (i + 1) * 5, none⟩ 1 1 lb cb hge 106 106 5 (cap * 5) (by simp [World.shape?, hg, hl]) (by simp [World.shape?, hgg, hcs]) (by omega) (by simp [World.frozen?, hg]) (by simp [World.frozen?, hg])]
    rfl
  have HG := Lib.hid hg
  have HGG := Lib.hid hgg
  have HL := Lib.hid hl
  have H1 := Lib.hid h1
  have H1L := Lib.hid h1L
  have HLEN := Lib.hid hlen
  have HCS := Lib.hid hcs
  have HTAKE := Lib.hid htake
  clear hg hgg hl h1 h1L hlen hcs htake hown
  go_enter Tryz.func51, Tryz.ntmps51
  go_wp2_with fail
  clear hov
  refine region_tail 8 (by kernel_rfl) (by kernel_rfl) (fun W => W.heap[g]? = some (.cells cur 106 (0, 0)) ∧ W.heap[ge]? = some (.cells news.toArray 106 (0, 0)) ∧ w.grownBy W (some g)) ⟨HGG.out, HG.out, ⟨rfl, rfl, rfl, Nat.le_refl _, fun _ _ _ => rfl⟩⟩ ?_
  intro W hW
  obtain ⟨hr, hge2, hgr⟩ := hW
  have HR2 := Lib.hid hr
  have HGE := Lib.hid hge2
  have HGR := Lib.hid hgr
  clear hr hgr hge2 HGG HG
  simp only [List.take_succ_cons, List.take_zero, List.drop_succ_cons, List.drop_zero]
  have hw1 : IntKind.i64.wrap ((i : Int) + 1) = (i : Int) + 1 := IntWalk.i64_in _ (by omega)
  have hw2 : ((i : Int) + 1).toNat = i + 1 := by omega
  have hw3 : ¬ cap = i + 1 := by omega
  have hw4 : (0 : Int) ≤ (i : Int) + 1 := by omega
  have hw5 : (i : Int) + 1 ≤ (n : Int) + 1 := by omega
  have hw6 : (i : Int) ≤ (n : Int) + 1 := by omega
  have hw7 : ¬ cap = i := by omega
  repeat still_step
  refine wpStill_nil ?_
  clear hw1 hw2 hw3 hw4 hw5 hw6 hw7
  have hsrc : ∀ j u, (L.drop (i * 5))[j]? = some u → W.cell? ((⟨g, i * 5, none⟩ : Addr).add j) = some u := by
    intro j u hu
    rw [List.getElem?_drop, ← HTAKE.out, List.getElem?_take] at hu
    split at hu
    · rw [add_lit]
      simp only [World.cell?, HR2.out]
      simpa using hu
    · cases hu
  have HS := Lib.hid hsrc
  clear hsrc
  refine wpList_copy_cells rfl (.tmp 73) (.tmp 76) 107 107 rfl 106 5 (n - i) Tryz.underlying107 size106 g ((i + 1) * 5) (n - i) (cap - (i + 1)) ⟨g, i * 5, none⟩ (n + 1 - i) (cap - i) rfl rfl cur 106 HR2.out (L.drop (i * 5)) ?d1 ?d2 HS.out ?d3 ?d4 ?_
  case d1 => show n - i = min (n + 1 - i) (n - i); omega
  case d2 => rw [List.length_drop, HLEN.out]; omega
  case d3 =>
    have h2 := HLEN.out
    have h3 := HCS.out
    simp [h2, h3]; omega
  case d4 => exact fun v hv => H1L.out v (List.mem_of_mem_drop hv)
  obtain ⟨C1, hC1⟩ : ∃ C1, C1 = cur.toList.take ((i + 1) * 5) ++ L.drop (i * 5) ++ cur.toList.drop ((i + 1) * 5 + (L.drop (i * 5)).length) := ⟨_, rfl⟩
  rw [← hC1]
  have hr2 := setRow_heap W g _ C1.toArray 106 _ HR2.out
  have hge3 := (setRow_other W g ge C1.toArray hge).trans HGE.out
  have hgr2 : w.grownBy (W.setRow g C1.toArray) (some g) := ⟨HGR.out.os, HGR.out.tape, HGR.out.output, by simp; exact HGR.out.size, fun k hk hne => by rw [setRow_other W g k _ (fun e => hne (by rw [e]))]; exact HGR.out.block k hk hne⟩
  obtain ⟨W2, hW2⟩ : ∃ W2, W2 = W.setRow g C1.toArray := ⟨_, rfl⟩
  rw [← hW2] at hr2 hge3 hgr2 ⊢
  have HRB := Lib.hid hr2
  have HGE3 : Hid (∀ j u, news[j]? = some u → W2.cell? ((⟨ge, 0, none⟩ : Addr).add j) = some u) := Lib.hid (by
    intro j u hu
    rw [add_lit]
    simp [World.cell?, hge3, hu])
  have HGR2 := Lib.hid hgr2
  have HC1 := Lib.hid hC1
  clear hW2 hr2 hge3 hgr2 hC1 HS HR2 HGE HGR
  have hC1l : C1.length = cap * 5 := by
    have h2 := HLEN.out
    have h3 := HCS.out
    rw [HC1.out]; simp [h2, h3]; omega
  have HC1L := Lib.hid hC1l
  clear hC1l
  go_wp2_with (refine wpList_copy_cells rfl (.tmp 80) (.tmp 81) 107 107 rfl 106 5 1 Tryz.underlying107 size106 g (i * 5) (n + 1 - i) (cap - i) ⟨ge, 0, none⟩ 1 1 rfl rfl C1.toArray 106 HRB.out news ?e1 ?e2 HGE3.out ?e3 H1.out ?_)
  case e1 => show 1 = min 1 (n + 1 - i); omega
  case e2 => rw [HL.out]
  case e3 =>
    have h1 := HC1L.out
    rw [HL.out]; simp [h1]; omega
  go_wp2_with fail
  go_ret
  have h1 := HC1L.out
  have h2 := HLEN.out
  have h3 := HL.out
  have hfin := ins_list2 cur.toList L news (i * 5) (n * 5) HTAKE.out h2 (by omega) h3 (by simp [HCS.out]; omega)
  rw [show i * 5 + 5 = (i + 1) * 5 from by omega] at hfin
  rw [show (i + 1) * 5 = i * 5 + 5 from by omega] at hfin
  refine ⟨_, rfl, ⟨?_, .inr ⟨g, cap, _, rfl, hbg, setRow_heap W2 g _ _ 106 _ HRB.out, by omega, hcm, ?_, ?_⟩⟩, ?_⟩
  · simp [h2, h3]; omega
  · simp [h1, h3]; omega
  · rw [show (n + 1) * 5 = n * 5 + 5 from by omega]
    have hC := HC1.out
    rw [show (i + 1) * 5 = i * 5 + 5 from by omega] at hC
    simp only [← hC] at hfin
    simp only [h3]
    simp only [List.append_assoc] at hfin ⊢
    exact hfin
  · exact ⟨HGR2.out.os, HGR2.out.tape, HGR2.out.output, by simp; exact HGR2.out.size, fun k hk hne => by rw [setRow_other W2 g k _ (fun e => hne (by rw [e]; rfl))]; exact HGR2.out.block k hk hne⟩
end Go.Proofs.YtnkbhpnflfhhnaaGreatDoor
