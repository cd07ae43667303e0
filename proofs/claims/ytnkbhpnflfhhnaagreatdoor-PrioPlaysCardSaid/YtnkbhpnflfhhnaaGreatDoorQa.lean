import Derived.Test.YtnkbhpnflfhhnaaGreatDoorPn
import Derived.Test.YtnkbhpnflfhhnaaGreatDoorShelf
import Derived.Maps.AppendAt
import Derived.RangeFuncBox
namespace Go.Proofs.YtnkbhpnflfhhnaaGreatDoor
open Go.ChangeShapes Go.WideShapes Go.ChangeAt Go.RowKit

theorem info9 : (Tryz.prog.info? 9).map (fun i => (i.zero, i.size, i.bytes)) = some (some (.string ⟨#[]⟩), 1, 16) := by kernel_rfl

theorem itoa5 : (⟨(Lib.decDigits 5).toArray⟩ : ByteArray) = ⟨#[53]⟩ := by simp [Lib.decDigits]
theorem join2 : (⟨(Lib.join ([(⟨#[117, 61, 53]⟩ : ByteArray), ⟨#[105]⟩].map (·.data.toList)) [44, 32]).toArray⟩ : ByteArray) = ⟨#[117, 61, 53, 44, 32, 105]⟩ := by rfl

theorem print_more (p : Int) (i : Bool) (hp : 7 < p) (w : World) : Calls Tryz.prog 15 #[.agg #[.int .u8 p, .bool i]] w (Gives w (.tuple #[.string ⟨#[]⟩, .int .i64 2])) := by
  go_enter Tryz.func15, Tryz.ntmps15
  go_wp2
  go_ret2
  exact ⟨rfl, (Below.refl _ _).alloc (Nat.le_refl _) _⟩

theorem print_usual (w : World) : Calls Tryz.prog 15 #[.agg #[.int .u8 3, .bool false]] w (Gives w (.tuple #[.string ⟨#[]⟩, .int .i64 0])) := by
  have hb : Below w.heap.size w (w.alloc (.cells #[.int .u8 3, .bool false] 42)) := (Below.refl _ _).alloc (Nat.le_refl _) _
  have HB := Lib.hid hb
  clear hb
  go_enter Tryz.func15, Tryz.ntmps15
  go_wp2_with fail
  refine (Tryz.strings_Join_none none 0 _ _).mono ?_
  rintro e w1 ⟨rfl, rfl⟩
  go_wp2_with fail
  go_ret2
  exact ⟨rfl, HB.out⟩

theorem cell_one_at (w : World) (x : Value) (t : TypeId) (b : Nat) (hb : b = w.heap.size) : ∀ j u, [x][j]? = some u → (w.alloc (.cells #[x] t)).cell? ((⟨b, 0, none⟩ : Addr).add j) = some u := by
  subst hb
  exact cell_one_new w x t

theorem cat_five : (({ data := #[117, 61] } : ByteArray) ++ { data := #[53] }) = ⟨#[117, 61, 53]⟩ := ByteArray.ext (by simp [ByteArray.data_append])

theorem strs_cells {w : World} {base g n cap : Nat} {ss : List ByteArray} (h : w.ownsRow base 9 1 (.slice (some ⟨g, 0, none⟩) n cap) n (ss.map .string)) (hn : ss.length = n) :
    g < w.heap.size ∧ base ≤ g ∧ n ≤ cap ∧ ∀ (j : Nat) x, ss[j]? = some x → w.cell? ⟨g, 0 + j, none⟩ = some (.string x) := by
  rcases h.2 with ⟨h', _⟩ | ⟨g', cap', cur, h', hbg, hgg, hnc, hcm, hcs, htake⟩
  · simp at h'
  · simp only [Value.slice.injEq, Option.some.injEq, Addr.mk.injEq, true_and, and_true] at h'
    obtain ⟨rfl, rfl⟩ := h'
    refine ⟨lt_of_block hgg, hbg, hnc, fun j x hx => ?_⟩
    have hj : j < ss.length := (List.getElem?_eq_some_iff.1 hx).1
    have : (ss.map Value.string)[j]? = some (.string x) := by rw [List.getElem?_map, hx]; rfl
    rw [← htake, List.getElem?_take_of_lt (by omega)] at this
    simp only [World.cell?, hgg, Nat.zero_add]
    simpa using this

theorem size_str (l : List UInt8) : (⟨l.toArray⟩ : ByteArray).size = l.length := rfl

set_option maxRecDepth 100000 in
theorem print_five (w : World) : Calls Tryz.prog 15 #[.agg #[.int .u8 5, .bool true]] w (Gives w (.tuple #[.string ⟨#[117, 61, 53, 44, 32, 105]⟩, .int .i64 0])) := by
  have hb : Below w.heap.size w (w.alloc (.cells #[.int .u8 5, .bool true] 42)) := (Below.refl _ _).alloc (Nat.le_refl _) _
  have HB := Lib.hid hb
  clear hb
  obtain ⟨i0, hi, hz0, hz1, hz2⟩ := info_parts info9
  have HI := Lib.hid hi
  have HZ0 := Lib.hid hz0
  have HZ1 := Lib.hid hz1
  have HZ2 := Lib.hid hz2
  clear hi hz0 hz1 hz2
  go_enter Tryz.func15, Tryz.ntmps15
  go_wp2_with fail
  refine (Tryz.strconv_Itoa_small 5 (by decide) _).mono ?_
  rintro e w1 ⟨rfl, rfl⟩
  rw [itoa5]
  go_wp2_with (at_builtin; refine wpList_append_own _ rfl _ _ 69 rfl w.heap.size 9 i0 _ 1 16 Tryz.underlying69 HI.out HZ0.out HZ1.out HZ2.out rfl (by decide) (.slice none 0 0) 0 [] rfl (World.ownsRow_nil _ _ _ _) ⟨_, 0, none⟩ 1 1 [.string ({ data := #[117, 61] } ++ { data := #[53] })] rfl rfl (cell_one_at _ _ _ _ (by simp)) (by simp [Value.oneCell']) ?c1 ?c2 ?c3 ?_)
  case c1 => unfold maxLen; omega
  case c2 => omega
  case c3 => simp; omega
  intro v1 w1 hown1 hgr1 _
  obtain ⟨g, cap, rfl⟩ := ownsRow_succ hown1
  have hsz : w.heap.size + 2 ≤ w1.heap.size := Nat.le_trans (by simp) hgr1.size
  have hb1 : Below w.heap.size w w1 := (HB.out.alloc (by simp) _).trans ((Keeps.of_none hgr1).below (B := w.heap.size) (by simp; omega))
  have hblk : w1.heap[w.heap.size]? = some (.cells #[.int .u8 5, .bool true] 42 (0, 0)) := by
    rw [hgr1.block w.heap.size (by simp; omega) (by simp [Value.ownBlock])]
    rw [Below.heap_alloc _ _ _ (by simp)]
    exact World.alloc_heap_new w _
  have c1 : w1.cell? ⟨w.heap.size, 1, none⟩ = some (.bool true) := by simp [World.cell?, hblk]
  have HO1 := Lib.hid hown1
  have HB1 := Lib.hid hb1
  have HBLK := Lib.hid hblk
  have HS := Lib.hid hsz
  clear hown1 hgr1 hb1 hblk hsz
  go_wp2_with (at_builtin; refine wpList_append_own _ rfl _ _ 69 rfl w.heap.size 9 i0 _ 1 16 Tryz.underlying69 HI.out HZ0.out HZ1.out HZ2.out rfl (by decide) (.slice (some ⟨g, 0, none⟩) 1 cap) 1 _ rfl (HO1.out.alloc _) ⟨_, 0, none⟩ 1 1 [.string { data := #[105] }] rfl rfl (cell_one_at _ _ _ _ rfl) (by simp [Value.oneCell']) ?c1 ?c2 ?c3 ?_)
  case c1 => unfold maxLen; omega
  case c2 => omega
  case c3 => have := HS.out; simp; omega
  intro v2 w2 hown2 hgr2 _
  obtain ⟨g2, cap2, rfl⟩ := ownsRow_succ (k := 1) hown2
  rw [cat_five] at hown2
  obtain ⟨hg2, hbg2, hnc2, hcells⟩ := strs_cells (ss := [⟨#[117, 61, 53]⟩, ⟨#[105]⟩]) hown2 rfl
  have hb2 : Below w.heap.size w w2 := HB1.out.trans (((Below.refl _ w1).alloc (by have := HS.out; omega) _).trans (by
    have hgw := (strs_cells (ss := [_]) HO1.out rfl).2.1
    exact (Below.refl _ _).grown hgr2 (by have := HS.out; simp; omega) (fun k e => by cases e; exact hgw)))
  have HB2 := Lib.hid hb2
  clear hown2 hgr2 hb2 HO1 HB1 HBLK c1
  go_wp2_with fail
  refine (Tryz.strings_Join g2 0 cap2 [⟨#[117, 61, 53]⟩, ⟨#[105]⟩] ⟨#[44, 32]⟩ _ hcells hg2 (by decide) hnc2 (by decide)).mono ?_
  rintro e w3 ⟨rfl, hb3⟩
  have HB3 := Lib.hid (HB2.out.trans (hb3.mono HB2.out.size))
  clear hb3 hcells
  go_wp2_with fail
  go_ret2
  exact ⟨rfl, HB3.out⟩
end Go.Proofs.YtnkbhpnflfhhnaaGreatDoor
