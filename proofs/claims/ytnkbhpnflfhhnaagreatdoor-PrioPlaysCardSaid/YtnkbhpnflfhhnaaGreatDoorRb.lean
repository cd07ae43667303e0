import Derived.Test.YtnkbhpnflfhhnaaGreatDoorRa
namespace Go.Proofs.YtnkbhpnflfhhnaaGreatDoor
open Go.ChangeShapes Go.WideShapes Go.ChangeAt Go.RowKit

/-- The slice at oa reads as the document's streams r. -/
def RefRow (w : World) (oa : Option Addr) (xs : List St) : Prop :=
  ∀ (i : Nat) (h : i < xs.length), ∃ g off, oa = some ⟨g, off, none⟩ ∧ w.cell? ⟨g, off + i * 5, none⟩ = some (.int .u64 xs[i].id) ∧ w.cell? ⟨g, off + i * 5 + 1, none⟩ = some (.int .u8 xs[i].urg) ∧
    w.cell? ⟨g, off + i * 5 + 2, none⟩ = some (.bool xs[i].inc) ∧ w.cell? ⟨g, off + i * 5 + 3, none⟩ = some (.bool xs[i].rdy) ∧ w.cell? ⟨g, off + i * 5 + 4, none⟩ = some (.int .i64 xs[i].srv)

theorem RefRow.below {w w' : World} {oa : Option Addr} {xs : List St} (h : RefRow w oa xs) (hb : Below w.heap.size w w') : RefRow w' oa xs := by
  intro i hi
  obtain ⟨g, off, h0, h1, h2, h3, h4, h5⟩ := h i hi
  have hlt : g < w.heap.size := World.block_lt_of_cell? w _ h1
  exact ⟨g, off, h0, (hb.cell hlt).trans h1, (hb.cell hlt).trans h2, (hb.cell hlt).trans h3, (hb.cell hlt).trans h4, (hb.cell hlt).trans h5⟩

end Go.Proofs.YtnkbhpnflfhhnaaGreatDoor
