/- Six cells of one block are stored. No condition. -/
import Derived.Test.YthfoaehjnoiniaaBase
namespace Go.Proofs.Ythfoaehjnoiniaa
open Go.RowKit
/-- Six cells are stored. -/
abbrev sets6 (w : World) (g : Nat) (x0 x1 x2 x3 x4 x5 : Value) : World := (((((w.setCell ⟨g, 0, none⟩ x0).setCell ⟨g, 1, none⟩ x1).setCell ⟨g, 2, none⟩ x2).setCell ⟨g, 3, none⟩ x3).setCell ⟨g, 4, none⟩ x4).setCell ⟨g, 5, none⟩ x5
theorem sets6_keep (w : World) (g : Nat) (x0 x1 x2 x3 x4 x5 : Value) {b : Nat} (h : b ≠ g) : (sets6 w g x0 x1 x2 x3 x4 x5).heap[b]? = w.heap[b]? := by
  unfold sets6
  rw [Below.heap_setCell _ _ _ _ h, Below.heap_setCell _ _ _ _ h, Below.heap_setCell _ _ _ _ h, Below.heap_setCell _ _ _ _ h, Below.heap_setCell _ _ _ _ h, Below.heap_setCell _ _ _ _ h]
theorem sets6_size (w : World) (g : Nat) (x0 x1 x2 x3 x4 x5 : Value) : (sets6 w g x0 x1 x2 x3 x4 x5).heap.size = w.heap.size := by simp [sets6, World.setCell]
theorem sets6_below {B : Nat} {w w4 : World} (h : Below B w w4) {g : Nat} (hg : B ≤ g) (x0 x1 x2 x3 x4 x5 : Value) : Below B w (sets6 w4 g x0 x1 x2 x3 x4 x5) :=
  (((((h.setCell hg (p := ⟨g, 0, none⟩) x0).setCell hg (p := ⟨g, 1, none⟩) x1).setCell hg (p := ⟨g, 2, none⟩) x2).setCell hg (p := ⟨g, 3, none⟩) x3).setCell hg (p := ⟨g, 4, none⟩) x4).setCell hg (p := ⟨g, 5, none⟩) x5
end Go.Proofs.Ythfoaehjnoiniaa
