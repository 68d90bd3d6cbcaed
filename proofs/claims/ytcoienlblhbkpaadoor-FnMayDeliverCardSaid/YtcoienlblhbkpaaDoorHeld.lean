/- What is held of a box while calls go by. -/
import Derived.Test.YtcoienlblhbkpaaDoorLib2
import Derived.Deep.RegionHeld3
namespace Go.Proofs.YtcoienlblhbkpaaDoor
open Go.RowKit

theorem Blk.held2 {w W : World} {g : Nat} {t : TypeId} {a b : Value} (K : Blk w g t #[a, b]) (h : Below w.heap.size w W) : W.cell? ⟨g, 0, none⟩ = some a ∧ W.cell? ⟨g, 1, none⟩ = some b :=
  ⟨(h.cell (p := ⟨g, 0, none⟩) K.lt).trans (K.cell 0), (h.cell (p := ⟨g, 1, none⟩) K.lt).trans (K.cell 1)⟩
theorem Blk.held3 {w W : World} {g : Nat} {t : TypeId} {a b c : Value} (K : Blk w g t #[a, b, c]) (h : Below w.heap.size w W) : W.cell? ⟨g, 0, none⟩ = some a ∧ W.cell? ⟨g, 1, none⟩ = some b ∧ W.cell? ⟨g, 2, none⟩ = some c :=
  ⟨(h.cell (p := ⟨g, 0, none⟩) K.lt).trans (K.cell 0), (h.cell (p := ⟨g, 1, none⟩) K.lt).trans (K.cell 1), (h.cell (p := ⟨g, 2, none⟩) K.lt).trans (K.cell 2)⟩
theorem SI.nilV (w : World) : SI w (.slice none 0 0) 0 [] := ⟨none, 0, rfl, Nat.le_refl _, by omega, RI.nil⟩
theorem same2 (xs ys : List Int) : (decide (xs = xs) && decide (ys = ys)) = true := by simp

end Go.Proofs.YtcoienlblhbkpaaDoor
