/- The frame word of Shared. -/
import Derived.Test.YtcoienlblhbkpaaDoorOpen
namespace Go.Proofs.YtcoienlblhbkpaaDoor
open Go.ChangeShapes Go.WideShapes Go.ChangeAt Go.RowKit

theorem cellsShared : Tryd.prog.cellsOf 24 = 2 := by kernel_rfl
set_option maxRecDepth 100000 in
theorem open_SharedA {H : Type} {enc : TypeId × Value → H} {W : World} {base : Nat} {sp : Nat → Bool} {hd : Bool} {b0 : Nat} {v : Value} {d : DataW H} {p : List MemPlace} (hv : Value.okWide Tryd.prog W .any base 24 v) (h : DataW.Trod enc Tryd.prog W b0 sp hd 24 v d p) :
    ∃ a n c xs a' n' c' ys, v = .agg #[.slice a n c, .slice a' n' c'] ∧ (n ≤ c ∧ c ≤ maxLen ∧ RI W a n xs) ∧ (n' ≤ c' ∧ c' ≤ maxLen ∧ RI W a' n' ys) := by
  obtain ⟨c0, c1, y0, y1, m, rfl, rfl, rfl, hy0, hy1⟩ := Go.Joins.open_agg2 Tryd.underlying24 (by kernel_rfl) cellsShared hv h
  obtain ⟨a, n, c, rfl⟩ := slice_shape hy0
  obtain ⟨a', n', c', rfl⟩ := slice_shape hy1
  obtain ⟨xs, h1⟩ := open_intsF hy0
  obtain ⟨ys, h2⟩ := open_intsF hy1
  exact ⟨a, n, c, xs, a', n', c', ys, rfl, h1, h2⟩

end Go.Proofs.YtcoienlblhbkpaaDoor
