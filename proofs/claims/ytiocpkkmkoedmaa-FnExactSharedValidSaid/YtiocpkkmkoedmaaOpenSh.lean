/- The frame word of Shared. -/
import Derived.Test.YtiocpkkmkoedmaaOpen
namespace Go.Proofs.Ytiocpkkmkoedmaa
open Go.ChangeShapes Go.WideShapes Go.ChangeAt Go.RowKit

theorem cellsShared : Try.prog.cellsOf 35 = 2 := by kernel_rfl
theorem open_SharedA {H : Type} {enc : TypeId × Value → H} {W : World} {base : Nat} {sp : Nat → Bool} {hd : Bool} {b0 : Nat} {v : Value} {d : DataW H} {p : List MemPlace} (hv : Value.okWide Try.prog W .any base 35 v) (h : DataW.Trod enc Try.prog W b0 sp hd 35 v d p) :
    ∃ a n c xs a' n' c' ys, v = .agg #[.slice a n c, .slice a' n' c'] ∧ (n ≤ c ∧ c ≤ maxLen ∧ RI W a n xs) ∧ (n' ≤ c' ∧ c' ≤ maxLen ∧ RI W a' n' ys) := by
  obtain ⟨c0, c1, y0, y1, m, rfl, rfl, rfl, hy0, hy1⟩ := Go.Joins.open_agg2 Try.underlying35 (by kernel_rfl) cellsShared hv h
  obtain ⟨a, n, c, rfl⟩ := slice_shape hy0
  obtain ⟨a', n', c', rfl⟩ := slice_shape hy1
  obtain ⟨xs, h1⟩ := open_intsF hy0
  obtain ⟨ys, h2⟩ := open_intsF hy1
  exact ⟨a, n, c, xs, a', n', c', ys, rfl, h1, h2⟩

end Go.Proofs.Ytiocpkkmkoedmaa
