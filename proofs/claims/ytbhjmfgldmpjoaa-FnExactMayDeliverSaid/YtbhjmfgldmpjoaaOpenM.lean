/- The frame's words for a message. -/
import Derived.Test.YtbhjmfgldmpjoaaOpen
namespace Go.Proofs.Ytbhjmfgldmpjoaa
open Go.ChangeShapes Go.WideShapes Go.ChangeAt Go.RowKit

theorem cellsMessage : Try.prog.cellsOf 45 = 2 := by kernel_rfl
theorem open_MessageA {H : Type} {enc : TypeId × Value → H} {W : World} {base : Nat} {sp : Nat → Bool} {hd : Bool} {b0 : Nat} {v : Value} {d : DataW H} {p : List MemPlace} (hv : Value.okWide Try.prog W .any base 45 v) (h : DataW.Trod enc Try.prog W b0 sp hd 45 v d p) :
    ∃ f a n c ys, v = .agg #[.int .i64 f, .slice a n c] ∧ n ≤ c ∧ c ≤ maxLen ∧ RI W a n ys := by
  obtain ⟨c0, c1, y0, y1, m, rfl, rfl, rfl, hy0, hy1⟩ := Go.Joins.open_agg2 Try.underlying45 (by kernel_rfl) cellsMessage hv h
  obtain ⟨f, e0, _, w0⟩ := DataW.trod_int Try.underlying3 hy0
  injection e0 with e0; subst e0
  obtain ⟨a, n, c, rfl⟩ := slice_shape hy1
  obtain ⟨ys, h1, h2, h3⟩ := open_intsF hy1
  exact ⟨f, a, n, c, ys, rfl, h1, h2, h3⟩

end Go.Proofs.Ytbhjmfgldmpjoaa
