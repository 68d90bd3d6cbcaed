/- The frame's words for a struct of three ints. -/
import Derived.Test.YtiocpkkmkoedmaaOpen
namespace Go.Proofs.Ytiocpkkmkoedmaa
open Go.ChangeShapes Go.WideShapes Go.ChangeAt Go.RowKit

theorem cellsStamped : Try.prog.cellsOf 25 = 3 := by kernel_rfl
theorem open_StampedA {H : Type} {enc : TypeId × Value → H} {W : World} {base : Nat} {sp : Nat → Bool} {hd : Bool} {b0 : Nat} {v : Value} {d : DataW H} {p : List MemPlace} (hv : Value.okWide Try.prog W .any base 25 v) (h : DataW.Trod enc Try.prog W b0 sp hd 25 v d p) :
    ∃ x y z, v = .agg #[.int .i64 x, .int .i64 y, .int .i64 z] ∧ (Lit.int .i64 x).wf = true ∧ (Lit.int .i64 y).wf = true ∧ (Lit.int .i64 z).wf = true := by
  obtain ⟨c0, c1, c2, y0, y1, y2, m, rfl, rfl, rfl, hy0, hy1, hy2⟩ := Go.Joins.open_agg3 Try.underlying25 (by kernel_rfl) cellsStamped hv h
  obtain ⟨x, e0, _, w0⟩ := DataW.trod_int Try.underlying3 hy0
  obtain ⟨y, e1, _, w1⟩ := DataW.trod_int Try.underlying3 hy1
  obtain ⟨z, e2, _, w2⟩ := DataW.trod_int Try.underlying3 hy2
  injection e0 with e0; injection e1 with e1; injection e2 with e2
  subst e0; subst e1; subst e2
  exact ⟨x, y, z, rfl, w0, w1, w2⟩

end Go.Proofs.Ytiocpkkmkoedmaa
