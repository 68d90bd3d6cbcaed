/- Contracts of the clocks: ClockBefore of both. -/
import Derived.Test.YtopjdidigfdhbaaClock
namespace Go.Proofs.Ytopjdidigfdhbaa
open Go.RowKit

/-- Every count of xs is at most that of ys. -/
def leAll : List Int → List Int → Bool
  | x :: xs, y :: ys => decide (x ≤ y) && leAll xs ys
  | _, _ => true
def beforeB (xs ys : List Int) : Bool := clockB xs && clockB ys && leAll xs ys
theorem leAll_snoc {xs ys : List Int} : ∀ {k : Nat} {x y : Int}, leAll (xs.take k) (ys.take k) = true → xs[k]? = some x → ys[k]? = some y → x ≤ y → leAll (xs.take (k + 1)) (ys.take (k + 1)) = true := by
  induction xs generalizing ys with
  | nil => intro k x y _ hx; simp at hx
  | cons a xs ih =>
    intro k x y h hx hy hxy
    cases ys with
    | nil => simp at hy
    | cons b ys =>
      cases k with
      | zero => simp at hx hy; subst hx; subst hy; simp [leAll, hxy]
      | succ k =>
        simp only [List.take_succ_cons, leAll, Bool.and_eq_true, decide_eq_true_eq] at h ⊢
        exact ⟨h.1, ih h.2 (by simpa using hx) (by simpa using hy) hxy⟩
theorem leAll_bad {xs ys : List Int} : ∀ {k : Nat} {x y : Int}, xs[k]? = some x → ys[k]? = some y → y < x → leAll xs ys = false := by
  induction xs generalizing ys with
  | nil => intro k x y hx; simp at hx
  | cons a xs ih =>
    intro k x y hx hy hxy
    cases ys with
    | nil => simp at hy
    | cons b ys =>
      cases k with
      | zero =>
        simp at hx hy; subst hx; subst hy
        simp only [leAll, Bool.and_eq_false_iff, decide_eq_false_iff_not]; left; omega
      | succ k => simp only [leAll, Bool.and_eq_false_iff]; right; exact ih (by simpa using hx) (by simpa using hy) hxy


theorem leAll_take4 (x0 x1 x2 x3 y0 y1 y2 y3 : Int) (k : Nat) (hk : k < 4) :
    ∃ x y, [x0, x1, x2, x3][k]? = some x ∧ [y0, y1, y2, y3][k]? = some y ∧ leAll ([x0, x1, x2, x3].take (k + 1)) ([y0, y1, y2, y3].take (k + 1)) = (leAll ([x0, x1, x2, x3].take k) ([y0, y1, y2, y3].take k) && decide (x ≤ y)) := by
  match k, hk with
  | 0, _ => exact ⟨x0, y0, rfl, rfl, by simp [leAll]⟩
  | 1, _ => exact ⟨x1, y1, rfl, rfl, by simp [leAll]⟩
  | 2, _ => exact ⟨x2, y2, rfl, rfl, by simp [leAll, Bool.and_assoc]⟩
  | 3, _ => exact ⟨x3, y3, rfl, rfl, by simp [leAll, Bool.and_assoc]⟩
theorem before_fin {xs ys : List Int} {x0 x1 x2 x3 y0 y1 y2 y3 : Int} (hx : Clk xs x0 x1 x2 x3) (hy : Clk ys y0 y1 y2 y3) :
    ((clockB xs && clockB ys) && leAll [x0, x1, x2, x3] [y0, y1, y2, y3]) = beforeB xs ys := by
  unfold Clk at hx hy
  unfold beforeB
  cases h1 : clockB xs <;> cases h2 : clockB ys <;> simp only [h1, h2, if_true] at hx hy <;> simp [hx, hy]


end Go.Proofs.Ytopjdidigfdhbaa
