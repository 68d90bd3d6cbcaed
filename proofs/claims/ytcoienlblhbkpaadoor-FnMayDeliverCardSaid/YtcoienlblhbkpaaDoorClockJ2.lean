/- Contracts of the clocks: ClockJoin of both. -/
import Derived.Test.YtcoienlblhbkpaaDoorClockJ
namespace Go.Proofs.YtcoienlblhbkpaaDoor
open Go.RowKit

/-- The greater counts. -/
def maxL : List Int → List Int → List Int
  | x :: xs, y :: ys => (if x < y then y else x) :: maxL xs ys
  | _, _ => []
def joinL (xs ys : List Int) : List Int := if clockB xs && clockB ys then maxL xs ys else []
theorem maxL_snoc {xs ys : List Int} : ∀ {k : Nat} {x y : Int}, xs[k]? = some x → ys[k]? = some y → maxL (xs.take (k + 1)) (ys.take (k + 1)) = maxL (xs.take k) (ys.take k) ++ [if x < y then y else x] := by
  induction xs generalizing ys with
  | nil => intro k x y hx; simp at hx
  | cons a xs ih =>
    intro k x y hx hy
    cases ys with
    | nil => simp at hy
    | cons b ys =>
      cases k with
      | zero => simp at hx hy; subst hx; subst hy; simp [maxL]
      | succ k =>
        simp only [List.take_succ_cons, maxL, List.cons_append]
        rw [ih (by simpa using hx) (by simpa using hy)]
theorem maxL_len : ∀ (xs ys : List Int), (maxL xs ys).length = min xs.length ys.length
  | [], ys => by simp [maxL]
  | x :: xs, [] => by simp [maxL]
  | x :: xs, y :: ys => by simp [maxL, maxL_len xs ys]


theorem join_four (x0 x1 x2 x3 y0 y1 y2 y3 : Int) : maxL [x0, x1, x2, x3] [y0, y1, y2, y3] = [if x0 < y0 then y0 else x0, if x1 < y1 then y1 else x1, if x2 < y2 then y2 else x2, if x3 < y3 then y3 else x3] := rfl



end Go.Proofs.YtcoienlblhbkpaaDoor
