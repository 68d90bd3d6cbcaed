/- sets, the program's SharedValid. -/
import Derived.Test.YtcoienlblhbkpaaDoorShared6
namespace Go.Proofs.YtcoienlblhbkpaaDoor
open Go.RowKit

def sharedB (xs ys : List Int) : Bool := ys.all (hasB xs) && (ascB (-1) xs && ascB (-1) ys)
/-- What 'sets' answers as its third. -/
theorem sharedB_sets {xs ys : List Int} (h1 : ascB (-1) xs = true) (h2 : ascB (-1) ys = true) :
    (bits .andNot .u64 (setL (-1) 0 ys).1 (setL (-1) 0 xs).1 == 0) = sharedB xs ys := by
  obtain ⟨q, e1, lq, bq⟩ := setL_bits xs (-1) 0 (by omega) (by omega) h1
  obtain ⟨r, e2, lr, br⟩ := setL_bits ys (-1) 0 (by omega) (by omega) h2
  rw [show (setL (-1) 0 xs).1 = (q : Int) from e1, show (setL (-1) 0 ys).1 = (r : Int) from e2]
  rw [Bool.eq_iff_iff, beq_iff_eq, andNot_zero lr lq]
  unfold sharedB
  rw [h1, h2]
  simp only [Bool.and_true, List.all_eq_true]
  constructor
  · intro h y hy
    have hy0 := ascB_gt ys (-1) h2 y hy
    have := h y.toNat (by rw [br, Nat.zero_testBit, Bool.false_or, List.any_eq_true]; exact ⟨y, hy, by simp; omega⟩)
    rw [bq, Nat.zero_testBit, Bool.false_or] at this
    unfold hasB
    rw [show ((y.toNat : Nat) : Int) = y by omega] at this
    exact this
  · intro h i hi
    rw [br, Nat.zero_testBit, Bool.false_or, List.any_eq_true] at hi
    obtain ⟨y, hy, he⟩ := hi
    have he' : y = (i : Int) := by simpa using he
    subst he'
    rw [bq, Nat.zero_testBit, Bool.false_or]
    exact h _ hy

end Go.Proofs.YtcoienlblhbkpaaDoor
