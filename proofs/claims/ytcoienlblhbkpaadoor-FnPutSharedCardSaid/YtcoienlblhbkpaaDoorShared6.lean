/- The plain law of shared sets. -/
import Derived.Test.YtcoienlblhbkpaaDoorShared5
namespace Go.Proofs.YtcoienlblhbkpaaDoor
open Go.RowKit

theorem sub_testBit (r i : Nat) (hr : r < 2 ^ 64) (hi : i < 64) : (18446744073709551615 - r).testBit i = !r.testBit i := by
  have h := Nat.testBit_two_pow_sub_succ hr i
  rw [show (18446744073709551615 - r) = 2 ^ 64 - (r + 1) by omega, h]
  simp [hi]
theorem andNot_zero {q r : Nat} (hq : q < 2 ^ 31) (hr : r < 2 ^ 31) : bits .andNot .u64 (q : Int) (r : Int) = 0 ↔ ∀ i, q.testBit i = true → r.testBit i = true := by
  rw [u64_andNot_nat q r (by omega) (by omega)]
  rw [show ((0 : Int) = ((0 : Nat) : Int)) from rfl, Int.ofNat_inj]
  constructor
  · intro h i hi
    have hlt : i < 64 := by
      rcases Nat.lt_or_ge i 64 with h | h
      · exact h
      · have : q.testBit i = false := Nat.testBit_lt_two_pow (Nat.lt_of_lt_of_le hq (Nat.pow_le_pow_right (by omega) (by omega)))
        rw [this] at hi; cases hi
    have h2 := congrArg (Nat.testBit · i) h
    simp only [Nat.testBit_and, sub_testBit r i (by omega) hlt, Nat.zero_testBit, hi, Bool.true_and] at h2
    simpa using h2
  · intro h
    apply Nat.eq_of_testBit_eq
    intro i
    rw [Nat.testBit_and, Nat.zero_testBit]
    cases hi : q.testBit i
    · simp
    · have hlt : i < 64 := by
        rcases Nat.lt_or_ge i 64 with h | h
        · exact h
        · have : q.testBit i = false := Nat.testBit_lt_two_pow (Nat.lt_of_lt_of_le hq (Nat.pow_le_pow_right (by omega) (by omega)))
          rw [this] at hi; cases hi
      rw [sub_testBit r i (by omega) hlt, h i hi]; rfl

end Go.Proofs.YtcoienlblhbkpaaDoor
