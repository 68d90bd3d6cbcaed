/- Contracts of the laws' own helpers on a struct of two []int (Tally). -/
import Derived.Test.YtopjdidigfdhbaaDoorLib2
namespace Go.Proofs.YtopjdidigfdhbaaDoor
open Go.RowKit

/-- What is left of a purse of rooms. -/
def szR (left n : Int) : Int := if n ≤ left then left - n else -1

theorem szR_le (left n : Int) (h0 : 0 ≤ left) (hn : 0 ≤ n) : -1 ≤ szR left n ∧ szR left n ≤ left := by unfold szR; split <;> omega
theorem szR_ok {left n : Int} (h : 0 ≤ szR left n) : n ≤ left ∧ szR left n = left - n := by
  unfold szR at *; split at h
  · rename_i hc; exact ⟨hc, by rw [if_pos hc]⟩
  · omega







end Go.Proofs.YtopjdidigfdhbaaDoor
