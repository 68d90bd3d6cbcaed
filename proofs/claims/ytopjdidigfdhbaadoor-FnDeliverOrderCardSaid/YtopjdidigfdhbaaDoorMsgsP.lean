/- Messages' validity as one Lean value: each one good, none like an earlier one in sender and count, at most 12. -/
import Derived.Test.YtopjdidigfdhbaaDoorMsgs
import Derived.Test.YtopjdidigfdhbaaDoorClock
namespace Go.Proofs.YtopjdidigfdhbaaDoor

def atM (ms : Ms) (k : Nat) : Int × List Int := ms.getD k (0, [])
def cntM (m : Int × List Int) : Int := m.2.getD m.1.toNat 0
def keyM (m : Int × List Int) : Int × Int := (m.1, cntM m)
def msgOk (m : Int × List Int) : Bool := inB m.1 0 3 && (clockB m.2 && !decide (cntM m = 0))
/-- The message 'k' is like none of the first 'j' ones. -/
def FreeTo (ms : Ms) (k j : Nat) : Prop := ∀ i, i < j → keyM (atM ms i) ≠ keyM (atM ms k)
def MvTo (ms : Ms) (k : Nat) : Prop := ∀ i, i < k → msgOk (atM ms i) = true ∧ FreeTo ms i i
instance (ms : Ms) (k j : Nat) : Decidable (FreeTo ms k j) := inferInstanceAs (Decidable (∀ i, i < j → _))
instance (ms : Ms) (k : Nat) : Decidable (MvTo ms k) := inferInstanceAs (Decidable (∀ i, i < k → _))
def mvB (ms : Ms) : Bool := decide (MvTo ms ms.length) && decide (ms.length ≤ 12)

theorem FreeTo.zero {ms : Ms} {k : Nat} : FreeTo ms k 0 := fun i h => absurd h (by omega)
theorem FreeTo.step {ms : Ms} {k j : Nat} (h : FreeTo ms k j) (hn : keyM (atM ms j) ≠ keyM (atM ms k)) : FreeTo ms k (j + 1) := fun i hi => by
  by_cases e : i = j
  · exact e ▸ hn
  · exact h i (by omega)
theorem MvTo.zero {ms : Ms} : MvTo ms 0 := fun i h => absurd h (by omega)
theorem MvTo.step {ms : Ms} {k : Nat} (h : MvTo ms k) (ho : msgOk (atM ms k) = true) (hf : FreeTo ms k k) : MvTo ms (k + 1) := fun i hi => by
  by_cases e : i = k
  · exact e ▸ ⟨ho, hf⟩
  · exact h i (by omega)
theorem mvB_bad {ms : Ms} {k : Nat} (hk : k < ms.length) (ho : msgOk (atM ms k) = false) : mvB ms = false := by
  have : ¬ MvTo ms ms.length := fun h => by have := (h k hk).1; rw [ho] at this; cases this
  simp [mvB, this]
theorem mvB_twice {ms : Ms} {k j : Nat} (hk : k < ms.length) (hj : j < k) (he : keyM (atM ms j) = keyM (atM ms k)) : mvB ms = false := by
  have : ¬ MvTo ms ms.length := fun h => (h k hk).2 j hj he
  simp [mvB, this]
theorem mvB_all {ms : Ms} (h : MvTo ms ms.length) : mvB ms = decide (ms.length ≤ 12) := by simp [mvB, h]
theorem mvB_long {ms : Ms} (h : 12 < ms.length) : mvB ms = false := by
  have : ¬ ms.length ≤ 12 := by omega
  simp [mvB, this]
theorem atM_get {ms : Ms} {k : Nat} {m : Int × List Int} (h : ms[k]? = some m) : atM ms k = m := by simp [atM, List.getD, h]

/-- What 'impl' asks of its map: is the pair of 'k' among those of the first 'k' ones. -/
def metB (ms : Ms) (k : Nat) (q : Int × Int) : Bool := ((List.range k).map fun i => keyM (atM ms i)).contains q
theorem metB_zero {ms : Ms} {q : Int × Int} : metB ms 0 q = false := by simp [metB]
theorem metB_succ {ms : Ms} {k : Nat} {q : Int × Int} : metB ms (k + 1) q = (metB ms k q || decide (q = keyM (atM ms k))) := by
  simp [metB, List.range_succ, Bool.or_comm]
theorem metB_free {ms : Ms} {k j : Nat} : metB ms j (keyM (atM ms k)) = false ↔ FreeTo ms k j := by
  simp [metB, FreeTo]
theorem metB_true {ms : Ms} {k j : Nat} (h : metB ms j (keyM (atM ms k)) = true) : ∃ i, i < j ∧ keyM (atM ms i) = keyM (atM ms k) := by
  simpa [metB] using h

end Go.Proofs.YtopjdidigfdhbaaDoor
