/- Slices of drafts: copied, with all that is the copy's own; marked. -/
import Derived.Test.YtieecneknljmdaaDoorDrs2
import Derived.Test.YtieecneknljmdaaDoorDeep
namespace Go.Proofs.YtieecneknljmdaaDoor
open Go.RowKit

/-- The cells of n drafts; 'is': the steps of the first ones. -/
def csD (n : Nat) (cs : List Value) (is : List In) : Prop := cs.length = n * 2 ∧ ∀ (j : Nat) (q : In), is[j]? = some q → j < n ∧ cs[j * 2 + 1]? = some q.1 ∧ ∃ x, cs[j * 2]? = some (.int .i64 x)
theorem csD.push {n k : Nat} {cs : List Value} {is : List In} (h : csD n cs is) (hl : is.length = k) (hk : k < n) (f : Int) (q : In) : csD n ((cs.set (k * 2) (.int .i64 f)).set (k * 2 + 1) q.1) (is ++ [q]) := by
  obtain ⟨h1, h2⟩ := h
  refine ⟨by simp [h1], fun j p hj => ?_⟩
  by_cases e : j < is.length
  · rw [List.getElem?_append_left e] at hj
    obtain ⟨h3, h4, x, h5⟩ := h2 j p hj
    refine ⟨h3, ?_, x, ?_⟩
    · rw [List.getElem?_set_ne (by omega), List.getElem?_set_ne (by omega)]; exact h4
    · rw [List.getElem?_set_ne (by omega), List.getElem?_set_ne (by omega)]; exact h5
  · obtain rfl : j = is.length := by have := (List.getElem?_eq_some_iff.1 hj).1; simp at this; omega
    simp at hj
    subst hj; subst hl
    refine ⟨hk, ?_, f, ?_⟩
    · rw [List.getElem?_set_self (by simp; omega)]
    · rw [List.getElem?_set_ne (by omega), List.getElem?_set_self (by omega)]
theorem csD.int {n : Nat} {cs : List Value} {is : List In} (h : csD n cs is) (k : Nat) (f : Int) : csD n (cs.set (k * 2) (.int .i64 f)) is := by
  obtain ⟨h1, h2⟩ := h
  refine ⟨by simp [h1], fun j p hj => ?_⟩
  obtain ⟨h3, h4, x, h5⟩ := h2 j p hj
  refine ⟨h3, ?_, ?_⟩
  · rw [List.getElem?_set_ne (by omega)]; exact h4
  · by_cases e : k = j
    · subst e; exact ⟨f, List.getElem?_set_self (by omega)⟩
    · exact ⟨x, by rw [List.getElem?_set_ne (by omega)]; exact h5⟩
theorem csD.upd {n : Nat} {cs : List Value} {is : List In} (h : csD n cs is) {j : Nat} {q q' : In} (hj : is[j]? = some q) (he : q'.1 = q.1) : csD n cs (is.set j q') := by
  obtain ⟨h1, h2⟩ := h
  refine ⟨h1, fun i p hi => ?_⟩
  by_cases e : j = i
  · subst e
    rw [List.getElem?_set_self (List.getElem?_eq_some_iff.1 hj).1] at hi
    injection hi with hi; subst hi
    rw [he]; exact h2 j q hj
  · rw [List.getElem?_set_ne e] at hi; exact h2 i p hi
/-- The drafts 'ms', all the call's own, from block lo on. -/
def ODs (w : World) (lo g n : Nat) (ms : Ds) : Prop := ∃ cs is, Dp 63 51 3 w lo g cs is ∧ csD n cs is ∧ is.map (·.2.1) = ms.map (·.2.length)
theorem ODs.below {w w' : World} {lo g n : Nat} {ms : Ds} (h : ODs w lo g n ms) (hb : Below w.heap.size w w') : ODs w' lo g n ms := by
  obtain ⟨cs, is, h1, h2, h3⟩ := h; exact ⟨cs, is, h1.below hb, h2, h3⟩


def sumD (is : List In) : Nat := (is.map fun q => q.2.1 * 3 + 1).sum
theorem sumD_take {is : List In} {j : Nat} {q : In} (h : is[j]? = some q) : sumD (is.take (j + 1)) = sumD (is.take j) + q.2.1 * 3 + 1 := by
  unfold sumD; rw [List.take_add_one, h]; simp; omega
theorem sumD_take_le (is : List In) (j : Nat) : sumD (is.take j) ≤ sumD is := by
  have : is.take j ++ is.drop j = is := List.take_append_drop j is
  have h2 : sumD is = sumD (is.take j) + sumD (is.drop j) := by
    unfold sumD
    rw [← List.sum_append, ← List.map_append, this]
  omega


end Go.Proofs.YtieecneknljmdaaDoor
