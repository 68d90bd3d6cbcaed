/- Delivery as one Lean value: again and again the first message that was not delivered yet and may be. -/
import Derived.Test.YtopjdidigfdhbaaDoorMsgsP
import Derived.Test.YtopjdidigfdhbaaDoorMay
namespace Go.Proofs.YtopjdidigfdhbaaDoor

/-- The counts of what was delivered. -/
def seenV (ms : Ms) (os : List Nat) : List Int := (List.range 4).map fun (j : Nat) => ((os.filter fun i => decide ((atM ms i).1 = (j : Int))).length : Int)
def canB (ms : Ms) (os : List Nat) (k : Nat) : Bool := !os.contains k && mayB (seenV ms os) (atM ms k).1 (atM ms k).2
def nextD (ms : Ms) (os : List Nat) : Option Nat := (List.range ms.length).find? (canB ms os)
def runD (ms : Ms) : Nat → List Nat → List Nat
  | 0, os => os
  | f + 1, os => match nextD ms os with
    | none => os
    | some k => runD ms f (os ++ [k])
def dlvL (ms : Ms) : List Nat := if mvB ms then runD ms ms.length [] else []
/-- How many are not delivered. -/
def leftD (ms : Ms) (os : List Nat) : Nat := (List.range ms.length).countP fun i => !os.contains i

theorem countP_lt {l : List Nat} {p q : Nat → Bool} (h : ∀ i ∈ l, q i = true → p i = true) {k : Nat} (hk : k ∈ l) (hp : p k = true) (hq : q k = false) : l.countP q < l.countP p := by
  induction l with
  | nil => cases hk
  | cons a l ih =>
    have hm : l.countP q ≤ l.countP p := List.countP_mono_left (fun i hi => h i (List.mem_cons_of_mem _ hi))
    by_cases e : a = k
    · subst e
      rw [List.countP_cons_of_pos hp, List.countP_cons_of_neg (by simp [hq])]; omega
    · have hk' : k ∈ l := by rcases List.mem_cons.1 hk with h | h; exact absurd h.symm e; exact h
      have := ih (fun i hi => h i (List.mem_cons_of_mem _ hi)) hk'
      have ha := h a (List.mem_cons_self ..)
      rw [List.countP_cons, List.countP_cons]
      cases hqa : q a <;> cases hpa : p a <;> simp_all <;> omega

theorem leftD_step {ms : Ms} {os : List Nat} {k : Nat} (hk : k < ms.length) (hn : os.contains k = false) : leftD ms (os ++ [k]) < leftD ms os :=
  countP_lt (fun i _ h => by simp at h ⊢; exact h.1) (List.mem_range.2 hk) (by simpa using hn) (by simp)

theorem nextD_some {ms : Ms} {os : List Nat} {k : Nat} (hk : k < ms.length) (hc : canB ms os k = true) (hb : ∀ j, j < k → canB ms os j = false) : nextD ms os = some k := by
  unfold nextD
  rw [List.find?_range_eq_some]
  exact ⟨hc, List.mem_range.2 hk, fun j hj => by simp [hb j hj]⟩
theorem nextD_none {ms : Ms} {os : List Nat} (hb : ∀ j, j < ms.length → canB ms os j = false) : nextD ms os = none := by
  unfold nextD
  rw [List.find?_eq_none]
  intro j hj; simp [hb j (List.mem_range.1 hj)]
theorem runD_step {ms : Ms} {os : List Nat} {k f : Nat} (h : nextD ms os = some k) : runD ms (f + 1) os = runD ms f (os ++ [k]) := by rw [runD, h]
theorem runD_end {ms : Ms} {os : List Nat} (h : nextD ms os = none) (f : Nat) : runD ms f os = os := by
  cases f with
  | zero => rfl
  | succ f => rw [runD, h]

/-- Where the delivery stands: 'os' was delivered, and what comes is what the whole comes to. -/
structure AtD (ms : Ms) (os : List Nat) : Prop where
  lt : ∀ i ∈ os, i < ms.length
  sum : os.length + leftD ms os ≤ ms.length
  run : ∃ f, leftD ms os ≤ f ∧ runD ms f os = runD ms ms.length []
theorem leftD_le (ms : Ms) (os : List Nat) : leftD ms os ≤ ms.length := by unfold leftD; exact Nat.le_trans List.countP_le_length (by simp)
theorem AtD.zero (ms : Ms) : AtD ms [] := ⟨fun i h => by simp at h, by simpa using leftD_le ms [], ⟨ms.length, leftD_le _ _, rfl⟩⟩
theorem canB_new {ms : Ms} {os : List Nat} {k : Nat} (h : canB ms os k = true) : os.contains k = false := by unfold canB at h; simp at h ⊢; exact h.1
theorem AtD.step {ms : Ms} {os : List Nat} {k : Nat} (h : AtD ms os) (hk : k < ms.length) (hc : canB ms os k = true) (hb : ∀ j, j < k → canB ms os j = false) : AtD ms (os ++ [k]) := by
  have hl := leftD_step hk (canB_new hc)
  obtain ⟨f, hf, hr⟩ := h.run
  refine ⟨fun i hi => ?_, by have := h.sum; simp; omega, ?_⟩
  · rcases List.mem_append.1 hi with hi | hi
    · exact h.lt i hi
    · simp at hi; omega
  · cases f with
    | zero => omega
    | succ f => exact ⟨f, by omega, by rw [← hr, runD_step (nextD_some hk hc hb)]⟩
theorem AtD.fin {ms : Ms} {os : List Nat} (h : AtD ms os) (hb : ∀ j, j < ms.length → canB ms os j = false) : os = runD ms ms.length [] := by
  obtain ⟨f, _, hr⟩ := h.run
  rw [← hr, runD_end (nextD_none hb)]
theorem AtD.len {ms : Ms} {os : List Nat} (h : AtD ms os) : os.length ≤ ms.length := by have := h.sum; omega

/-- The counts, one more. -/
theorem seenV_len (ms : Ms) (os : List Nat) : (seenV ms os).length = 4 := by simp [seenV]
theorem seenV_nil (ms : Ms) : seenV ms [] = [0, 0, 0, 0] := rfl
theorem seenV_get (ms : Ms) (os : List Nat) {j : Nat} (hj : j < 4) : (seenV ms os)[j]? = some ((os.filter fun i => decide ((atM ms i).1 = (j : Int))).length : Int) := by
  unfold seenV; simp [hj]
theorem seenV_snoc {ms : Ms} {os : List Nat} {k f : Nat} (hf : (atM ms k).1 = (f : Int)) :
    seenV ms (os ++ [k]) = (seenV ms os).set f ((seenV ms os).getD f 0 + 1) := by
  apply List.ext_getElem?
  intro j
  by_cases hj : j < 4
  · rw [seenV_get _ _ hj]
    by_cases e : f = j
    · subst e
      rw [List.getElem?_set_self (by rw [seenV_len]; exact hj), List.getD, seenV_get _ _ hj, List.filter_append]
      simp [hf]
    · rw [List.getElem?_set_ne e, seenV_get _ _ hj, List.filter_append]
      simp [hf, show ¬ (f : Int) = (j : Int) by omega]
  · rw [List.getElem?_eq_none (by rw [seenV_len]; omega), List.getElem?_eq_none (by simp [seenV_len]; omega)]
theorem seenV_bd (ms : Ms) (os : List Nat) {x : Int} (h : x ∈ seenV ms os) : 0 ≤ x ∧ x ≤ os.length := by
  unfold seenV at h
  obtain ⟨j, _, rfl⟩ := List.mem_map.1 h
  have := List.length_filter_le (fun i => decide ((atM ms i).1 = (j : Int))) os
  omega

end Go.Proofs.YtopjdidigfdhbaaDoor
