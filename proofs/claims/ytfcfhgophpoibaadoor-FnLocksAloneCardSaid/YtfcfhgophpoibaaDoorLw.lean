/- Operations and transactions that are valid; last writes; what a transaction sees: as Lean values. -/
import Derived.Test.YtfcfhgophpoibaaDoorRunW
namespace Go.Proofs.YtfcfhgophpoibaaDoor
open Go.RowKit

def opB (o : T3) : Bool := inB o.1 1 2 && (inB o.2.1 0 2 && (inB o.2.2 0 99 && ((o.1 == 1) || decide (0 < o.2.2))))
def txnB (t : Tx) : Bool := t.2.1.all opB && (inB t.1 0 3 && decide (t.2.1.length ≤ 6))
/-- The last write to a key. -/
def lastK (os : List T3) (key : Int) : Option T3 := os.reverse.find? fun o => decide (o.1 = 2) && decide (o.2.1 = key)
/-- The last operation on a key. -/
def lastO (os : List T3) (key : Int) : Option T3 := os.reverse.find? fun o => decide (o.2.1 = key)
def lastW (os : List T3) : List T3 := (lastK os 0).toList ++ ((lastK os 1).toList ++ (lastK os 2).toList)
/-- What a transaction sees at a key, beside a store. -/
def seesV (os : List T3) (st : List Int) (key : Nat) : Int := match lastK os key with | some o => o.2.2 | none => st.getD key 0
def ownV (os : List T3) (key : Int) (other : Int) : Int := match lastO os key with | some o => o.2.2 | none => other

theorem snoc_ind {α : Type} {motive : List α → Prop} (nil : motive []) (append_singleton : ∀ l a, motive l → motive (l ++ [a])) (l : List α) : motive l := by
  have h : ∀ r : List α, motive r.reverse := by
    intro r
    induction r with
    | nil => exact nil
    | cons a r ih => rw [List.reverse_cons]; exact append_singleton _ _ ih
  have := h l.reverse
  rwa [List.reverse_reverse] at this
theorem lastK_some {os : List T3} {key : Int} {o : T3} (h : lastK os key = some o) : o ∈ os ∧ o.1 = 2 ∧ o.2.1 = key := by
  unfold lastK at h
  have h1 := List.find?_some h
  have h2 := List.mem_of_find?_eq_some h
  simp at h1 h2
  exact ⟨h2, h1⟩
theorem lastO_some {os : List T3} {key : Int} {o : T3} (h : lastO os key = some o) : o ∈ os ∧ o.2.1 = key := by
  unfold lastO at h
  have h1 := List.find?_some h
  have h2 := List.mem_of_find?_eq_some h
  simp at h1 h2
  exact ⟨h2, h1⟩
theorem lastK_snoc (os : List T3) (o : T3) (key : Int) : lastK (os ++ [o]) key = if o.1 = 2 ∧ o.2.1 = key then some o else lastK os key := by
  unfold lastK
  rw [List.reverse_append]
  simp only [List.reverse_singleton, List.singleton_append, List.find?_cons]
  by_cases h : o.1 = 2 ∧ o.2.1 = key
  · simp [h]
  · rw [if_neg h]
    have : (decide (o.1 = 2) && decide (o.2.1 = key)) = false := by simpa using h
    rw [this]
theorem lastO_snoc (os : List T3) (o : T3) (key : Int) : lastO (os ++ [o]) key = if o.2.1 = key then some o else lastO os key := by
  unfold lastO
  rw [List.reverse_append]
  simp only [List.reverse_singleton, List.singleton_append, List.find?_cons]
  by_cases h : o.2.1 = key
  · simp [h]
  · rw [if_neg h]
    have : decide (o.2.1 = key) = false := by simpa using h
    rw [this]
theorem lastK_nil (key : Int) : lastK [] key = none := rfl
theorem lastO_nil (key : Int) : lastO [] key = none := rfl
/-- From behind: nothing among the last ones, then it. -/
theorem lastK_at {os : List T3} {k : Nat} {o : T3} {key : Int} (hk : os[k]? = some o) (ho : o.1 = 2 ∧ o.2.1 = key) (hb : ∀ j p, k < j → os[j]? = some p → ¬ (p.1 = 2 ∧ p.2.1 = key)) : lastK os key = some o := by
  induction os using snoc_ind with
  | nil => simp at hk
  | append_singleton l a ih =>
    rw [lastK_snoc]
    by_cases e : k < l.length
    · have h1 := hb l.length a e (by simp)
      rw [if_neg h1]
      rw [List.getElem?_append_left e] at hk
      exact ih hk (fun j p hj hp => hb j p hj (by rw [List.getElem?_append_left (List.getElem?_eq_some_iff.1 hp).1]; exact hp))
    · have : k = l.length := by have := (List.getElem?_eq_some_iff.1 hk).1; simp at this; omega
      subst this
      simp at hk; subst hk
      rw [if_pos ho]
theorem lastK_none {os : List T3} {key : Int} (hb : ∀ (j : Nat) p, os[j]? = some p → ¬ (p.1 = 2 ∧ p.2.1 = key)) : lastK os key = none := by
  cases h : lastK os key with
  | none => rfl
  | some o =>
    obtain ⟨h1, h2⟩ := lastK_some h
    obtain ⟨j, hj, he⟩ := List.mem_iff_getElem.1 h1
    exact absurd h2 (hb j o (by rw [← he]; exact List.getElem?_eq_getElem hj))
theorem lastO_at {os : List T3} {k : Nat} {o : T3} {key : Int} (hk : os[k]? = some o) (ho : o.2.1 = key) (hb : ∀ j p, k < j → os[j]? = some p → ¬ p.2.1 = key) : lastO os key = some o := by
  induction os using snoc_ind with
  | nil => simp at hk
  | append_singleton l a ih =>
    rw [lastO_snoc]
    by_cases e : k < l.length
    · have h1 := hb l.length a e (by simp)
      rw [if_neg h1]
      rw [List.getElem?_append_left e] at hk
      exact ih hk (fun j p hj hp => hb j p hj (by rw [List.getElem?_append_left (List.getElem?_eq_some_iff.1 hp).1]; exact hp))
    · have : k = l.length := by have := (List.getElem?_eq_some_iff.1 hk).1; simp at this; omega
      subst this
      simp at hk; subst hk
      rw [if_pos ho]
theorem lastO_none {os : List T3} {key : Int} (hb : ∀ (j : Nat) p, os[j]? = some p → ¬ p.2.1 = key) : lastO os key = none := by
  cases h : lastO os key with
  | none => rfl
  | some o =>
    obtain ⟨h1, h2⟩ := lastO_some h
    obtain ⟨j, hj, he⟩ := List.mem_iff_getElem.1 h1
    exact absurd h2 (hb j o (by rw [← he]; exact List.getElem?_eq_getElem hj))
theorem lastW_mem {os : List T3} {o : T3} (h : o ∈ lastW os) : o ∈ os ∧ o.1 = 2 := by
  unfold lastW at h
  simp only [List.mem_append, Option.mem_toList] at h
  rcases h with h | h | h
  · exact ⟨(lastK_some h).1, (lastK_some h).2.1⟩
  · exact ⟨(lastK_some h).1, (lastK_some h).2.1⟩
  · exact ⟨(lastK_some h).1, (lastK_some h).2.1⟩
/-- The last writes of the keys below k. -/
def lastTo (os : List T3) (k : Nat) : List T3 := (List.range k).flatMap fun (j : Nat) => (lastK os (j : Int)).toList
theorem lastTo_succ (os : List T3) (k : Nat) : lastTo os (k + 1) = lastTo os k ++ (lastK os (k : Int)).toList := by
  unfold lastTo; rw [List.range_succ, List.flatMap_append]; simp
theorem lastTo_three (os : List T3) : lastTo os 3 = lastW os := by
  rw [lastTo_succ, lastTo_succ, lastTo_succ]
  simp [lastTo, lastW]
theorem lastTo_len (os : List T3) (k : Nat) : (lastTo os k).length ≤ k := by
  induction k with
  | zero => simp [lastTo]
  | succ k ih =>
    rw [lastTo_succ, List.length_append]
    have : (lastK os (k : Int)).toList.length ≤ 1 := by cases lastK os (k : Int) <;> simp
    omega

end Go.Proofs.YtfcfhgophpoibaaDoor
