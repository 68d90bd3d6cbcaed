/- Texts of plans (plain). -/
import Derived.Test.YtefopnkicllpeaaDoorNumP
import Derived.Test.YtefopnkicllpeaaDoorPlan
namespace Go.Proofs.YtefopnkicllpeaaDoor
open Go.RowKit

/-- The text of a step: a blank, its letter, its key. -/
def stepT (o : T3) : List UInt8 := 32 :: (if o.1 = 2 then 119 else 114) :: digs o.2.1.toNat
def stepsTo (os : List T3) (j : Nat) : List UInt8 := (os.take j).flatMap stepT
def draftT (d : Int × List T3) : List UInt8 := 115 :: (digs d.1.toNat ++ d.2.flatMap stepT)
/-- The texts of the first k drafts. -/
def planTo (ds : Ds) : Nat → List UInt8
  | 0 => []
  | k + 1 => planTo ds k ++ ((if 0 < k then [59, 32] else []) ++ draftT (ds.getD k (0, [])))
def planT (ds : Ds) : List UInt8 := if planB ds then planTo ds ds.length else []
theorem planTo_succ {ds : Ds} {k : Nat} {d : Int × List T3} (h : ds[k]? = some d) : planTo ds (k + 1) = planTo ds k ++ ((if 0 < k then [59, 32] else []) ++ draftT d) := by
  rw [planTo, List.getD_eq_getElem?_getD, h]; rfl
theorem stepsTo_zero (os : List T3) : stepsTo os 0 = [] := by simp [stepsTo]
theorem stepsTo_succ {os : List T3} {j : Nat} {o : T3} (h : os[j]? = some o) : stepsTo os (j + 1) = stepsTo os j ++ stepT o := by
  unfold stepsTo; rw [List.take_add_one, h]; simp
theorem stepsTo_all {os : List T3} {j : Nat} (h : os.length = j) : stepsTo os j = os.flatMap stepT := by unfold stepsTo; rw [← h, List.take_length]
/-- Texts with a separator between them: the first k. -/
def joinTo (ls : List (List UInt8)) : Nat → List UInt8
  | 0 => []
  | k + 1 => joinTo ls k ++ ((if 0 < k then [59, 32] else []) ++ ls.getD k [])
theorem joinTo_plan (ds : Ds) : ∀ k, k ≤ ds.length → joinTo (ds.map draftT) k = planTo ds k
  | 0, _ => rfl
  | k + 1, h => by
    have h1 : ds[k]? = some (ds[k]'(by omega)) := List.getElem?_eq_getElem _
    rw [planTo_succ h1, joinTo, joinTo_plan ds k (by omega), List.getD_eq_getElem?_getD, List.getElem?_map, h1]; rfl
theorem digs1 {n : Nat} (h : n ≤ 9) : (digs n).length = 1 := by rw [digs_lt (by omega)]; rfl
theorem stepT_len {o : T3} (h : stepB o = true) : (stepT o).length = 3 := by
  obtain ⟨x, y, z⟩ := o
  unfold stepB at h
  simp only [Bool.and_eq_true, inB_iff] at h
  unfold stepT
  simp only [List.length_cons]
  rw [digs1 (by omega)]
theorem stepsTo_len {os : List T3} (h : ∀ o ∈ os, stepB o = true) : ∀ j, j ≤ os.length → (stepsTo os j).length = 3 * j
  | 0, _ => by simp [stepsTo]
  | j + 1, hj => by
    have h1 : os[j]? = some (os[j]'(by omega)) := List.getElem?_eq_getElem _
    rw [stepsTo_succ h1, List.length_append, stepsTo_len h j (by omega), stepT_len (h _ (List.getElem_mem _))]; omega
theorem draftT_len {d : Int × List T3} (h : draftB d = true) : (draftT d).length = 2 + 3 * d.2.length ∧ d.2.length ≤ 4 := by
  unfold draftB at h
  simp only [Bool.and_eq_true, List.all_eq_true, inB_iff] at h
  obtain ⟨h1, h2, h3⟩ := h
  unfold draftT
  rw [List.length_cons, List.length_append, digs1 (by omega), ← stepsTo_all (j := d.2.length) rfl, stepsTo_len h3 _ (Nat.le_refl _)]
  omega
theorem planTo_len {ds : Ds} (h : ∀ d ∈ ds, draftB d = true) : ∀ k, k ≤ ds.length → (planTo ds k).length ≤ 16 * k
  | 0, _ => by simp [planTo]
  | k + 1, hk => by
    have h1 : ds[k]? = some (ds[k]'(by omega)) := List.getElem?_eq_getElem _
    obtain ⟨h2, h3⟩ := draftT_len (h _ (List.getElem_mem (show k < ds.length by omega)))
    have h4 : (if 0 < k then [(59 : UInt8), 32] else []).length ≤ 2 := by split <;> simp
    rw [planTo_succ h1, List.length_append, List.length_append]
    have := planTo_len h k (by omega)
    omega
theorem planB_parts {ds : Ds} (h : planB ds = true) : ds.length ≤ 4 ∧ ∀ d ∈ ds, draftB d = true := by
  unfold planB at h
  simp only [Bool.and_eq_true, decide_eq_true_eq, List.all_eq_true] at h
  exact h
theorem draftB_partsT {d : Int × List T3} (h : draftB d = true) : d.2.length ≤ 4 ∧ (0 ≤ d.1 ∧ d.1 ≤ 3) ∧ ∀ s ∈ d.2, (s.1 = 1 ∨ s.1 = 2) ∧ (0 ≤ s.2.1 ∧ s.2.1 ≤ 2) ∧ stepB s = true := by
  unfold draftB at h
  simp only [Bool.and_eq_true, List.all_eq_true, inB_iff] at h
  obtain ⟨h1, h2, h3⟩ := h
  refine ⟨by omega, h1, fun s hs => ?_⟩
  have h4 := h3 s hs
  have h5 := h4
  unfold stepB at h5
  simp only [Bool.and_eq_true, inB_iff] at h5
  exact ⟨by omega, h5.2.1, h4⟩

end Go.Proofs.YtefopnkicllpeaaDoor
