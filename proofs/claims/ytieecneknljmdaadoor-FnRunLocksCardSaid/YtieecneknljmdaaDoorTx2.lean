/- Contracts of the laws' own helpers on transactions: eq, mark, held. -/
import Derived.Test.YtieecneknljmdaaDoorTx
import Derived.Deep.RegionHeld3
namespace Go.Proofs.YtieecneknljmdaaDoor
open Go.RowKit

theorem Blk.three {w : World} {g : Nat} {t : TypeId} {a b c : Value} (h : Blk w g t #[a, b, c]) : w.cell? ⟨g, 0, none⟩ = some a ∧ w.cell? ⟨g, 1, none⟩ = some b ∧ w.cell? ⟨g, 2, none⟩ = some c := ⟨h.cell 0, h.cell 1, h.cell 2⟩


def m3 (x : Int) : Bool := decide (x % 3 = 0)
theorem m3_walk (x : Int) (m : Nat) : m3 (x + (m * 3 : Nat)) = (x % 3 == 0) := by unfold m3; rw [Bool.eq_iff_iff, decide_eq_true_iff, beq_iff_eq]; omega
/-- markTxnS writes k, k + 1, .. into it all. -/
def markE : Int → List El → List El
  | _, [] => []
  | k, e :: es => (k, (e.2.1.1, e.2.1.2.1, upFrom (k + 1) (e.2.1.2.1 * 3)), m3 (k + 1 + (e.2.1.2.1 * 3 : Nat))) :: markE (k + 2 + (e.2.1.2.1 * 3 : Nat)) es
def sumE (es : List El) : Nat := (es.map fun e => e.2.1.2.1 * 3 + 2).sum
theorem sumE_take {es : List El} {j : Nat} {e : El} (h : es[j]? = some e) : sumE (es.take (j + 1)) = sumE (es.take j) + e.2.1.2.1 * 3 + 2 := by
  unfold sumE; rw [List.take_add_one, h]; simp; omega
theorem sumE_take_le (es : List El) (j : Nat) : sumE (es.take j) ≤ sumE es := by
  have : es.take j ++ es.drop j = es := List.take_append_drop j es
  have h2 : sumE es = sumE (es.take j) + sumE (es.drop j) := by
    unfold sumE
    rw [← List.sum_append, ← List.map_append, this]
  omega
theorem markE_get : ∀ (es : List El) (k : Int) (j : Nat) (e : El), es[j]? = some e →
    (markE k es)[j]? = some (k + sumE (es.take j), (e.2.1.1, e.2.1.2.1, upFrom (k + sumE (es.take j) + 1) (e.2.1.2.1 * 3)), m3 (k + sumE (es.take j) + 1 + (e.2.1.2.1 * 3 : Nat)))
  | [], k, j, e, h => by simp at h
  | a :: es, k, 0, e, h => by
    simp only [List.getElem?_cons_zero, Option.some.injEq] at h
    subst h; simp [markE, sumE]
  | a :: es, k, j + 1, e, h => by
    simp only [List.getElem?_cons_succ] at h
    have h2 := markE_get es (k + 2 + (a.2.1.2.1 * 3 : Nat)) j e h
    simp only [markE, List.getElem?_cons_succ, h2, List.take_succ_cons]
    have e1 : k + 2 + ((a.2.1.2.1 * 3 : Nat) : Int) + (sumE (es.take j) : Nat) = k + (sumE (a :: es.take j) : Nat) := by unfold sumE; simp; omega
    simp only [e1]
theorem markE_len : ∀ (es : List El) (k : Int), (markE k es).length = es.length
  | [], k => rfl
  | e :: es, k => by simp [markE, markE_len es]
/-- Half marked. -/
def halfE (k : Int) (es : List El) (j : Nat) : List El := markE k (es.take j) ++ es.drop j
theorem halfE_zero (k : Int) (es : List El) : halfE k es 0 = es := by simp [halfE, markE]
theorem halfE_full (k : Int) (es : List El) : halfE k es es.length = markE k es := by simp [halfE]
theorem halfE_at {k : Int} {es : List El} {j : Nat} {e : El} (h : es[j]? = some e) : (halfE k es j)[j]? = some e := by
  have hl := (List.getElem?_eq_some_iff.1 h).1
  unfold halfE
  rw [List.getElem?_append_right (by rw [markE_len]; simp; omega), markE_len, List.length_take, Nat.min_eq_left (by omega), Nat.sub_self, List.getElem?_drop]
  simpa using h
theorem markE_append : ∀ (es fs : List El) (k : Int), markE k (es ++ fs) = markE k es ++ markE (k + sumE es) fs
  | [], fs, k => by simp [markE, sumE]
  | e :: es, fs, k => by
    have e1 : k + 2 + ((e.2.1.2.1 * 3 : Nat) : Int) + (sumE es : Nat) = k + (sumE (e :: es) : Nat) := by unfold sumE; simp; omega
    simp only [List.cons_append, markE, markE_append es fs, e1]
theorem halfE_step {k : Int} {es : List El} {j : Nat} {e : El} (h : es[j]? = some e) :
    (halfE k es j).set j (k + sumE (es.take j), (e.2.1.1, e.2.1.2.1, upFrom (k + sumE (es.take j) + 1) (e.2.1.2.1 * 3)), m3 (k + sumE (es.take j) + 1 + (e.2.1.2.1 * 3 : Nat))) = halfE k es (j + 1) := by
  have hl := (List.getElem?_eq_some_iff.1 h).1
  unfold halfE
  have hm : (markE k (es.take j)).length = j := by rw [markE_len]; simp; omega
  have hd : es.drop j = e :: es.drop (j + 1) := by
    rw [List.drop_eq_getElem_cons hl]
    rw [List.getElem?_eq_getElem hl] at h
    injection h with h
    rw [h]
  rw [List.set_append_right _ _ (by omega), hm, Nat.sub_self, hd, List.set_cons_zero, List.take_add_one, h]
  simp only [Option.toList_some]
  rw [markE_append]
  simp [markE]

theorem set_set {α : Type} (l : List α) (j : Nat) (a b : α) : (l.set j a).set j b = l.set j b := by simp



end Go.Proofs.YtieecneknljmdaaDoor
