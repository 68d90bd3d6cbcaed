/- Histories of reads: valid, and nothing meets; pairs are few (plain). A row of transactions whose operations lie in rows of their own. -/
import Derived.Test.YtipmfpfmhgdgdaaDoorMeetI
import Derived.Test.YtipmfpfmhgdgdaaDoorMeetS
import Derived.Test.YtipmfpfmhgdgdaaDoorDrawH
import Derived.Test.YtipmfpfmhgdgdaaDoorFirst
namespace Go.Proofs.YtipmfpfmhgdgdaaDoor
open Go.RowKit

theorem meetsR_le (ts : List Tx) : ∀ l : List Int, 2 * meetsR ts l + l.length ≤ l.length * l.length
  | [] => by simp [meetsR]
  | a :: l => by
    have h1 := meetsR_le ts l
    have h2 : cntM ts a l ≤ l.length := List.length_filter_le _ _
    simp only [meetsR, List.length_cons, Nat.add_mul, Nat.mul_add, Nat.one_mul, Nat.mul_one]
    omega
theorem doneTo_le (ts : List Tx) : ∀ k, (doneTo ts k).length ≤ k
  | 0 => by simp [doneTo]
  | k + 1 => by
    have := doneTo_le ts k
    simp only [doneTo, List.length_append]
    split <;> simp <;> omega
theorem pairs_le (ts : List Tx) (h : ts.length ≤ 6) : meetsL ts (doneL ts) ≤ 36 ∧ 2 * (meetsL ts (doneL ts) : Int) ≤ ((doneL ts).length : Int) * (((doneL ts).length : Int) - 1) ∧ (doneL ts).length ≤ 6 := by
  have h1 := meetsR_le ts (doneL ts).reverse
  rw [List.length_reverse] at h1
  have h2 := doneTo_le ts ts.length
  have h3 : (doneL ts).length ≤ 6 := Nat.le_trans h2 h
  unfold meetsL
  generalize meetsR ts (doneL ts).reverse = m at *
  generalize (doneL ts).length = l at *
  have hl : l = 0 ∨ l = 1 ∨ l = 2 ∨ l = 3 ∨ l = 4 ∨ l = 5 ∨ l = 6 := by omega
  rcases hl with rfl | rfl | rfl | rfl | rfl | rfl | rfl <;> refine ⟨by omega, by omega, by omega⟩
/-- rs: of the first k transactions some reads. -/
def FR (ts rs : List Tx) (k : Nat) : Prop := rs.length = k ∧ ∀ i, i < k → ∃ f ys d zs, ts[i]? = some (f, ys, d) ∧ rs[i]? = some (f, zs, d) ∧ zs.length ≤ ys.length ∧ ∀ o ∈ zs, o ∈ ys ∧ o.1 = 1
theorem FR.zero (ts : List Tx) : FR ts [] 0 := ⟨rfl, fun i hi => absurd hi (by omega)⟩
theorem FR.snoc {ts rs : List Tx} {k : Nat} {f : Int} {ys zs : List T3} {d : Bool} (h : FR ts rs k) (ht : ts[k]? = some (f, ys, d)) (hl : zs.length ≤ ys.length) (hz : ∀ o ∈ zs, o ∈ ys ∧ o.1 = 1) : FR ts (rs ++ [(f, zs, d)]) (k + 1) := by
  have hk := h.1
  refine ⟨by simp [hk], fun i hi => ?_⟩
  by_cases e : i < k
  · obtain ⟨f', ys', d', zs', h1, h2, h3⟩ := h.2 i e
    exact ⟨f', ys', d', zs', h1, by rw [List.getElem?_append_left (by omega)]; exact h2, h3⟩
  · obtain rfl : i = k := by omega
    exact ⟨f, ys, d, zs, ht, by rw [List.getElem?_append_right (by omega), hk]; simp, hl, hz⟩
theorem FR.reads {ts rs : List Tx} {k : Nat} (h : FR ts rs k) : ∀ t ∈ rs, ∀ o ∈ t.2.1, o.1 = 1 := fun t ht o ho => by
  obtain ⟨i, hi, rfl⟩ := List.mem_iff_getElem.1 ht
  obtain ⟨f, ys, d, zs, h1, h2, h3, h4⟩ := h.2 i (by have := h.1; omega)
  rw [List.getElem?_eq_getElem hi] at h2
  injection h2 with h2
  rw [h2] at ho
  exact (h4 o ho).2
theorem FR.hist {ts rs : List Tx} {k : Nat} (h : FR ts rs k) (hk : ts.length = k) (hv : histB ts = true) : histB rs = true := by
  unfold histB at hv ⊢
  simp only [Bool.and_eq_true, decide_eq_true_eq] at hv ⊢
  refine ⟨by rw [h.1, ← hk]; exact hv.1, ?_, ?_⟩
  · rw [List.all_eq_true]
    intro t ht
    obtain ⟨i, hi, rfl⟩ := List.mem_iff_getElem.1 ht
    obtain ⟨f, ys, d, zs, h1, h2, h3, h4⟩ := h.2 i (by have := h.1; omega)
    rw [List.getElem?_eq_getElem hi] at h2
    injection h2 with h2
    rw [h2]
    have hy := List.all_eq_true.1 hv.2.1 _ (List.mem_of_getElem? h1)
    unfold txnB at hy ⊢
    simp only [Bool.and_eq_true, decide_eq_true_eq] at hy ⊢
    exact ⟨List.all_eq_true.2 (fun o ho => List.all_eq_true.1 hy.1 o (h4 o ho).1), hy.2.1, by have := hy.2.2; omega⟩
  · have : wl (allOps rs) = [] := by
      unfold wl
      rw [List.filterMap_eq_nil_iff]
      intro o ho
      unfold allOps at ho
      obtain ⟨t, ht, ho⟩ := List.mem_flatMap.1 ho
      have := h.reads t ht o ho
      unfold wOf; rw [this]; rfl
    rw [this]; exact List.Pairwise.nil
theorem reads_meet {rs : List Tx} (h : ∀ t ∈ rs, ∀ o ∈ t.2.1, o.1 = 1) (a b : Int) : meetB (opsAt rs a) (opsAt rs b) = false := by
  have hop : ∀ (x : Int), ∀ o ∈ opsAt rs x, o.1 = 1 := fun x o ho => by
    unfold opsAt opsOf at ho
    rw [List.getD_eq_getElem?_getD] at ho
    cases hx : rs[x.toNat]? with
    | none => rw [hx] at ho; simp at ho
    | some t => rw [hx] at ho; exact h t (List.mem_of_getElem? hx) o ho
  refine meetB_none fun o ho => ?_
  rw [List.any_eq_false]
  intro p hp
  unfold hitB
  rw [hop a o ho, hop b p hp]
  simp
theorem reads_none {rs : List Tx} (h : ∀ t ∈ rs, ∀ o ∈ t.2.1, o.1 = 1) : ∀ l : List Int, meetsR rs l = 0
  | [] => rfl
  | a :: l => by
    have hc : cntM rs a l = 0 := by
      unfold cntM
      rw [List.length_eq_zero_iff, List.filter_eq_nil_iff]
      intro b _
      rw [reads_meet h]; simp
    simp [meetsR, reads_none h l, hc]
theorem FR.meet {ts rs : List Tx} {k : Nat} (h : FR ts rs k) (hk : ts.length = k) (hv : histB ts = true) : meetV rs = 0 := by
  unfold meetV meetsL
  rw [h.hist hk hv, if_pos rfl, reads_none h.reads]; rfl
theorem FR.ops {ts rs : List Tx} {k : Nat} (h : FR ts rs k) (hk : ts.length = k) (hv : histB ts = true) : ∀ t ∈ rs, t.2.1.length ≤ 6 := fun t ht => by
  have h1 := h.hist hk hv
  unfold histB at h1
  simp only [Bool.and_eq_true, decide_eq_true_eq] at h1
  have := List.all_eq_true.1 h1.2.1 t ht
  unfold txnB at this
  simp only [Bool.and_eq_true, decide_eq_true_eq] at this
  exact this.2.2
theorem allOps_le : ∀ (ts : List Tx) (q : Nat), (∀ t ∈ ts, t.2.1.length ≤ q) → (allOps ts).length ≤ ts.length * q
  | [], q, _ => by simp [allOps]
  | t :: ts, q, h => by
    have h1 := allOps_le ts q (fun t ht => h t (by simp [ht]))
    have h2 := h t (by simp)
    simp only [allOps, List.flatMap_cons, List.length_append, List.length_cons, Nat.add_mul, Nat.one_mul] at *
    omega

end Go.Proofs.YtipmfpfmhgdgdaaDoor
