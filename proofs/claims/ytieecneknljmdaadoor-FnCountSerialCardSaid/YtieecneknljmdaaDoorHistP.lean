/- Histories that are valid, as Lean values: what is written, and that nothing is written twice. -/
import Derived.Test.YtieecneknljmdaaDoorHistB
namespace Go.Proofs.YtieecneknljmdaaDoor
open Go.RowKit

def wOf (o : T3) : Option (Int × Int) := if o.1 = 2 then some (o.2.1, o.2.2) else none
def wl (os : List T3) : List (Int × Int) := os.filterMap wOf
def allOps (ts : List Tx) : List T3 := ts.flatMap (·.2.1)
/-- All operations before place j of transaction k. -/
def opsTo (ts : List Tx) (k j : Nat) : List T3 := allOps (ts.take k) ++ ((ts.getD k (0, [], false)).2.1).take j
def histB (ts : List Tx) : Bool := decide (ts.length ≤ 6) && (ts.all txnB && decide ((wl (allOps ts)).Nodup))
theorem wl_append (a b : List T3) : wl (a ++ b) = wl a ++ wl b := by simp [wl]
theorem wl_one_w {o : T3} (h : o.1 = 2) : wl [o] = [(o.2.1, o.2.2)] := by simp [wl, wOf, h]
theorem wl_one_r {o : T3} (h : o.1 ≠ 2) : wl [o] = [] := by simp [wl, wOf, h]
theorem allOps_append (a b : List Tx) : allOps (a ++ b) = allOps a ++ allOps b := by simp [allOps]
theorem opsTo_zero (ts : List Tx) : opsTo ts 0 0 = [] := by simp [opsTo, allOps]
theorem opsTo_op {ts : List Tx} {k j : Nat} {t : Tx} {o : T3} (ht : ts[k]? = some t) (ho : t.2.1[j]? = some o) : opsTo ts k (j + 1) = opsTo ts k j ++ [o] := by
  have e : ts.getD k (0, [], false) = t := by simp [List.getD, ht]
  unfold opsTo
  rw [e, List.take_add_one, ho]
  simp
theorem opsTo_next {ts : List Tx} {k j : Nat} {t : Tx} (ht : ts[k]? = some t) (hj : t.2.1.length ≤ j) : opsTo ts (k + 1) 0 = opsTo ts k j := by
  have e : ts.getD k (0, [], false) = t := by simp [List.getD, ht]
  unfold opsTo
  rw [e, List.take_add_one, ht, List.take_of_length_le hj, allOps_append]
  simp [allOps]
theorem opsTo_all {ts : List Tx} {k : Nat} (hk : ts.length ≤ k) : opsTo ts k 0 = allOps ts := by
  unfold opsTo
  rw [List.take_of_length_le hk]; simp
/-- What stands before a place, and what stands behind it. -/
theorem opsTo_split {ts : List Tx} {k : Nat} {t : Tx} (ht : ts[k]? = some t) (j : Nat) : ∃ r, allOps ts = opsTo ts k j ++ r := by
  have e : ts.getD k (0, [], false) = t := by simp [List.getD, ht]
  have h1 : ts = ts.take k ++ t :: ts.drop (k + 1) := by
    have hk := (List.getElem?_eq_some_iff.1 ht)
    obtain ⟨hk, hv⟩ := hk
    rw [← hv, List.getElem_cons_drop, List.take_append_drop]
  refine ⟨t.2.1.drop j ++ allOps (ts.drop (k + 1)), ?_⟩
  have h2 : allOps ts = allOps (ts.take k ++ t :: ts.drop (k + 1)) := congrArg allOps h1
  rw [h2, allOps_append]
  unfold opsTo
  rw [e]
  have h3 : allOps (t :: ts.drop (k + 1)) = t.2.1 ++ allOps (ts.drop (k + 1)) := by simp [allOps]
  rw [h3, List.append_assoc, ← List.append_assoc (t.2.1.take j), List.take_append_drop]
theorem wl_all_split {ts : List Tx} {k j : Nat} {t : Tx} {o : T3} (ht : ts[k]? = some t) (ho : t.2.1[j]? = some o) (hw : o.1 = 2) : ∃ r, wl (allOps ts) = wl (opsTo ts k j) ++ (o.2.1, o.2.2) :: r := by
  obtain ⟨r, hr⟩ := opsTo_split ht (j + 1)
  refine ⟨wl r, ?_⟩
  rw [hr, wl_append, opsTo_op ht ho, wl_append, wl_one_w hw]
  simp
/-- A value that was written before. -/
theorem histB_twice {ts : List Tx} {k j : Nat} {t : Tx} {o : T3} (ht : ts[k]? = some t) (ho : t.2.1[j]? = some o) (hw : o.1 = 2) (hm : (o.2.1, o.2.2) ∈ wl (opsTo ts k j)) : ¬ (wl (allOps ts)).Nodup := by
  obtain ⟨r, hr⟩ := wl_all_split ht ho hw
  rw [hr]
  intro h
  exact (List.nodup_append.1 h).2.2 _ hm _ (List.mem_cons_self ..) rfl
theorem wl_step_w {ts : List Tx} {k j : Nat} {t : Tx} {o : T3} (ht : ts[k]? = some t) (ho : t.2.1[j]? = some o) (hw : o.1 = 2) : wl (opsTo ts k (j + 1)) = wl (opsTo ts k j) ++ [(o.2.1, o.2.2)] := by
  rw [opsTo_op ht ho, wl_append, wl_one_w hw]
theorem wl_step_r {ts : List Tx} {k j : Nat} {t : Tx} {o : T3} (ht : ts[k]? = some t) (ho : t.2.1[j]? = some o) (hw : o.1 ≠ 2) : wl (opsTo ts k (j + 1)) = wl (opsTo ts k j) := by
  rw [opsTo_op ht ho, wl_append, wl_one_r hw]; simp
theorem nodup_snoc {α : Type} {l : List α} {a : α} (h : l.Nodup) (ha : a ∉ l) : (l ++ [a]).Nodup :=
  List.nodup_append.2 ⟨h, by simp, fun x hx y hy e => by simp at hy; subst hy; subst e; exact ha hx⟩
theorem histB_bad {ts : List Tx} {k : Nat} {t : Tx} (ht : ts[k]? = some t) (h : txnB t = false) : histB ts = false := by
  have h1 : ts.all txnB = false := by
    rw [List.all_eq_false]; exact ⟨t, List.mem_of_getElem? ht, by simp [h]⟩
  simp [histB, h1]
theorem histB_parts {ts : List Tx} (h : histB ts = true) : ts.length ≤ 6 ∧ (∀ t ∈ ts, txnB t = true) ∧ (wl (allOps ts)).Nodup := by
  unfold histB at h
  simp only [Bool.and_eq_true, decide_eq_true_eq, List.all_eq_true] at h
  exact h
theorem histB_mk {ts : List Tx} (h1 : ts.length ≤ 6) (h2 : ∀ t ∈ ts, txnB t = true) (h3 : (wl (allOps ts)).Nodup) : histB ts = true := by
  unfold histB
  simp only [Bool.and_eq_true, decide_eq_true_eq, List.all_eq_true]
  exact ⟨h1, h2, h3⟩
/-- The numbers of the committed transactions among the first k. -/
def doneTo (ts : List Tx) : Nat → List Int
  | 0 => []
  | k + 1 => doneTo ts k ++ (if (ts.getD k (0, [], false)).2.2 then [(k : Int)] else [])
theorem doneTo_yes {ts : List Tx} {k : Nat} {t : Tx} (h : ts[k]? = some t) (hb : t.2.2 = true) : doneTo ts (k + 1) = doneTo ts k ++ [(k : Int)] := by
  simp [doneTo, List.getD, h, hb]
theorem doneTo_no {ts : List Tx} {k : Nat} {t : Tx} (h : ts[k]? = some t) (hb : t.2.2 = false) : doneTo ts (k + 1) = doneTo ts k := by
  simp [doneTo, List.getD, h, hb]
theorem doneTo_len (ts : List Tx) (k : Nat) : (doneTo ts k).length ≤ k := by
  induction k with
  | zero => simp [doneTo]
  | succ k ih => simp only [doneTo, List.length_append]; split <;> simp <;> omega
def doneL (ts : List Tx) : List Int := doneTo ts ts.length
theorem txnB_opH {f : Int} {dn : Bool} {ys : List T3} (h : txnB (f, ys, dn) = true) {k : Nat} {o : T3} (hk : ys[k]? = some o) : opB o = true := by
  unfold txnB at h
  simp only [Bool.and_eq_true] at h
  exact List.all_eq_true.1 h.1 o (List.mem_of_getElem? hk)
theorem txnB_lenH {f : Int} {dn : Bool} {ys : List T3} (h : txnB (f, ys, dn) = true) : ys.length ≤ 6 := by
  unfold txnB at h; simp at h; exact h.2.2

end Go.Proofs.YtieecneknljmdaaDoor
