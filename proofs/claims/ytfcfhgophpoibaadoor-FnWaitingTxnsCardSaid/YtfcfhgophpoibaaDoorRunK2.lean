/- A step with locks keeps what holds of a state. -/
import Derived.Test.YtfcfhgophpoibaaDoorRunK
namespace Go.Proofs.YtfcfhgophpoibaaDoor

theorem LockI.pre {ds : Ds} {S : LockSt} (h : LockI ds S) {n : Nat} {t : Tx} {d : Int × List T3} {s : T3} (ht : S.1[n]? = some t) (hd : ds[n]? = some d) (hl : t.2.1.length < d.2.length) (hy : 0 ≤ s.2.1 ∧ s.2.1 ≤ 2)
    (hw : ¬ (S.2.2.getD s.2.1.toNat 0 ≠ 0 ∧ S.2.2.getD s.2.1.toNat 0 ≠ (n : Int) + 1)) (dn : Bool) :
    ∀ (n' : Nat) (t' : Tx) (d' : Int × List T3), (S.1.set n (t.1, t.2.1 ++ [lockO t.2.1 S.2.1 n s], dn))[n']? = some t' → ds[n']? = some d' → (n' = n ∨ t'.2.1.length < d'.2.length) →
      ∀ (key : Nat) (o : T3), lastO t'.2.1 (key : Int) = some o → (S.2.2.set s.2.1.toNat ((n : Int) + 1)).getD key 0 = (n' : Int) + 1 ∧ o.2.2 = seesV t'.2.1 S.2.1 key := by
  intro n' t' d' ht' hd' hor key o ho
  have hlt : s.2.1.toNat < S.2.2.length := by rw [h.olen]; omega
  rw [getD_set _ _ _ _ hlt]
  by_cases e : n' = n
  · subst e
    rw [List.getElem?_set_self (List.getElem?_eq_some_iff.1 ht).1] at ht'
    injection ht' with ht'; subst ht'
    dsimp only at ho ⊢
    rw [lastO_snoc] at ho
    by_cases ek : s.2.1 = key
    · rw [if_pos (show (lockO t.2.1 S.2.1 n' s).2.1 = key from ek)] at ho
      injection ho with ho; subst ho
      have hk : s.2.1.toNat = key := by omega
      rw [if_pos hk]
      refine ⟨rfl, ?_⟩
      unfold seesV
      rw [lastK_snoc]
      by_cases e2 : s.1 = 2
      · rw [if_pos (And.intro (show (lockO t.2.1 S.2.1 n' s).1 = 2 from e2) (show (lockO t.2.1 S.2.1 n' s).2.1 = (key : Int) from ek))]
      · rw [if_neg (fun h => e2 h.1)]
        show lockV t.2.1 S.2.1 n' s = _
        unfold lockV
        rw [if_neg e2, hk]
        rfl
    · rw [if_neg (show ¬ (lockO t.2.1 S.2.1 n' s).2.1 = key from ek)] at ho
      rw [if_neg (by omega)]
      obtain ⟨h1, h2⟩ := h.held n' t d ht hd hl key o ho
      refine ⟨h1, h2.trans ?_⟩
      unfold seesV
      rw [lastK_snoc, if_neg (fun h => ek h.2)]
  · rw [List.getElem?_set_ne (fun h => e h.symm)] at ht'
    obtain ⟨h1, h2⟩ := h.held n' t' d' ht' hd' (hor.resolve_left e) key o ho
    refine ⟨?_, h2⟩
    by_cases ek : s.2.1.toNat = key
    · exfalso; apply hw; rw [ek, h1]; omega
    · rw [if_neg ek]; exact h1
theorem lastK_lastO {os : List T3} {key : Int} {o : T3} (h : lastK os key = some o) : ∃ p, lastO os key = some p := by
  cases e : lastO os key with
  | some p => exact ⟨p, rfl⟩
  | none =>
    exfalso
    unfold lastO at e
    rw [List.find?_eq_none] at e
    exact e o (List.mem_reverse.2 (lastK_some h).1) (by simpa using (lastK_some h).2.2)
theorem obd_set {xs : List Int} {lo hi v : Int} (h : ∀ x ∈ xs, lo ≤ x ∧ x ≤ hi) (i : Nat) (hv : lo ≤ v ∧ v ≤ hi) : ∀ x ∈ xs.set i v, lo ≤ x ∧ x ≤ hi := fun x hx => by
  rcases List.mem_or_eq_of_mem_set hx with hx | rfl
  · exact h x hx
  · exact hv
theorem obd_free {xs : List Int} {hi : Int} (h : ∀ x ∈ xs, 0 ≤ x ∧ x ≤ hi) (n : Nat) (h0 : 0 ≤ hi) : ∀ x ∈ freeO n xs, 0 ≤ x ∧ x ≤ hi := fun x hx => by
  unfold freeO at hx
  obtain ⟨y, hy, rfl⟩ := List.mem_map.1 hx
  have := h y hy
  split <;> omega
theorem LockI.ops_set {ds : Ds} {S : LockSt} (h : LockI ds S) {n : Nat} {t : Tx} {s : T3} (ht : S.1[n]? = some t) (hn : n < 4) (hl4 : t.2.1.length < 4) (hk : s.1 = 1 ∨ s.1 = 2) (hy : 0 ≤ s.2.1 ∧ s.2.1 ≤ 2) (dn : Bool) :
    ∀ (n' : Nat) (t' : Tx), (S.1.set n (t.1, t.2.1 ++ [lockO t.2.1 S.2.1 n s], dn))[n']? = some t' → ∀ o ∈ t'.2.1, opB o = true := by
  intro n' t' ht' o ho
  by_cases e : n' = n
  · subst e
    rw [List.getElem?_set_self (List.getElem?_eq_some_iff.1 ht).1] at ht'
    injection ht' with ht'; subst ht'
    rcases List.mem_append.1 ho with ho | ho
    · exact h.ops n' t ht o ho
    · obtain rfl := List.mem_singleton.1 ho
      exact lockO_ok h.vals (h.ops n' t ht) hn hl4 hk hy
  · rw [List.getElem?_set_ne (fun h => e h.symm)] at ht'
    exact h.ops n' t' ht' o ho
theorem LockI.more {ds : Ds} {S : LockSt} (h : LockI ds S) {n : Nat} {t : Tx} {d : Int × List T3} {s : T3} (ht : S.1[n]? = some t) (hd : ds[n]? = some d) (hl : t.2.1.length < d.2.length) (hn : n < 4) (hl4 : t.2.1.length < 4)
    (hk : s.1 = 1 ∨ s.1 = 2) (hy : 0 ≤ s.2.1 ∧ s.2.1 ≤ 2) (hw : ¬ (S.2.2.getD s.2.1.toNat 0 ≠ 0 ∧ S.2.2.getD s.2.1.toNat 0 ≠ (n : Int) + 1)) (hm : t.2.1.length + 1 ≠ d.2.length) :
    LockI ds (S.1.set n (t.1, t.2.1 ++ [lockO t.2.1 S.2.1 n s], false), S.2.1, S.2.2.set s.2.1.toNat ((n : Int) + 1)) := by
  have hf := h.fits.step hd ht hl (lockO t.2.1 S.2.1 n s)
  rw [decide_eq_false hm] at hf
  exact ⟨hf, h.vals, by simp [h.olen], obd_set h.obd _ (by omega), h.ops_set ht hn hl4 hk hy false, fun n' t' d' ht' hd' hl' => h.pre ht hd hl hy hw false n' t' d' ht' hd' (.inr hl')⟩
theorem LockI.last {ds : Ds} {S : LockSt} (h : LockI ds S) {n : Nat} {t : Tx} {d : Int × List T3} {s : T3} (ht : S.1[n]? = some t) (hd : ds[n]? = some d) (hl : t.2.1.length < d.2.length) (hn : n < 4) (hl4 : t.2.1.length < 4)
    (hk : s.1 = 1 ∨ s.1 = 2) (hy : 0 ≤ s.2.1 ∧ s.2.1 ≤ 2) (hw : ¬ (S.2.2.getD s.2.1.toNat 0 ≠ 0 ∧ S.2.2.getD s.2.1.toNat 0 ≠ (n : Int) + 1)) (hm : t.2.1.length + 1 = d.2.length) :
    LockI ds (S.1.set n (t.1, t.2.1 ++ [lockO t.2.1 S.2.1 n s], true), commitS (t.2.1 ++ [lockO t.2.1 S.2.1 n s]) S.2.1, freeO n (S.2.2.set s.2.1.toNat ((n : Int) + 1))) := by
  have hf := h.fits.step hd ht hl (lockO t.2.1 S.2.1 n s)
  rw [decide_eq_true hm] at hf
  have hpre := h.pre ht hd hl hy hw true
  have hops := h.ops_set ht hn hl4 hk hy true
  have hself : (S.1.set n (t.1, t.2.1 ++ [lockO t.2.1 S.2.1 n s], true))[n]? = some (t.1, t.2.1 ++ [lockO t.2.1 S.2.1 n s], true) := List.getElem?_set_self (List.getElem?_eq_some_iff.1 ht).1
  have hos := hops n _ hself
  refine ⟨hf, h.vals.commit hos, by simp [freeO, h.olen], obd_free (obd_set h.obd _ (by omega)) n (by omega), hops, fun n' t' d' ht' hd' hl' key o ho => ?_⟩
  by_cases e : n' = n
  · subst e
    have := hself.symm.trans ht'
    injection this with this; subst this
    have := hd.symm.trans hd'
    injection this with this; subst this
    simp at hl'; omega
  · obtain ⟨h1, h2⟩ := hpre n' t' d' ht' hd' (.inr hl') key o ho
    refine ⟨by show (freeO n (S.2.2.set s.2.1.toNat ((n : Int) + 1))).getD key 0 = (n' : Int) + 1; rw [getD_free, h1, if_neg (by omega)], h2.trans ?_⟩
    show seesV t'.2.1 S.2.1 key = seesV t'.2.1 (commitS (t.2.1 ++ [lockO t.2.1 S.2.1 n s]) S.2.1) key
    unfold seesV
    cases ek : lastK t'.2.1 (key : Int) with
    | some p => rfl
    | none =>
      show S.2.1.getD key 0 = (commitS (t.2.1 ++ [lockO t.2.1 S.2.1 n s]) S.2.1).getD key 0
      rw [getD_commit _ _ h.vals.1 hos]
      unfold seesV
      cases e3 : lastK (t.2.1 ++ [lockO t.2.1 S.2.1 n s]) (key : Int) with
      | none => rfl
      | some p =>
        exfalso
        obtain ⟨q, hq⟩ := lastK_lastO e3
        have := (hpre n _ d hself hd (.inl rfl) key q hq).1
        omega
/-- A transaction behind a step is valid. -/
theorem txn_ok {f : Int} {os : List T3} {dn : Bool} (hf : 0 ≤ f ∧ f ≤ 3) (ho : ∀ o ∈ os, opB o = true) (hl : os.length ≤ 4) : txnB (f, os, dn) = true := by
  unfold txnB
  simp only [Bool.and_eq_true, List.all_eq_true, inB_iff, decide_eq_true_eq]
  exact ⟨ho, hf, by omega⟩
theorem LockI.txn {ds : Ds} {S : LockSt} (h : LockI ds S) (hds : ∀ d ∈ ds, draftB d = true) {n : Nat} {t : Tx} {d : Int × List T3} (ht : S.1[n]? = some t) (hd : ds[n]? = some d) : txnB t = true := by
  obtain ⟨h1, h2, h3⟩ := h.fits.2 n d t hd ht
  obtain ⟨_, g2, g3, _⟩ := draftB_parts (hds d (List.mem_of_getElem? hd))
  exact txn_ok (f := t.1) (dn := t.2.2) (by rw [h1]; exact g3) (h.ops n t ht) (Nat.le_trans h2 g2)

/-- The store while a commit goes on: the last writes of the first j. -/
def commitTo (os : List T3) (st : List Int) (j : Nat) : List Int := ((lastW os).take j).foldl (fun st o => st.set o.2.1.toNat o.2.2) st
theorem commitTo_zero (os : List T3) (st : List Int) : commitTo os st 0 = st := rfl
theorem commitTo_succ {os : List T3} {st : List Int} {j : Nat} {o : T3} (h : (lastW os)[j]? = some o) : commitTo os st (j + 1) = (commitTo os st j).set o.2.1.toNat o.2.2 := foldl_snoc _ _ h
theorem commitTo_all {os : List T3} {st : List Int} (hst : st.length = 3) {j : Nat} (hj : (lastW os).length = j) : commitTo os st j = commitS os st := by
  unfold commitTo
  rw [← hj, List.take_length]
  obtain ⟨a, b, c, rfl⟩ : ∃ a b c, st = [a, b, c] := by
    match st, hst with
    | [a, b, c], _ => exact ⟨a, b, c, rfl⟩
  unfold lastW commitS seesV
  have h0 := fun o => @lastK_some os 0 o
  have h1 := fun o => @lastK_some os 1 o
  have h2 := fun o => @lastK_some os 2 o
  cases e0 : lastK os 0 <;> cases e1 : lastK os 1 <;> cases e2 : lastK os 2 <;> simp_all

/-- The locks while they are given back: of the keys below j. -/
def freeTo (n : Nat) (ow : List Int) (j : Nat) : List Int := freeO n (ow.take j) ++ ow.drop j
theorem freeTo_zero (n : Nat) (ow : List Int) : freeTo n ow 0 = ow := by simp [freeTo, freeO]
theorem freeTo_all (n : Nat) {ow : List Int} {j : Nat} (h : ow.length = j) : freeTo n ow j = freeO n ow := by subst h; simp [freeTo]
theorem freeTo_at (n : Nat) {ow : List Int} {j : Nat} {x : Int} (h : ow[j]? = some x) : (freeTo n ow j)[j]? = some x := by
  have hj := (List.getElem?_eq_some_iff.1 h).1
  unfold freeTo freeO
  rw [List.getElem?_append_right (by simp; omega)]
  simp [Nat.min_eq_left (Nat.le_of_lt hj), h]
theorem freeTo_keep {n : Nat} {ow : List Int} {j : Nat} {x : Int} (h : ow[j]? = some x) (hx : x ≠ (n : Int) + 1) : freeTo n ow (j + 1) = freeTo n ow j := by
  have hj := (List.getElem?_eq_some_iff.1 h).1
  have hxe := (List.getElem?_eq_some_iff.1 h).2
  unfold freeTo freeO
  rw [List.take_add_one, h, List.map_append, List.drop_eq_getElem_cons hj, hxe]
  simp [hx]
theorem freeTo_free {n : Nat} {ow : List Int} {j : Nat} (h : ow[j]? = some ((n : Int) + 1)) : freeTo n ow (j + 1) = (freeTo n ow j).set j 0 := by
  have hj := (List.getElem?_eq_some_iff.1 h).1
  have hxe := (List.getElem?_eq_some_iff.1 h).2
  unfold freeTo freeO
  rw [List.take_add_one, h, List.map_append, List.set_append_right _ _ (by simp; omega)]
  simp [Nat.min_eq_left (Nat.le_of_lt hj)]
  rw [List.drop_eq_getElem_cons hj]
  rfl

end Go.Proofs.YtfcfhgophpoibaaDoor
