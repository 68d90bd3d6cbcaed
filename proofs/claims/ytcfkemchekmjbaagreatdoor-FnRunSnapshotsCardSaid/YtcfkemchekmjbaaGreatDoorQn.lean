/- Merged (what the law reaches): RunK, RunK2, HoldM, LockM, SnapK. -/
import Derived.Test.YtcfkemchekmjbaaGreatDoorQm
namespace Go.Proofs.YtcfkemchekmjbaaGreatDoor
abbrev LockSt := List Tx × List Int × List Int
/-- The store behind a commit; the locks given back. -/
def commitS (os : List T3) (st : List Int) : List Int := [seesV os st 0, seesV os st 1, seesV os st 2]
def freeO (n : Nat) (ow : List Int) : List Int := ow.map fun x => if x = (n : Int) + 1 then 0 else x
def lockV (os : List T3) (st : List Int) (n : Nat) (s : T3) : Int := if s.1 = 2 then valOf n os.length else seesV os st s.2.1.toNat
def lockO (os : List T3) (st : List Int) (n : Nat) (s : T3) : T3 := (s.1, s.2.1, lockV os st n s)
/-- What holds of a state. -/
structure LockI (ds : Ds) (S : LockSt) : Prop where
  fits : Fits ds S.1
  vals : Vals S.2.1
  olen : S.2.2.length = 3
  obd : ∀ x ∈ S.2.2, 0 ≤ x ∧ x ≤ 4
  ops : ∀ (n : Nat) (t : Tx), S.1[n]? = some t → ∀ o ∈ t.2.1, opB o = true
  held : ∀ (n : Nat) (t : Tx) (d : Int × List T3), S.1[n]? = some t → ds[n]? = some d → t.2.1.length < d.2.length → ∀ (key : Nat) (o : T3), lastO t.2.1 (key : Int) = some o →
    S.2.2.getD key 0 = (n : Int) + 1 ∧ o.2.2 = seesV t.2.1 S.2.1 key
theorem LockI.zero {ds : Ds} (h : ∀ d ∈ ds, draftB d = true) : LockI ds (emptyT ds, [0, 0, 0], [0, 0, 0]) := by
  refine ⟨Fits.empty h, Vals.zero, rfl, fun x hx => by simp at hx; omega, fun n t ht o ho => ?_, fun n t d ht hd hl key o ho => ?_⟩
  · unfold emptyT at ht
    rw [List.getElem?_map] at ht
    cases hd : ds[n]? <;> rw [hd] at ht <;> simp at ht
    subst ht; simp at ho
  · unfold emptyT at ht
    rw [List.getElem?_map, hd] at ht
    injection ht with ht; subst ht
    simp [lastO] at ho
theorem seesV_bd {os : List T3} {st : List Int} (hv : Vals st) (ho : ∀ o ∈ os, opB o = true) (key : Nat) : 0 ≤ seesV os st key ∧ seesV os st key ≤ 99 := by
  unfold seesV
  cases h : lastK os (key : Int) with
  | some o =>
    have h1 := ho o (lastK_some h).1
    unfold opB at h1
    simp only [Bool.and_eq_true] at h1
    exact (inB_iff _ _ _).1 h1.2.2.1
  | none =>
    show 0 ≤ st.getD key 0 ∧ st.getD key 0 ≤ 99
    by_cases hk : key < st.length
    · have : st.getD key 0 = st[key] := by simp [List.getD, List.getElem?_eq_getElem hk]
      rw [this]; exact hv.2 _ (List.getElem_mem hk)
    · have : st.getD key 0 = 0 := by simp [List.getD, List.getElem?_eq_none (Nat.le_of_not_lt hk)]
      rw [this]; omega
theorem Vals.commit {os : List T3} {st : List Int} (hv : Vals st) (ho : ∀ o ∈ os, opB o = true) : Vals (commitS os st) :=
  ⟨rfl, fun v h => by
    simp [commitS] at h
    rcases h with rfl | rfl | rfl <;> exact seesV_bd hv ho _⟩
theorem lockO_ok {os : List T3} {st : List Int} {n : Nat} {s : T3} (hv : Vals st) (ho : ∀ o ∈ os, opB o = true) (hn : n < 4) (ha : os.length < 4) (hk : s.1 = 1 ∨ s.1 = 2) (hy : 0 ≤ s.2.1 ∧ s.2.1 ≤ 2) : opB (lockO os st n s) = true := by
  have h1 := valOf_bd hn ha
  have h2 := seesV_bd hv ho s.2.1.toNat
  have h3 : 0 < valOf n os.length := by unfold valOf; omega
  unfold opB lockO lockV
  simp only [Bool.and_eq_true, inB_iff, Bool.or_eq_true, beq_iff_eq, decide_eq_true_eq]
  rcases hk with e | e
  · rw [e, if_neg (by omega)]; exact ⟨by omega, hy, h2, .inl rfl⟩
  · rw [e, if_pos rfl]; exact ⟨by omega, hy, h1, .inr h3⟩
/-- What the reference computes for a read, and what the program does. -/
theorem LockI.own {ds : Ds} {S : LockSt} (h : LockI ds S) {n : Nat} {t : Tx} {d : Int × List T3} (ht : S.1[n]? = some t) (hd : ds[n]? = some d) (hl : t.2.1.length < d.2.length) (key : Nat) :
    ownV t.2.1 key (S.2.1.getD key 0) = seesV t.2.1 S.2.1 key := by
  unfold ownV
  cases e : lastO t.2.1 (key : Int) with
  | some o => exact (h.held n t d ht hd hl key o e).2
  | none =>
    show S.2.1.getD key 0 = seesV t.2.1 S.2.1 key
    unfold seesV
    cases e2 : lastK t.2.1 (key : Int) with
    | none => rfl
    | some o =>
      exfalso
      obtain ⟨h1, h2, h3⟩ := lastK_some e2
      unfold lastO at e
      rw [List.find?_eq_none] at e
      exact e o (List.mem_reverse.2 h1) (by simpa using h3)
theorem getD_set (xs : List Int) (i j : Nat) (v : Int) (hi : i < xs.length) : (xs.set i v).getD j 0 = if i = j then v else xs.getD j 0 := by
  simp only [List.getD_eq_getElem?_getD]
  by_cases e : i = j
  · subst e; rw [if_pos rfl, List.getElem?_set_self hi]; rfl
  · rw [if_neg e, List.getElem?_set_ne e]
theorem getD_free (n : Nat) (ow : List Int) (j : Nat) : (freeO n ow).getD j 0 = if ow.getD j 0 = (n : Int) + 1 then 0 else ow.getD j 0 := by
  unfold freeO
  simp only [List.getD_eq_getElem?_getD, List.getElem?_map]
  cases h : ow[j]? with
  | none => simp
  | some x => simp
theorem getD_commit (os : List T3) (st : List Int) (hst : st.length = 3) (hos : ∀ o ∈ os, opB o = true) (j : Nat) : (commitS os st).getD j 0 = seesV os st j := by
  match j with
  | 0 => rfl
  | 1 => rfl
  | 2 => rfl
  | j + 3 =>
    have h1 : (commitS os st).getD (j + 3) 0 = 0 := rfl
    rw [h1]
    unfold seesV
    cases e : lastK os ((j + 3 : Nat) : Int) with
    | none => simp [List.getD, List.getElem?_eq_none (show st.length ≤ j + 3 by omega)]
    | some o =>
      obtain ⟨a, b, c⟩ := lastK_some e
      have := hos o a
      unfold opB at this
      simp only [Bool.and_eq_true] at this
      have := (inB_iff _ _ _).1 this.2.1
      omega
end Go.Proofs.YtcfkemchekmjbaaGreatDoor

namespace Go.Proofs.YtcfkemchekmjbaaGreatDoor
theorem LockI.pre {ds : Ds} {S : LockSt} (h : LockI ds S) {n : Nat} {t : Tx} {d : Int × List T3} {s : T3} (ht : S.1[n]? = some t) (hd : ds[n]? = some d) (hl : t.2.1.length < d.2.length) (hy : 0 ≤ s.2.1 ∧ s.2.1 ≤ 2)
    (hw : ¬ (S.2.2.getD s.2.1.toNat 0 ≠ 0 ∧ S.2.2.getD s.2.1.toNat 0 ≠ (n : Int) + 1)) (dn : Bool) :
    ∀ (n' : Nat) (t' : Tx) (d' : Int × List T3), (S.1.set n (t.1, t.2.1 ++ [lockO t.2.1 S.2.1 n s], dn))[n']? = some t' → ds[n']? = some d' → (n' = n ∨ t'.2.1.length < d'.2.length) →
      ∀ (key : Nat) (o : T3), lastO t'.2.1 (key : Int) = some o → (S.2.2.set s.2.1.toNat ((n : Int) + 1)).getD key 0 = (n' : Int) + 1 ∧ o.2.2 = seesV t'.2.1 S.2.1 key := by
  intro n' t' d' ht' hd' hor key o ho
  have hlt : s.2.1.toNat < S.2.2.length := by rw [h.olen]; omega
  rw [getD_set _ _ _ _ hlt]
  by_cases e : n' = n
  · subst e
    rw [List.getElem?_set_self (List.getElem?_eq_some_iff.1 ht).1] at ht'
    injection ht' with ht'; subst ht'
    dsimp only at ho ⊢
    rw [lastO_snoc] at ho
    by_cases ek : s.2.1 = key
    · rw [if_pos (show (lockO t.2.1 S.2.1 n' s).2.1 = key from ek)] at ho
      injection ho with ho; subst ho
      have hk : s.2.1.toNat = key := by omega
      rw [if_pos hk]
      refine ⟨rfl, ?_⟩
      unfold seesV
      rw [lastK_snoc]
      by_cases e2 : s.1 = 2
      · rw [if_pos (And.intro (show (lockO t.2.1 S.2.1 n' s).1 = 2 from e2) (show (lockO t.2.1 S.2.1 n' s).2.1 = (key : Int) from ek))]
      · rw [if_neg (fun h => e2 h.1)]
        show lockV t.2.1 S.2.1 n' s = _
        unfold lockV
        rw [if_neg e2, hk]
        rfl
    · rw [if_neg (show ¬ (lockO t.2.1 S.2.1 n' s).2.1 = key from ek)] at ho
      rw [if_neg (by omega)]
      obtain ⟨h1, h2⟩ := h.held n' t d ht hd hl key o ho
      refine ⟨h1, h2.trans ?_⟩
      unfold seesV
      rw [lastK_snoc, if_neg (fun h => ek h.2)]
  · rw [List.getElem?_set_ne (fun h => e h.symm)] at ht'
    obtain ⟨h1, h2⟩ := h.held n' t' d' ht' hd' (hor.resolve_left e) key o ho
    refine ⟨?_, h2⟩
    by_cases ek : s.2.1.toNat = key
    · exfalso; apply hw; rw [ek, h1]; omega
    · rw [if_neg ek]; exact h1
theorem lastK_lastO {os : List T3} {key : Int} {o : T3} (h : lastK os key = some o) : ∃ p, lastO os key = some p := by
  cases e : lastO os key with
  | some p => exact ⟨p, rfl⟩
  | none =>
    exfalso
    unfold lastO at e
    rw [List.find?_eq_none] at e
    exact e o (List.mem_reverse.2 (lastK_some h).1) (by simpa using (lastK_some h).2.2)
theorem obd_set {xs : List Int} {lo hi v : Int} (h : ∀ x ∈ xs, lo ≤ x ∧ x ≤ hi) (i : Nat) (hv : lo ≤ v ∧ v ≤ hi) : ∀ x ∈ xs.set i v, lo ≤ x ∧ x ≤ hi := fun x hx => by
  rcases List.mem_or_eq_of_mem_set hx with hx | rfl
  · exact h x hx
  · exact hv
theorem obd_free {xs : List Int} {hi : Int} (h : ∀ x ∈ xs, 0 ≤ x ∧ x ≤ hi) (n : Nat) (h0 : 0 ≤ hi) : ∀ x ∈ freeO n xs, 0 ≤ x ∧ x ≤ hi := fun x hx => by
  unfold freeO at hx
  obtain ⟨y, hy, rfl⟩ := List.mem_map.1 hx
  have := h y hy
  split <;> omega
theorem LockI.ops_set {ds : Ds} {S : LockSt} (h : LockI ds S) {n : Nat} {t : Tx} {s : T3} (ht : S.1[n]? = some t) (hn : n < 4) (hl4 : t.2.1.length < 4) (hk : s.1 = 1 ∨ s.1 = 2) (hy : 0 ≤ s.2.1 ∧ s.2.1 ≤ 2) (dn : Bool) :
    ∀ (n' : Nat) (t' : Tx), (S.1.set n (t.1, t.2.1 ++ [lockO t.2.1 S.2.1 n s], dn))[n']? = some t' → ∀ o ∈ t'.2.1, opB o = true := by
  intro n' t' ht' o ho
  by_cases e : n' = n
  · subst e
    rw [List.getElem?_set_self (List.getElem?_eq_some_iff.1 ht).1] at ht'
    injection ht' with ht'; subst ht'
    rcases List.mem_append.1 ho with ho | ho
    · exact h.ops n' t ht o ho
    · obtain rfl := List.mem_singleton.1 ho
      exact lockO_ok h.vals (h.ops n' t ht) hn hl4 hk hy
  · rw [List.getElem?_set_ne (fun h => e h.symm)] at ht'
    exact h.ops n' t' ht' o ho
theorem LockI.more {ds : Ds} {S : LockSt} (h : LockI ds S) {n : Nat} {t : Tx} {d : Int × List T3} {s : T3} (ht : S.1[n]? = some t) (hd : ds[n]? = some d) (hl : t.2.1.length < d.2.length) (hn : n < 4) (hl4 : t.2.1.length < 4)
    (hk : s.1 = 1 ∨ s.1 = 2) (hy : 0 ≤ s.2.1 ∧ s.2.1 ≤ 2) (hw : ¬ (S.2.2.getD s.2.1.toNat 0 ≠ 0 ∧ S.2.2.getD s.2.1.toNat 0 ≠ (n : Int) + 1)) (hm : t.2.1.length + 1 ≠ d.2.length) :
    LockI ds (S.1.set n (t.1, t.2.1 ++ [lockO t.2.1 S.2.1 n s], false), S.2.1, S.2.2.set s.2.1.toNat ((n : Int) + 1)) := by
  have hf := h.fits.step hd ht hl (lockO t.2.1 S.2.1 n s)
  rw [decide_eq_false hm] at hf
  exact ⟨hf, h.vals, by simp [h.olen], obd_set h.obd _ (by omega), h.ops_set ht hn hl4 hk hy false, fun n' t' d' ht' hd' hl' => h.pre ht hd hl hy hw false n' t' d' ht' hd' (.inr hl')⟩
theorem LockI.last {ds : Ds} {S : LockSt} (h : LockI ds S) {n : Nat} {t : Tx} {d : Int × List T3} {s : T3} (ht : S.1[n]? = some t) (hd : ds[n]? = some d) (hl : t.2.1.length < d.2.length) (hn : n < 4) (hl4 : t.2.1.length < 4)
    (hk : s.1 = 1 ∨ s.1 = 2) (hy : 0 ≤ s.2.1 ∧ s.2.1 ≤ 2) (hw : ¬ (S.2.2.getD s.2.1.toNat 0 ≠ 0 ∧ S.2.2.getD s.2.1.toNat 0 ≠ (n : Int) + 1)) (hm : t.2.1.length + 1 = d.2.length) :
    LockI ds (S.1.set n (t.1, t.2.1 ++ [lockO t.2.1 S.2.1 n s], true), commitS (t.2.1 ++ [lockO t.2.1 S.2.1 n s]) S.2.1, freeO n (S.2.2.set s.2.1.toNat ((n : Int) + 1))) := by
  have hf := h.fits.step hd ht hl (lockO t.2.1 S.2.1 n s)
  rw [decide_eq_true hm] at hf
  have hpre := h.pre ht hd hl hy hw true
  have hops := h.ops_set ht hn hl4 hk hy true
  have hself : (S.1.set n (t.1, t.2.1 ++ [lockO t.2.1 S.2.1 n s], true))[n]? = some (t.1, t.2.1 ++ [lockO t.2.1 S.2.1 n s], true) := List.getElem?_set_self (List.getElem?_eq_some_iff.1 ht).1
  have hos := hops n _ hself
  refine ⟨hf, h.vals.commit hos, by simp [freeO, h.olen], obd_free (obd_set h.obd _ (by omega)) n (by omega), hops, fun n' t' d' ht' hd' hl' key o ho => ?_⟩
  by_cases e : n' = n
  · subst e
    have := hself.symm.trans ht'
    injection this with this; subst this
    have := hd.symm.trans hd'
    injection this with this; subst this
    simp at hl'; omega
  · obtain ⟨h1, h2⟩ := hpre n' t' d' ht' hd' (.inr hl') key o ho
    refine ⟨by show (freeO n (S.2.2.set s.2.1.toNat ((n : Int) + 1))).getD key 0 = (n' : Int) + 1; rw [getD_free, h1, if_neg (by omega)], h2.trans ?_⟩
    show seesV t'.2.1 S.2.1 key = seesV t'.2.1 (commitS (t.2.1 ++ [lockO t.2.1 S.2.1 n s]) S.2.1) key
    unfold seesV
    cases ek : lastK t'.2.1 (key : Int) with
    | some p => rfl
    | none =>
      show S.2.1.getD key 0 = (commitS (t.2.1 ++ [lockO t.2.1 S.2.1 n s]) S.2.1).getD key 0
      rw [getD_commit _ _ h.vals.1 hos]
      unfold seesV
      cases e3 : lastK (t.2.1 ++ [lockO t.2.1 S.2.1 n s]) (key : Int) with
      | none => rfl
      | some p =>
        exfalso
        obtain ⟨q, hq⟩ := lastK_lastO e3
        have := (hpre n _ d hself hd (.inl rfl) key q hq).1
        omega
/-- A transaction behind a step is valid. -/
theorem txn_ok {f : Int} {os : List T3} {dn : Bool} (hf : 0 ≤ f ∧ f ≤ 3) (ho : ∀ o ∈ os, opB o = true) (hl : os.length ≤ 4) : txnB (f, os, dn) = true := by
  unfold txnB
  simp only [Bool.and_eq_true, List.all_eq_true, inB_iff, decide_eq_true_eq]
  exact ⟨ho, hf, by omega⟩
theorem LockI.txn {ds : Ds} {S : LockSt} (h : LockI ds S) (hds : ∀ d ∈ ds, draftB d = true) {n : Nat} {t : Tx} {d : Int × List T3} (ht : S.1[n]? = some t) (hd : ds[n]? = some d) : txnB t = true := by
  obtain ⟨h1, h2, h3⟩ := h.fits.2 n d t hd ht
  obtain ⟨_, g2, g3, _⟩ := draftB_parts (hds d (List.mem_of_getElem? hd))
  exact txn_ok (f := t.1) (dn := t.2.2) (by rw [h1]; exact g3) (h.ops n t ht) (Nat.le_trans h2 g2)
/-- The store while a commit goes on: the last writes of the first j. -/
def commitTo (os : List T3) (st : List Int) (j : Nat) : List Int := ((lastW os).take j).foldl (fun st o => st.set o.2.1.toNat o.2.2) st
theorem commitTo_succ {os : List T3} {st : List Int} {j : Nat} {o : T3} (h : (lastW os)[j]? = some o) : commitTo os st (j + 1) = (commitTo os st j).set o.2.1.toNat o.2.2 := foldl_snoc _ _ h
theorem commitTo_all {os : List T3} {st : List Int} (hst : st.length = 3) {j : Nat} (hj : (lastW os).length = j) : commitTo os st j = commitS os st := by
  unfold commitTo
  rw [← hj, List.take_length]
  obtain ⟨a, b, c, rfl⟩ : ∃ a b c, st = [a, b, c] := by
    match st, hst with
    | [a, b, c], _ => exact ⟨a, b, c, rfl⟩
  unfold lastW commitS seesV
  have h0 := fun o => @lastK_some os 0 o
  have h1 := fun o => @lastK_some os 1 o
  have h2 := fun o => @lastK_some os 2 o
  cases e0 : lastK os 0 <;> cases e1 : lastK os 1 <;> cases e2 : lastK os 2 <;> simp_all
end Go.Proofs.YtcfkemchekmjbaaGreatDoor

namespace Go.Proofs.YtcfkemchekmjbaaGreatDoor
open Go.RowKit Go.Maps
def holdB (ow : List Int) (q : Nat) : Bool := !decide (ow.getD q 0 = 0)
def holdV (ow : List Int) (q : Nat) : Int := if ow.getD q 0 = 0 then 0 else ow.getD q 0 - 1
def HoldD (D : DataW Unit) (ow : List Int) : Prop := ∀ q : Nat, q ≤ 2 → Maps.has D (kI q) = holdB ow q ∧ D.atKey (kI q) (.lit (.int .i64 0)) = .lit (.int .i64 (holdV ow q))
def HoldM (w : World) (b n : Nat) (ow : List Int) : Prop := ∃ D : DataW Unit, w.ownsMap Tryz.prog 3 (plainElem Tryz.prog 3) b n D ∧ HoldD D ow
theorem HoldM.zero (w : World) : HoldM (w.alloc (.map #[] 0)) w.heap.size 0 [0, 0, 0] :=
  ⟨_, World.ownsMap_made w _ _ _, fun q hq => by match q, hq with | 0, _ => exact ⟨rfl, rfl⟩ | 1, _ => exact ⟨rfl, rfl⟩ | 2, _ => exact ⟨rfl, rfl⟩⟩
theorem HoldM.lt {w : World} {b n : Nat} {ow : List Int} (h : HoldM w b n ow) : b < w.heap.size := by obtain ⟨D, ho, _⟩ := h; exact ho.lt
theorem HoldM.chg {S : Nat → Prop} {w w' : World} {b n : Nat} {ow : List Int} (h : HoldM w b n ow) (hc : Chg S w w') (hS : ¬ S b) : HoldM w' b n ow := by
  obtain ⟨D, ho, h2⟩ := h
  have hlt := ho.lt
  obtain ⟨es, cl, h3, h4⟩ := ho
  exact ⟨D, ⟨es, cl, (hc.block b hlt hS).trans h3, h4⟩, h2⟩
theorem HoldM.below {w w' : World} {b n : Nat} {ow : List Int} (h : HoldM w b n ow) (hb : Below w.heap.size w w') : HoldM w' b n ow := h.chg (S := fun _ => False) (Chg.of_below hb) id
theorem HoldM.alloc {w : World} {b n : Nat} {ow : List Int} (h : HoldM w b n ow) (o : Obj) : HoldM (w.alloc o) b n ow := h.below ((Below.refl _ _).alloc (Nat.le_refl _) _)
theorem HoldM.mono {w : World} {b n n' : Nat} {ow : List Int} (h : HoldM w b n ow) (hn : n ≤ n') : HoldM w b n' ow := by obtain ⟨D, ho, h2⟩ := h; exact ⟨D, ho.mono hn, h2⟩
theorem HoldM.notT {w : World} {lo n nh b : Nat} {v : Value} {es : List El} {ow : List Int} (h : OT w lo v n es) (hm : HoldM w b nh ow) : ¬ OT.S v es b := fun hk => by
  obtain ⟨D, ⟨es', cl, h3, _⟩, _⟩ := hm
  rcases hk with hk | ⟨j, e, hj, hk⟩
  · rcases h.row.2 with ⟨h1, _⟩ | ⟨g, cap, cur, h1, _, hb, _⟩
    · rw [h1] at hk; simp [Value.ownBlock] at hk
    · rw [h1] at hk
      have e1 : g = b := by have h : some g = some b := hk; injection h
      subst e1
      rw [h3] at hb; injection hb with hb; cases hb
  · rcases (h.own j e hj).1.2 with ⟨h1, _⟩ | ⟨g, cap, cur, h1, _, hb, _⟩
    · rw [h1] at hk; simp [Value.ownBlock] at hk
    · rw [h1] at hk
      have e1 : g = b := by have h : some g = some b := hk; injection h
      subst e1
      rw [h3] at hb; injection hb with hb; cases hb
theorem kI_nat {q q' : Nat} (h : kI q = kI q') : q = q' := by have := kI_inj h; omega
theorem HoldD.put {D : DataW Unit} {ow : List Int} (h : HoldD D ow) (hm : IsMap D) (hl : ow.length = 3) {q : Nat} (hq : q ≤ 2) (x : Nat) : HoldD (D.put (kI q) (.lit (.int .i64 x))) (ow.set q ((x : Int) + 1)) := fun q' hq' => by
  unfold holdB holdV
  rw [getD_set _ _ _ _ (by omega)]
  by_cases e : q = q'
  · subst e
    rw [if_pos rfl, has_put_same hm (show Go.WideAt.IsKeyLit (kI _) from trivial), atKey_put_same hm (show Go.WideAt.IsKeyLit (kI _) from trivial)]
    have h1 : ((x : Int) + 1 = 0) = False := by simp; omega
    simp only [h1]
    refine ⟨by simp, ?_⟩
    rw [if_neg id]
    congr 2; omega
  · rw [if_neg e, has_put_other (fun h => e (kI_nat h).symm), atKey_put_other (fun h => e (kI_nat h).symm)]
    exact h q' hq'
end Go.Proofs.YtcfkemchekmjbaaGreatDoor

namespace Go.Proofs.YtcfkemchekmjbaaGreatDoor
open Go.RowKit Go.Maps
/-- The machine, the store, the locks. -/
structure Lk (w0 : World) (sb : Nat) (A : Option Addr) (n c : Nat) (v : Value) (ts : List Tx) (st ow : List Int) (q : Nat) (es : List El) (wr : World) : Prop where
  mach : Mach wr (w0.heap.size + 1) w0.heap.size A n c v ts es
  store : Blk wr sb 58 (storeC st)
  hold : HoldM wr (sb + 1) q ow
  bel : Below w0.heap.size w0 wr
  le : w0.heap.size < sb
section
variable {w0 wr w' : World} {sb n c q : Nat} {A : Option Addr} {v : Value} {ts : List Tx} {st ow : List Int} {es : List El}
theorem Lk.ne_store (h : Lk w0 sb A n c v ts st ow q es wr) : ¬ OT.S v es sb := h.mach.own.notS h.store (by decide) (by decide)
theorem Lk.ne_hold (h : Lk w0 sb A n c v ts st ow q es wr) : ¬ OT.S v es (sb + 1) := HoldM.notT h.mach.own h.hold
theorem Lk.chg {S : Nat → Prop} (h : Lk w0 sb A n c v ts st ow q es wr) (hc : Chg S wr w') (h0 : ∀ k, S k → w0.heap.size < k) (h1 : ¬ S sb) (h2 : ¬ S (sb + 1)) (h3 : ∀ k, OT.S v es k → ¬ S k) : Lk w0 sb A n c v ts st ow q es w' :=
  ⟨h.mach.chg hc (fun hs => by have := h0 _ hs; omega) h3, h.store.chg hc h1, h.hold.chg hc h2, Chg.below h.bel hc (fun k hk => Nat.le_of_lt (h0 k hk)), h.le⟩
theorem Lk.below (h : Lk w0 sb A n c v ts st ow q es wr) (hb : Below wr.heap.size wr w') : Lk w0 sb A n c v ts st ow q es w' :=
  h.chg (S := fun _ => False) (Chg.of_below hb) (fun _ e => e.elim) id id (fun _ _ => id)
theorem Lk.alloc (h : Lk w0 sb A n c v ts st ow q es wr) (o : Obj) : Lk w0 sb A n c v ts st ow q es (wr.alloc o) := h.below ((Below.refl _ _).alloc (Nat.le_refl _) _)
theorem Lk.mono {q' : Nat} (h : Lk w0 sb A n c v ts st ow q es wr) (hq : q ≤ q') : Lk w0 sb A n c v ts st ow q' es wr := ⟨h.mach, h.store, h.hold.mono hq, h.bel, h.le⟩
/-- A store into a cell of another block. -/
theorem Lk.other {x : Nat} (h : Lk w0 sb A n c v ts st ow q es wr) (hx : sb + 1 < x) (ho : ∀ k, OT.S v es k → k < x) (i : Nat) (u : Value) : Lk w0 sb A n c v ts st ow q es (wr.setCell ⟨x, i, none⟩ u) := by
  have hle := h.le
  exact h.chg (Chg.setCell (S := fun k => k = x) (p := ⟨x, i, none⟩) rfl u) (fun k hk => by omega) (by omega) (by omega) (fun k hk e => by have := ho k hk; omega)
/-- Behind 'did'. -/
theorem Lk.did {ts' : List Tx} {es' : List El} (h : Lk w0 sb A n c v ts st ow q es wr) (M : Mach w' (w0.heap.size + 1) w0.heap.size A n c v ts' es') (hc : Chg (OT.S v es) wr w') : Lk w0 sb A n c v ts' st ow q es' w' :=
  ⟨M, h.store.chg hc h.ne_store, h.hold.chg hc h.ne_hold, Chg.below h.bel hc (fun k hk => by have := (h.mach.own.range k hk).1; omega), h.le⟩
/-- A number stored into the store. -/
theorem Lk.put (h : Lk w0 sb A n c v ts st ow q es wr) (i : Nat) (x : Int) : Lk w0 sb A n c v ts (st.set i x) ow q es (wr.setCell ⟨sb, i, none⟩ (.int .i64 x)) := by
  have hle := h.le
  have hc := Chg.setCell (w := wr) (S := fun k => k = sb) (p := ⟨sb, i, none⟩) rfl (.int .i64 x)
  have K := h.store.set_ i (.int .i64 x)
  rw [storeC_set] at K
  exact ⟨h.mach.chg hc (by omega) (fun k hk e => h.ne_store (e ▸ hk)), K, h.hold.chg hc (by omega), Chg.below h.bel hc (fun k hk => by omega), h.le⟩
/-- The map of the locks turned. -/
theorem Lk.turn {ow' : List Int} {q' : Nat} (h : Lk w0 sb A n c v ts st ow q es wr) (hg : wr.grownBy w' (some (sb + 1))) (hm : HoldM w' (sb + 1) q' ow') : Lk w0 sb A n c v ts st ow' q' es w' := by
  have hle := h.le
  have hc := Chg.of_grown (S := fun k => k = sb + 1) hg (fun k e => by injection e with e; exact e.symm)
  exact ⟨h.mach.chg hc (by omega) (fun k hk e => h.ne_hold (e ▸ hk)), h.store.chg hc (by omega), hm, Chg.below h.bel hc (fun k hk => by omega), h.le⟩
/-- A transaction's mark set. -/
theorem Lk.done {g cg : Nat} (h : Lk w0 sb A n c (.slice (some ⟨g, 0, none⟩) n cg) ts st ow q es wr) {n0 : Nat} {t : Tx} (hn : n0 < n) (ht : ts[n0]? = some t) :
    ∃ es', Lk w0 sb A n c (.slice (some ⟨g, 0, none⟩) n cg) (ts.set n0 (t.1, t.2.1, true)) st ow q es' (wr.setCell ⟨g, n0 * 3 + 2, none⟩ (.bool true)) := by
  obtain ⟨g', cg', Au, cu, hv, hnc, hlg, hgs, he, huc, c1, c2, ho⟩ := h.mach.look hn ht
  obtain ⟨rfl, rfl⟩ : g = g' ∧ cg = cg' := by simpa using hv
  have hle := h.le
  have D12 := h.mach.own.set2 he true
  have hgm : w0.heap.size ≠ g := by omega
  have hgs12 : sb ≠ g := fun e => h.ne_store (.inl (by rw [e]; rfl))
  have hgh12 : sb + 1 ≠ g := fun e => h.ne_hold (.inl (by rw [e]; rfl))
  have hsy := h.mach.says.set_ n0 (t.1, t.2.1, true) (.slice Au t.2.1.length cu) t.2.1.length
  exact ⟨_, ⟨h.mach.box.far (p := ⟨g, n0 * 3 + 2, none⟩) hgm (.bool true), D12, hsy, by omega⟩, h.store.far (p := ⟨g, n0 * 3 + 2, none⟩) hgs12 (.bool true),
    h.hold.chg (Chg.setCell (S := fun k => k = g) (p := ⟨g, n0 * 3 + 2, none⟩) rfl (.bool true)) hgh12, h.bel.setCell (p := ⟨g, n0 * 3 + 2, none⟩) (by show w0.heap.size ≤ g; omega) (.bool true), h.le⟩
end
theorem commitTo_len (os : List T3) (st : List Int) (j : Nat) : (commitTo os st j).length = st.length := by
  unfold commitTo
  generalize (lastW os).take j = l
  induction l generalizing st with
  | nil => rfl
  | cons a l ih => rw [List.foldl_cons, ih]; simp
end Go.Proofs.YtcfkemchekmjbaaGreatDoor

namespace Go.Proofs.YtcfkemchekmjbaaGreatDoor
structure Sn where
  ts : List Tx
  st : List Int
  ver : List Int
  kept : List (List Int)
  began : List (List Int)
/-- With its first step a draft remembers the store and the versions. -/
def snKept (S : Sn) (n : Nat) : List (List Int) := if (opsOf S.ts n).length = 0 then S.kept.set n S.st else S.kept
def snBegan (S : Sn) (n : Nat) : List (List Int) := if (opsOf S.ts n).length = 0 then S.began.set n S.ver else S.began
/-- The versions behind the first j writes. -/
def bumpTo (ver : List Int) (ws : List T3) (j : Nat) : List Int := (ws.take j).foldl (fun v o => v.set o.2.1.toNat (v.getD o.2.1.toNat 0 + 1)) ver
def goodTo (ver beg : List Int) (ws : List T3) (j : Nat) : Bool := (ws.take j).all fun o => ver.getD o.2.1.toNat 0 == beg.getD o.2.1.toNat 0
def snOps (S : Sn) (n : Nat) (s : T3) : List T3 := opsOf S.ts n ++ [lockO (opsOf S.ts n) ((snKept S n).getD n []) n s]
def snap1 (ds : Ds) (S : Sn) (n : Nat) : Sn :=
  match (stepsOf ds n)[(opsOf S.ts n).length]? with
  | none => S
  | some s =>
    if (opsOf S.ts n).length + 1 = (stepsOf ds n).length then
      if goodTo S.ver ((snBegan S n).getD n []) (lastW (snOps S n s)) (lastW (snOps S n s)).length then
        ⟨S.ts.set n (sesOf S.ts n, snOps S n s, true), commitS (snOps S n s) S.st, bumpTo S.ver (lastW (snOps S n s)) (lastW (snOps S n s)).length, snKept S n, snBegan S n⟩
      else ⟨S.ts.set n (sesOf S.ts n, snOps S n s, false), S.st, S.ver, snKept S n, snBegan S n⟩
    else ⟨S.ts.set n (sesOf S.ts n, snOps S n s, false), S.st, S.ver, snKept S n, snBegan S n⟩
def z3 : List Int := [0, 0, 0]
def snap0 (ds : Ds) : Sn := ⟨emptyT ds, z3, z3, [z3, z3, z3, z3], [z3, z3, z3, z3]⟩
def snapR (ds : Ds) (xs : List Int) : Sn := xs.foldl (fun S x => snap1 ds S x.toNat) (snap0 ds)
def snapL (ds : Ds) (xs : List Int) : List Tx := if runB ds xs then (snapR ds xs).ts else []
theorem snapR_snoc {ds : Ds} {xs : List Int} {k : Nat} {x : Int} (h : xs[k]? = some x) : snapR ds (xs.take (k + 1)) = snap1 ds (snapR ds (xs.take k)) x.toNat := foldl_snoc _ _ h
section
variable {ds : Ds} {S : Sn} {n : Nat} {d : Int × List T3} {t : Tx} {s : T3}
/-- The operation that a step does. -/
def snO (S : Sn) (n : Nat) (t : Tx) (s : T3) : T3 := lockO t.2.1 ((snKept S n).getD n []) n s
theorem snap1_none (hs : stepsOf ds n = d.2) (ho : opsOf S.ts n = t.2.1) (hl : t.2.1.length = d.2.length) : snap1 ds S n = S := by
  unfold snap1; rw [hs, ho, hl, List.getElem?_eq_none (Nat.le_refl _)]
theorem snap1_more (hs : stepsOf ds n = d.2) (ho : opsOf S.ts n = t.2.1) (he : sesOf S.ts n = t.1) (hl : d.2[t.2.1.length]? = some s) (hm : t.2.1.length + 1 ≠ d.2.length) :
    snap1 ds S n = ⟨S.ts.set n (t.1, t.2.1 ++ [snO S n t s], false), S.st, S.ver, snKept S n, snBegan S n⟩ := by
  unfold snap1 snOps; rw [hs, ho, he, hl]; simp only []; rw [if_neg hm]; rfl
theorem snap1_bad (hs : stepsOf ds n = d.2) (ho : opsOf S.ts n = t.2.1) (he : sesOf S.ts n = t.1) (hl : d.2[t.2.1.length]? = some s) (hm : t.2.1.length + 1 = d.2.length)
    (hg : goodTo S.ver ((snBegan S n).getD n []) (lastW (t.2.1 ++ [snO S n t s])) (lastW (t.2.1 ++ [snO S n t s])).length = false) :
    snap1 ds S n = ⟨S.ts.set n (t.1, t.2.1 ++ [snO S n t s], false), S.st, S.ver, snKept S n, snBegan S n⟩ := by
  unfold snO at hg ⊢
  unfold snap1 snOps; rw [hs, ho, he, hl]; simp only []; rw [if_pos hm, hg]; rfl
theorem snap1_good (hs : stepsOf ds n = d.2) (ho : opsOf S.ts n = t.2.1) (he : sesOf S.ts n = t.1) (hl : d.2[t.2.1.length]? = some s) (hm : t.2.1.length + 1 = d.2.length)
    (hg : goodTo S.ver ((snBegan S n).getD n []) (lastW (t.2.1 ++ [snO S n t s])) (lastW (t.2.1 ++ [snO S n t s])).length = true) :
    snap1 ds S n = ⟨S.ts.set n (t.1, t.2.1 ++ [snO S n t s], true), commitS (t.2.1 ++ [snO S n t s]) S.st, bumpTo S.ver (lastW (t.2.1 ++ [snO S n t s])) (lastW (t.2.1 ++ [snO S n t s])).length, snKept S n, snBegan S n⟩ := by
  unfold snO at hg ⊢
  unfold snap1 snOps; rw [hs, ho, he, hl]; simp only []; rw [if_pos hm, hg]; rfl
end
theorem bumpTo_succ {ver : List Int} {ws : List T3} {j : Nat} {o : T3} (h : ws[j]? = some o) : bumpTo ver ws (j + 1) = (bumpTo ver ws j).set o.2.1.toNat ((bumpTo ver ws j).getD o.2.1.toNat 0 + 1) := foldl_snoc _ _ h
theorem goodTo_succ {ver beg : List Int} {ws : List T3} {j : Nat} {o : T3} (h : ws[j]? = some o) : goodTo ver beg ws (j + 1) = (goodTo ver beg ws j && (ver.getD o.2.1.toNat 0 == beg.getD o.2.1.toNat 0)) := by
  unfold goodTo
  rw [List.take_add_one, h, List.all_append]
  simp
theorem bumpTo_len (ver : List Int) (ws : List T3) (j : Nat) : (bumpTo ver ws j).length = ver.length := by
  unfold bumpTo
  generalize ws.take j = l
  induction l generalizing ver with
  | nil => rfl
  | cons a l ih => rw [List.foldl_cons, ih]; simp
theorem bumpTo_le (ver : List Int) (ws : List T3) (key : Nat) : ∀ j, ver.getD key 0 ≤ (bumpTo ver ws j).getD key 0 ∧ (bumpTo ver ws j).getD key 0 ≤ ver.getD key 0 + j := by
  intro j
  induction j with
  | zero => simp [bumpTo]
  | succ j ih =>
    cases h : ws[j]? with
    | none =>
      have : bumpTo ver ws (j + 1) = bumpTo ver ws j := by unfold bumpTo; rw [List.take_add_one, h]; simp
      rw [this]; omega
    | some o =>
      rw [bumpTo_succ h]
      by_cases hk : o.2.1.toNat < (bumpTo ver ws j).length
      · rw [getD_set _ _ _ _ hk]
        by_cases e : o.2.1.toNat = key
        · rw [if_pos e, e]; omega
        · rw [if_neg e]; omega
      · rw [List.set_eq_of_length_le (by omega)]; omega
theorem lastW_len (os : List T3) : (lastW os).length ≤ 3 := by
  unfold lastW
  cases lastK os 0 <;> cases lastK os 1 <;> cases lastK os 2 <;> simp
theorem snKept_len (S : Sn) (n : Nat) : (snKept S n).length = S.kept.length := by unfold snKept; split <;> simp
theorem snBegan_len (S : Sn) (n : Nat) : (snBegan S n).length = S.began.length := by unfold snBegan; split <;> simp
/-- As the plan, and not committed ahead of its end. -/
def FitN (ds : Ds) (ts : List Tx) : Prop := ts.length = ds.length ∧ ∀ (n : Nat) (d : Int × List T3) (t : Tx), ds[n]? = some d → ts[n]? = some t → t.1 = d.1 ∧ t.2.1.length ≤ d.2.length ∧ (t.2.1.length < d.2.length → t.2.2 = false)
theorem FitN.empty {ds : Ds} : FitN ds (emptyT ds) := by
  refine ⟨by simp [emptyT], fun n d t hd ht => ?_⟩
  unfold emptyT at ht
  rw [List.getElem?_map, hd] at ht
  injection ht with ht; subst ht
  exact ⟨rfl, Nat.zero_le _, fun _ => rfl⟩
theorem FitN.at_ {ds : Ds} {ts : List Tx} (h : FitN ds ts) {n : Nat} (hn : n < ds.length) : ∃ d t, ds[n]? = some d ∧ ts[n]? = some t ∧ stepsOf ds n = d.2 ∧ opsOf ts n = t.2.1 ∧ sesOf ts n = t.1 ∧ t.2.1.length ≤ d.2.length ∧ (t.2.1.length < d.2.length → t.2.2 = false) := by
  have hd : ds[n]? = some ds[n] := List.getElem?_eq_getElem hn
  have ht : ts[n]? = some (ts[n]'(by rw [h.1]; exact hn)) := List.getElem?_eq_getElem _
  obtain ⟨h1, h2, h3⟩ := h.2 n _ _ hd ht
  refine ⟨_, _, hd, ht, ?_, ?_, ?_, h2, h3⟩
  · unfold stepsOf; rw [List.getD_eq_getElem?_getD, hd]; rfl
  · unfold opsOf; rw [List.getD_eq_getElem?_getD, ht]; rfl
  · unfold sesOf; rw [List.getD_eq_getElem?_getD, ht]; rfl
theorem FitN.step {ds : Ds} {ts : List Tx} (h : FitN ds ts) {n : Nat} {d : Int × List T3} {t : Tx} (hd : ds[n]? = some d) (ht : ts[n]? = some t) (hl : t.2.1.length < d.2.length) (o : T3) {dn : Bool} (hdn : t.2.1.length + 1 < d.2.length → dn = false) : FitN ds (ts.set n (t.1, t.2.1 ++ [o], dn)) := by
  refine ⟨by rw [List.length_set]; exact h.1, fun n' d' t' hd' ht' => ?_⟩
  by_cases e : n = n'
  · subst e
    rw [List.getElem?_set_self (List.getElem?_eq_some_iff.1 ht).1] at ht'
    injection ht' with ht'; subst ht'
    have := hd.symm.trans hd'
    injection this with this; subst this
    exact ⟨(h.2 n _ _ hd ht).1, by simp; omega, fun hx => hdn (by simpa using hx)⟩
  · rw [List.getElem?_set_ne e] at ht'
    exact h.2 n' d' t' hd' ht'
theorem FitN.four {ms : Ds} {xs : List Int} {ts : List Tx} (h : FitN ms ts) (hr : runB ms xs = true) : Lean4 ts := by
  obtain ⟨hn, hdb, _, _⟩ := runB_parts hr
  refine ⟨by rw [h.1]; exact hn, fun t ht => ?_⟩
  obtain ⟨i, hi, he⟩ := List.mem_iff_getElem.1 ht
  have h1 : ts[i]? = some t := by rw [← he]; exact List.getElem?_eq_getElem hi
  obtain ⟨d, t', h2, h3, _, _, _, h4, _⟩ := h.at_ (n := i) (by rw [← h.1]; exact hi)
  rw [h1] at h3; injection h3 with h3; subst h3
  have := (draftB_parts (hdb d (List.mem_of_getElem? h2))).2.1
  omega
/-- What holds of a state. -/
structure SnI (ds : Ds) (S : Sn) : Prop where
  fits : FitN ds S.ts
  vals : Vals S.st
  vlen : S.ver.length = 3
  klen : S.kept.length = 4
  blen : S.began.length = 4
  kvals : ∀ x ∈ S.kept, Vals x
  b3 : ∀ x ∈ S.began, x.length = 3
  ops : ∀ (n : Nat) (t : Tx), S.ts[n]? = some t → ∀ o ∈ t.2.1, opB o = true
  held : ∀ (n : Nat) (t : Tx) (d : Int × List T3), S.ts[n]? = some t → ds[n]? = some d → t.2.1.length < d.2.length → ∀ (key : Nat) (o : T3), lastO t.2.1 (key : Int) = some o → o.2.2 = seesV t.2.1 (S.kept.getD n []) key
  vers : ∀ n key : Nat, (S.began.getD n []).getD key 0 ≤ S.ver.getD key 0
theorem SnI.zero (ds : Ds) : SnI ds (snap0 ds) := by
  refine ⟨FitN.empty, Vals.zero, rfl, rfl, rfl, fun x hx => ?_, fun x hx => ?_, fun n t ht o ho => ?_, fun n t d ht hd hl key o ho => ?_, fun n key => ?_⟩
  · have : x = z3 := by simpa [snap0] using hx
    rw [this]; exact Vals.zero
  · have : x = z3 := by simpa [snap0] using hx
    rw [this]; rfl
  · exfalso
    have ht' : (emptyT ds)[n]? = some t := ht
    unfold emptyT at ht'
    rw [List.getElem?_map] at ht'
    cases hd : ds[n]? <;> rw [hd] at ht' <;> simp at ht'
    subst ht'; simp at ho
  · have ht' : (emptyT ds)[n]? = some t := ht
    unfold emptyT at ht'
    rw [List.getElem?_map, hd] at ht'
    injection ht' with ht'; subst ht'
    simp [lastO] at ho
  · show (([z3, z3, z3, z3] : List (List Int)).getD n []).getD key 0 ≤ z3.getD key 0
    match n with
    | 0 => exact Int.le_refl _
    | 1 => exact Int.le_refl _
    | 2 => exact Int.le_refl _
    | 3 => exact Int.le_refl _
    | n + 4 =>
      have h1 : (([z3, z3, z3, z3] : List (List Int)).getD (n + 4) []) = [] := rfl
      rw [h1]
      match key with
      | 0 => exact Int.le_refl _
      | 1 => exact Int.le_refl _
      | 2 => exact Int.le_refl _
      | k + 3 => exact Int.le_refl _
end Go.Proofs.YtcfkemchekmjbaaGreatDoor
