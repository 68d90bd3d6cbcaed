/- Plans run with locks, as Lean values. -/
import Derived.Test.YtfcfhgophpoibaaDoorLwS2
namespace Go.Proofs.YtfcfhgophpoibaaDoor

abbrev LockSt := List Tx × List Int × List Int
/-- The store behind a commit; the locks given back. -/
def commitS (os : List T3) (st : List Int) : List Int := [seesV os st 0, seesV os st 1, seesV os st 2]
def freeO (n : Nat) (ow : List Int) : List Int := ow.map fun x => if x = (n : Int) + 1 then 0 else x
def lockV (os : List T3) (st : List Int) (n : Nat) (s : T3) : Int := if s.1 = 2 then valOf n os.length else seesV os st s.2.1.toNat
def lockO (os : List T3) (st : List Int) (n : Nat) (s : T3) : T3 := (s.1, s.2.1, lockV os st n s)
def lock1 (ds : Ds) (S : LockSt) (n : Nat) : LockSt :=
  match (stepsOf ds n)[(opsOf S.1 n).length]? with
  | none => S
  | some s =>
    if S.2.2.getD s.2.1.toNat 0 ≠ 0 ∧ S.2.2.getD s.2.1.toNat 0 ≠ (n : Int) + 1 then S
    else (S.1.set n (sesOf S.1 n, opsOf S.1 n ++ [lockO (opsOf S.1 n) S.2.1 n s], decide ((opsOf S.1 n).length + 1 = (stepsOf ds n).length)),
      if (opsOf S.1 n).length + 1 = (stepsOf ds n).length then commitS (opsOf S.1 n ++ [lockO (opsOf S.1 n) S.2.1 n s]) S.2.1 else S.2.1,
      if (opsOf S.1 n).length + 1 = (stepsOf ds n).length then freeO n (S.2.2.set s.2.1.toNat ((n : Int) + 1)) else S.2.2.set s.2.1.toNat ((n : Int) + 1))
def lockR (ds : Ds) (xs : List Int) : LockSt := xs.foldl (fun S x => lock1 ds S x.toNat) (emptyT ds, [0, 0, 0], [0, 0, 0])
def lockL (ds : Ds) (xs : List Int) : List Tx := if runB ds xs then (lockR ds xs).1 else []
theorem lockR_snoc {ds : Ds} {xs : List Int} {k : Nat} {x : Int} (h : xs[k]? = some x) : lockR ds (xs.take (k + 1)) = lock1 ds (lockR ds (xs.take k)) x.toNat := foldl_snoc _ _ h

theorem lock1_none {ds : Ds} {S : LockSt} {n : Nat} {d : Int × List T3} {t : Tx} (hs : stepsOf ds n = d.2) (ho : opsOf S.1 n = t.2.1) (hl : t.2.1.length = d.2.length) : lock1 ds S n = S := by
  unfold lock1; rw [hs, ho, hl, List.getElem?_eq_none (Nat.le_refl _)]
theorem lock1_held {ds : Ds} {S : LockSt} {n : Nat} {d : Int × List T3} {t : Tx} {s : T3} (hs : stepsOf ds n = d.2) (ho : opsOf S.1 n = t.2.1) (hl : d.2[t.2.1.length]? = some s)
    (hw : S.2.2.getD s.2.1.toNat 0 ≠ 0 ∧ S.2.2.getD s.2.1.toNat 0 ≠ (n : Int) + 1) : lock1 ds S n = S := by
  unfold lock1; rw [hs, ho, hl]; simp only []; rw [if_pos hw]
theorem lock1_more {ds : Ds} {S : LockSt} {n : Nat} {d : Int × List T3} {t : Tx} {s : T3} (hs : stepsOf ds n = d.2) (ho : opsOf S.1 n = t.2.1) (he : sesOf S.1 n = t.1) (hl : d.2[t.2.1.length]? = some s)
    (hw : ¬ (S.2.2.getD s.2.1.toNat 0 ≠ 0 ∧ S.2.2.getD s.2.1.toNat 0 ≠ (n : Int) + 1)) (hm : t.2.1.length + 1 ≠ d.2.length) :
    lock1 ds S n = (S.1.set n (t.1, t.2.1 ++ [lockO t.2.1 S.2.1 n s], false), S.2.1, S.2.2.set s.2.1.toNat ((n : Int) + 1)) := by
  unfold lock1; rw [hs, ho, he, hl]; simp only []; rw [if_neg hw, if_neg hm, if_neg hm, decide_eq_false hm]
theorem lock1_last {ds : Ds} {S : LockSt} {n : Nat} {d : Int × List T3} {t : Tx} {s : T3} (hs : stepsOf ds n = d.2) (ho : opsOf S.1 n = t.2.1) (he : sesOf S.1 n = t.1) (hl : d.2[t.2.1.length]? = some s)
    (hw : ¬ (S.2.2.getD s.2.1.toNat 0 ≠ 0 ∧ S.2.2.getD s.2.1.toNat 0 ≠ (n : Int) + 1)) (hm : t.2.1.length + 1 = d.2.length) :
    lock1 ds S n = (S.1.set n (t.1, t.2.1 ++ [lockO t.2.1 S.2.1 n s], true), commitS (t.2.1 ++ [lockO t.2.1 S.2.1 n s]) S.2.1, freeO n (S.2.2.set s.2.1.toNat ((n : Int) + 1))) := by
  unfold lock1; rw [hs, ho, he, hl]; simp only []; rw [if_neg hw, if_pos hm, if_pos hm, decide_eq_true hm]

/-- What holds of a state. -/
structure LockI (ds : Ds) (S : LockSt) : Prop where
  fits : Fits ds S.1
  vals : Vals S.2.1
  olen : S.2.2.length = 3
  obd : ∀ x ∈ S.2.2, 0 ≤ x ∧ x ≤ 4
  ops : ∀ (n : Nat) (t : Tx), S.1[n]? = some t → ∀ o ∈ t.2.1, opB o = true
  held : ∀ (n : Nat) (t : Tx) (d : Int × List T3), S.1[n]? = some t → ds[n]? = some d → t.2.1.length < d.2.length → ∀ (key : Nat) (o : T3), lastO t.2.1 (key : Int) = some o →
    S.2.2.getD key 0 = (n : Int) + 1 ∧ o.2.2 = seesV t.2.1 S.2.1 key
theorem LockI.zero {ds : Ds} (h : ∀ d ∈ ds, draftB d = true) : LockI ds (emptyT ds, [0, 0, 0], [0, 0, 0]) := by
  refine ⟨Fits.empty h, Vals.zero, rfl, fun x hx => by simp at hx; omega, fun n t ht o ho => ?_, fun n t d ht hd hl key o ho => ?_⟩
  · unfold emptyT at ht
    rw [List.getElem?_map] at ht
    cases hd : ds[n]? <;> rw [hd] at ht <;> simp at ht
    subst ht; simp at ho
  · unfold emptyT at ht
    rw [List.getElem?_map, hd] at ht
    injection ht with ht; subst ht
    simp [lastO] at ho
theorem seesV_bd {os : List T3} {st : List Int} (hv : Vals st) (ho : ∀ o ∈ os, opB o = true) (key : Nat) : 0 ≤ seesV os st key ∧ seesV os st key ≤ 99 := by
  unfold seesV
  cases h : lastK os (key : Int) with
  | some o =>
    have h1 := ho o (lastK_some h).1
    unfold opB at h1
    simp only [Bool.and_eq_true] at h1
    exact (inB_iff _ _ _).1 h1.2.2.1
  | none =>
    show 0 ≤ st.getD key 0 ∧ st.getD key 0 ≤ 99
    by_cases hk : key < st.length
    · have : st.getD key 0 = st[key] := by simp [List.getD, List.getElem?_eq_getElem hk]
      rw [this]; exact hv.2 _ (List.getElem_mem hk)
    · have : st.getD key 0 = 0 := by simp [List.getD, List.getElem?_eq_none (Nat.le_of_not_lt hk)]
      rw [this]; omega
theorem Vals.commit {os : List T3} {st : List Int} (hv : Vals st) (ho : ∀ o ∈ os, opB o = true) : Vals (commitS os st) :=
  ⟨rfl, fun v h => by
    simp [commitS] at h
    rcases h with rfl | rfl | rfl <;> exact seesV_bd hv ho _⟩
theorem lockO_ok {os : List T3} {st : List Int} {n : Nat} {s : T3} (hv : Vals st) (ho : ∀ o ∈ os, opB o = true) (hn : n < 4) (ha : os.length < 4) (hk : s.1 = 1 ∨ s.1 = 2) (hy : 0 ≤ s.2.1 ∧ s.2.1 ≤ 2) : opB (lockO os st n s) = true := by
  have h1 := valOf_bd hn ha
  have h2 := seesV_bd hv ho s.2.1.toNat
  have h3 : 0 < valOf n os.length := by unfold valOf; omega
  unfold opB lockO lockV
  simp only [Bool.and_eq_true, inB_iff, Bool.or_eq_true, beq_iff_eq, decide_eq_true_eq]
  rcases hk with e | e
  · rw [e, if_neg (by omega)]; exact ⟨by omega, hy, h2, .inl rfl⟩
  · rw [e, if_pos rfl]; exact ⟨by omega, hy, h1, .inr h3⟩
/-- What the reference computes for a read, and what the program does. -/
theorem LockI.own {ds : Ds} {S : LockSt} (h : LockI ds S) {n : Nat} {t : Tx} {d : Int × List T3} (ht : S.1[n]? = some t) (hd : ds[n]? = some d) (hl : t.2.1.length < d.2.length) (key : Nat) :
    ownV t.2.1 key (S.2.1.getD key 0) = seesV t.2.1 S.2.1 key := by
  unfold ownV
  cases e : lastO t.2.1 (key : Int) with
  | some o => exact (h.held n t d ht hd hl key o e).2
  | none =>
    show S.2.1.getD key 0 = seesV t.2.1 S.2.1 key
    unfold seesV
    cases e2 : lastK t.2.1 (key : Int) with
    | none => rfl
    | some o =>
      exfalso
      obtain ⟨h1, h2, h3⟩ := lastK_some e2
      unfold lastO at e
      rw [List.find?_eq_none] at e
      exact e o (List.mem_reverse.2 h1) (by simpa using h3)
theorem getD_set (xs : List Int) (i j : Nat) (v : Int) (hi : i < xs.length) : (xs.set i v).getD j 0 = if i = j then v else xs.getD j 0 := by
  simp only [List.getD_eq_getElem?_getD]
  by_cases e : i = j
  · subst e; rw [if_pos rfl, List.getElem?_set_self hi]; rfl
  · rw [if_neg e, List.getElem?_set_ne e]
theorem getD_free (n : Nat) (ow : List Int) (j : Nat) : (freeO n ow).getD j 0 = if ow.getD j 0 = (n : Int) + 1 then 0 else ow.getD j 0 := by
  unfold freeO
  simp only [List.getD_eq_getElem?_getD, List.getElem?_map]
  cases h : ow[j]? with
  | none => simp
  | some x => simp
theorem getD_commit (os : List T3) (st : List Int) (hst : st.length = 3) (hos : ∀ o ∈ os, opB o = true) (j : Nat) : (commitS os st).getD j 0 = seesV os st j := by
  match j with
  | 0 => rfl
  | 1 => rfl
  | 2 => rfl
  | j + 3 =>
    have h1 : (commitS os st).getD (j + 3) 0 = 0 := rfl
    rw [h1]
    unfold seesV
    cases e : lastK os ((j + 3 : Nat) : Int) with
    | none => simp [List.getD, List.getElem?_eq_none (show st.length ≤ j + 3 by omega)]
    | some o =>
      obtain ⟨a, b, c⟩ := lastK_some e
      have := hos o a
      unfold opB at this
      simp only [Bool.and_eq_true] at this
      have := (inB_iff _ _ _).1 this.2.1
      omega

end Go.Proofs.YtfcfhgophpoibaaDoor
