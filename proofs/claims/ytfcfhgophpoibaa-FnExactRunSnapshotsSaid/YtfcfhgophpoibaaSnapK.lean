/- Plans run with snapshots, as Lean values; what holds of a state. -/
import Derived.Test.YtfcfhgophpoibaaRunK2
import Derived.Test.YtfcfhgophpoibaaRunW
namespace Go.Proofs.Ytfcfhgophpoibaa

structure Sn where
  ts : List Tx
  st : List Int
  ver : List Int
  kept : List (List Int)
  began : List (List Int)
/-- With its first step a draft remembers the store and the versions. -/
def snKept (S : Sn) (n : Nat) : List (List Int) := if (opsOf S.ts n).length = 0 then S.kept.set n S.st else S.kept
def snBegan (S : Sn) (n : Nat) : List (List Int) := if (opsOf S.ts n).length = 0 then S.began.set n S.ver else S.began
/-- The versions behind the first j writes. -/
def bumpTo (ver : List Int) (ws : List T3) (j : Nat) : List Int := (ws.take j).foldl (fun v o => v.set o.2.1.toNat (v.getD o.2.1.toNat 0 + 1)) ver
def goodTo (ver beg : List Int) (ws : List T3) (j : Nat) : Bool := (ws.take j).all fun o => ver.getD o.2.1.toNat 0 == beg.getD o.2.1.toNat 0
def snOps (S : Sn) (n : Nat) (s : T3) : List T3 := opsOf S.ts n ++ [lockO (opsOf S.ts n) ((snKept S n).getD n []) n s]
def snap1 (ds : Ds) (S : Sn) (n : Nat) : Sn :=
  match (stepsOf ds n)[(opsOf S.ts n).length]? with
  | none => S
  | some s =>
    if (opsOf S.ts n).length + 1 = (stepsOf ds n).length then
      if goodTo S.ver ((snBegan S n).getD n []) (lastW (snOps S n s)) (lastW (snOps S n s)).length then
        ⟨S.ts.set n (sesOf S.ts n, snOps S n s, true), commitS (snOps S n s) S.st, bumpTo S.ver (lastW (snOps S n s)) (lastW (snOps S n s)).length, snKept S n, snBegan S n⟩
      else ⟨S.ts.set n (sesOf S.ts n, snOps S n s, false), S.st, S.ver, snKept S n, snBegan S n⟩
    else ⟨S.ts.set n (sesOf S.ts n, snOps S n s, false), S.st, S.ver, snKept S n, snBegan S n⟩
def z3 : List Int := [0, 0, 0]
def snap0 (ds : Ds) : Sn := ⟨emptyT ds, z3, z3, [z3, z3, z3, z3], [z3, z3, z3, z3]⟩
def snapR (ds : Ds) (xs : List Int) : Sn := xs.foldl (fun S x => snap1 ds S x.toNat) (snap0 ds)
def snapL (ds : Ds) (xs : List Int) : List Tx := if runB ds xs then (snapR ds xs).ts else []
theorem snapR_snoc {ds : Ds} {xs : List Int} {k : Nat} {x : Int} (h : xs[k]? = some x) : snapR ds (xs.take (k + 1)) = snap1 ds (snapR ds (xs.take k)) x.toNat := foldl_snoc _ _ h

section
variable {ds : Ds} {S : Sn} {n : Nat} {d : Int × List T3} {t : Tx} {s : T3}
/-- The operation that a step does. -/
def snO (S : Sn) (n : Nat) (t : Tx) (s : T3) : T3 := lockO t.2.1 ((snKept S n).getD n []) n s
theorem snap1_none (hs : stepsOf ds n = d.2) (ho : opsOf S.ts n = t.2.1) (hl : t.2.1.length = d.2.length) : snap1 ds S n = S := by
  unfold snap1; rw [hs, ho, hl, List.getElem?_eq_none (Nat.le_refl _)]
theorem snap1_more (hs : stepsOf ds n = d.2) (ho : opsOf S.ts n = t.2.1) (he : sesOf S.ts n = t.1) (hl : d.2[t.2.1.length]? = some s) (hm : t.2.1.length + 1 ≠ d.2.length) :
    snap1 ds S n = ⟨S.ts.set n (t.1, t.2.1 ++ [snO S n t s], false), S.st, S.ver, snKept S n, snBegan S n⟩ := by
  unfold snap1 snOps; rw [hs, ho, he, hl]; simp only []; rw [if_neg hm]; rfl
theorem snap1_bad (hs : stepsOf ds n = d.2) (ho : opsOf S.ts n = t.2.1) (he : sesOf S.ts n = t.1) (hl : d.2[t.2.1.length]? = some s) (hm : t.2.1.length + 1 = d.2.length)
    (hg : goodTo S.ver ((snBegan S n).getD n []) (lastW (t.2.1 ++ [snO S n t s])) (lastW (t.2.1 ++ [snO S n t s])).length = false) :
    snap1 ds S n = ⟨S.ts.set n (t.1, t.2.1 ++ [snO S n t s], false), S.st, S.ver, snKept S n, snBegan S n⟩ := by
  unfold snO at hg ⊢
  unfold snap1 snOps; rw [hs, ho, he, hl]; simp only []; rw [if_pos hm, hg]; rfl
theorem snap1_good (hs : stepsOf ds n = d.2) (ho : opsOf S.ts n = t.2.1) (he : sesOf S.ts n = t.1) (hl : d.2[t.2.1.length]? = some s) (hm : t.2.1.length + 1 = d.2.length)
    (hg : goodTo S.ver ((snBegan S n).getD n []) (lastW (t.2.1 ++ [snO S n t s])) (lastW (t.2.1 ++ [snO S n t s])).length = true) :
    snap1 ds S n = ⟨S.ts.set n (t.1, t.2.1 ++ [snO S n t s], true), commitS (t.2.1 ++ [snO S n t s]) S.st, bumpTo S.ver (lastW (t.2.1 ++ [snO S n t s])) (lastW (t.2.1 ++ [snO S n t s])).length, snKept S n, snBegan S n⟩ := by
  unfold snO at hg ⊢
  unfold snap1 snOps; rw [hs, ho, he, hl]; simp only []; rw [if_pos hm, hg]; rfl
end
theorem bumpTo_succ {ver : List Int} {ws : List T3} {j : Nat} {o : T3} (h : ws[j]? = some o) : bumpTo ver ws (j + 1) = (bumpTo ver ws j).set o.2.1.toNat ((bumpTo ver ws j).getD o.2.1.toNat 0 + 1) := foldl_snoc _ _ h
theorem goodTo_succ {ver beg : List Int} {ws : List T3} {j : Nat} {o : T3} (h : ws[j]? = some o) : goodTo ver beg ws (j + 1) = (goodTo ver beg ws j && (ver.getD o.2.1.toNat 0 == beg.getD o.2.1.toNat 0)) := by
  unfold goodTo
  rw [List.take_add_one, h, List.all_append]
  simp
theorem bumpTo_len (ver : List Int) (ws : List T3) (j : Nat) : (bumpTo ver ws j).length = ver.length := by
  unfold bumpTo
  generalize ws.take j = l
  induction l generalizing ver with
  | nil => rfl
  | cons a l ih => rw [List.foldl_cons, ih]; simp
theorem bumpTo_le (ver : List Int) (ws : List T3) (key : Nat) : ∀ j, ver.getD key 0 ≤ (bumpTo ver ws j).getD key 0 ∧ (bumpTo ver ws j).getD key 0 ≤ ver.getD key 0 + j := by
  intro j
  induction j with
  | zero => simp [bumpTo]
  | succ j ih =>
    cases h : ws[j]? with
    | none =>
      have : bumpTo ver ws (j + 1) = bumpTo ver ws j := by unfold bumpTo; rw [List.take_add_one, h]; simp
      rw [this]; omega
    | some o =>
      rw [bumpTo_succ h]
      by_cases hk : o.2.1.toNat < (bumpTo ver ws j).length
      · rw [getD_set _ _ _ _ hk]
        by_cases e : o.2.1.toNat = key
        · rw [if_pos e, e]; omega
        · rw [if_neg e]; omega
      · rw [List.set_eq_of_length_le (by omega)]; omega
theorem lastW_len (os : List T3) : (lastW os).length ≤ 3 := by
  unfold lastW
  cases lastK os 0 <;> cases lastK os 1 <;> cases lastK os 2 <;> simp
theorem snKept_len (S : Sn) (n : Nat) : (snKept S n).length = S.kept.length := by unfold snKept; split <;> simp
theorem snBegan_len (S : Sn) (n : Nat) : (snBegan S n).length = S.began.length := by unfold snBegan; split <;> simp

/-- As the plan, and not committed ahead of its end. -/
def FitN (ds : Ds) (ts : List Tx) : Prop := ts.length = ds.length ∧ ∀ (n : Nat) (d : Int × List T3) (t : Tx), ds[n]? = some d → ts[n]? = some t → t.1 = d.1 ∧ t.2.1.length ≤ d.2.length ∧ (t.2.1.length < d.2.length → t.2.2 = false)
theorem FitN.empty {ds : Ds} : FitN ds (emptyT ds) := by
  refine ⟨by simp [emptyT], fun n d t hd ht => ?_⟩
  unfold emptyT at ht
  rw [List.getElem?_map, hd] at ht
  injection ht with ht; subst ht
  exact ⟨rfl, Nat.zero_le _, fun _ => rfl⟩
theorem FitN.at_ {ds : Ds} {ts : List Tx} (h : FitN ds ts) {n : Nat} (hn : n < ds.length) : ∃ d t, ds[n]? = some d ∧ ts[n]? = some t ∧ stepsOf ds n = d.2 ∧ opsOf ts n = t.2.1 ∧ sesOf ts n = t.1 ∧ t.2.1.length ≤ d.2.length ∧ (t.2.1.length < d.2.length → t.2.2 = false) := by
  have hd : ds[n]? = some ds[n] := List.getElem?_eq_getElem hn
  have ht : ts[n]? = some (ts[n]'(by rw [h.1]; exact hn)) := List.getElem?_eq_getElem _
  obtain ⟨h1, h2, h3⟩ := h.2 n _ _ hd ht
  refine ⟨_, _, hd, ht, ?_, ?_, ?_, h2, h3⟩
  · unfold stepsOf; rw [List.getD_eq_getElem?_getD, hd]; rfl
  · unfold opsOf; rw [List.getD_eq_getElem?_getD, ht]; rfl
  · unfold sesOf; rw [List.getD_eq_getElem?_getD, ht]; rfl
theorem FitN.step {ds : Ds} {ts : List Tx} (h : FitN ds ts) {n : Nat} {d : Int × List T3} {t : Tx} (hd : ds[n]? = some d) (ht : ts[n]? = some t) (hl : t.2.1.length < d.2.length) (o : T3) {dn : Bool} (hdn : t.2.1.length + 1 < d.2.length → dn = false) : FitN ds (ts.set n (t.1, t.2.1 ++ [o], dn)) := by
  refine ⟨by rw [List.length_set]; exact h.1, fun n' d' t' hd' ht' => ?_⟩
  by_cases e : n = n'
  · subst e
    rw [List.getElem?_set_self (List.getElem?_eq_some_iff.1 ht).1] at ht'
    injection ht' with ht'; subst ht'
    have := hd.symm.trans hd'
    injection this with this; subst this
    exact ⟨(h.2 n _ _ hd ht).1, by simp; omega, fun hx => hdn (by simpa using hx)⟩
  · rw [List.getElem?_set_ne e] at ht'
    exact h.2 n' d' t' hd' ht'
theorem FitN.four {ms : Ds} {xs : List Int} {ts : List Tx} (h : FitN ms ts) (hr : runB ms xs = true) : Lean4 ts := by
  obtain ⟨hn, hdb, _, _⟩ := runB_parts hr
  refine ⟨by rw [h.1]; exact hn, fun t ht => ?_⟩
  obtain ⟨i, hi, he⟩ := List.mem_iff_getElem.1 ht
  have h1 : ts[i]? = some t := by rw [← he]; exact List.getElem?_eq_getElem hi
  obtain ⟨d, t', h2, h3, _, _, _, h4, _⟩ := h.at_ (n := i) (by rw [← h.1]; exact hi)
  rw [h1] at h3; injection h3 with h3; subst h3
  have := (draftB_parts (hdb d (List.mem_of_getElem? h2))).2.1
  omega

/-- What holds of a state. -/
structure SnI (ds : Ds) (S : Sn) : Prop where
  fits : FitN ds S.ts
  vals : Vals S.st
  vlen : S.ver.length = 3
  klen : S.kept.length = 4
  blen : S.began.length = 4
  kvals : ∀ x ∈ S.kept, Vals x
  b3 : ∀ x ∈ S.began, x.length = 3
  ops : ∀ (n : Nat) (t : Tx), S.ts[n]? = some t → ∀ o ∈ t.2.1, opB o = true
  held : ∀ (n : Nat) (t : Tx) (d : Int × List T3), S.ts[n]? = some t → ds[n]? = some d → t.2.1.length < d.2.length → ∀ (key : Nat) (o : T3), lastO t.2.1 (key : Int) = some o → o.2.2 = seesV t.2.1 (S.kept.getD n []) key
  vers : ∀ n key : Nat, (S.began.getD n []).getD key 0 ≤ S.ver.getD key 0

theorem SnI.zero (ds : Ds) : SnI ds (snap0 ds) := by
  refine ⟨FitN.empty, Vals.zero, rfl, rfl, rfl, fun x hx => ?_, fun x hx => ?_, fun n t ht o ho => ?_, fun n t d ht hd hl key o ho => ?_, fun n key => ?_⟩
  · have : x = z3 := by simpa [snap0] using hx
    rw [this]; exact Vals.zero
  · have : x = z3 := by simpa [snap0] using hx
    rw [this]; rfl
  · exfalso
    have ht' : (emptyT ds)[n]? = some t := ht
    unfold emptyT at ht'
    rw [List.getElem?_map] at ht'
    cases hd : ds[n]? <;> rw [hd] at ht' <;> simp at ht'
    subst ht'; simp at ho
  · have ht' : (emptyT ds)[n]? = some t := ht
    unfold emptyT at ht'
    rw [List.getElem?_map, hd] at ht'
    injection ht' with ht'; subst ht'
    simp [lastO] at ho
  · show (([z3, z3, z3, z3] : List (List Int)).getD n []).getD key 0 ≤ z3.getD key 0
    match n with
    | 0 => exact Int.le_refl _
    | 1 => exact Int.le_refl _
    | 2 => exact Int.le_refl _
    | 3 => exact Int.le_refl _
    | n + 4 =>
      have h1 : (([z3, z3, z3, z3] : List (List Int)).getD (n + 4) []) = [] := rfl
      rw [h1]
      match key with
      | 0 => exact Int.le_refl _
      | 1 => exact Int.le_refl _
      | 2 => exact Int.le_refl _
      | k + 3 => exact Int.le_refl _

end Go.Proofs.Ytfcfhgophpoibaa
