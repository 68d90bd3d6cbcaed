/- A step with snapshots keeps what holds of a state. -/
import Derived.Test.YtfcfhgophpoibaaSnapK
namespace Go.Proofs.Ytfcfhgophpoibaa

theorem getD_setL (xs : List (List Int)) (i j : Nat) (v : List Int) (hi : i < xs.length) : (xs.set i v).getD j [] = if i = j then v else xs.getD j [] := by
  simp only [List.getD_eq_getElem?_getD]
  by_cases e : i = j
  · subst e; rw [if_pos rfl, List.getElem?_set_self hi]; rfl
  · rw [if_neg e, List.getElem?_set_ne e]
section
variable {ds : Ds} {S : Sn} {n : Nat} {d : Int × List T3} {t : Tx} {s : T3}
theorem snKept_other (S : Sn) {n n' : Nat} (h : n' ≠ n) : (snKept S n).getD n' [] = S.kept.getD n' [] := by
  unfold snKept
  split
  · simp only [List.getD_eq_getElem?_getD]; rw [List.getElem?_set_ne (fun e => h e.symm)]
  · rfl
theorem snBegan_other (S : Sn) {n n' : Nat} (h : n' ≠ n) : (snBegan S n).getD n' [] = S.began.getD n' [] := by
  unfold snBegan
  split
  · simp only [List.getD_eq_getElem?_getD]; rw [List.getElem?_set_ne (fun e => h e.symm)]
  · rfl
theorem snKept_later (ho : opsOf S.ts n = t.2.1) (h : t.2.1 ≠ []) : snKept S n = S.kept := by
  unfold snKept; rw [ho, if_neg (fun e => h (List.eq_nil_of_length_eq_zero e))]
theorem snKept_first (ho : opsOf S.ts n = t.2.1) (h : t.2.1.length = 0) : snKept S n = S.kept.set n S.st := by
  unfold snKept; rw [ho, if_pos h]
theorem snBegan_later (ho : opsOf S.ts n = t.2.1) (h : t.2.1.length ≠ 0) : snBegan S n = S.began := by
  unfold snBegan; rw [ho, if_neg h]
theorem snBegan_first (ho : opsOf S.ts n = t.2.1) (h : t.2.1.length = 0) : snBegan S n = S.began.set n S.ver := by
  unfold snBegan; rw [ho, if_pos h]
theorem SnI.kvals' (h : SnI ds S) (n : Nat) : ∀ x ∈ snKept S n, Vals x := fun x hx => by
  unfold snKept at hx
  split at hx
  · rcases List.mem_or_eq_of_mem_set hx with hx | rfl
    · exact h.kvals x hx
    · exact h.vals
  · exact h.kvals x hx
theorem SnI.b3' (h : SnI ds S) (n : Nat) : ∀ x ∈ snBegan S n, x.length = 3 := fun x hx => by
  unfold snBegan at hx
  split at hx
  · rcases List.mem_or_eq_of_mem_set hx with hx | rfl
    · exact h.b3 x hx
    · exact h.vlen
  · exact h.b3 x hx
theorem SnI.keptV (h : SnI ds S) {n m : Nat} (hn : m < 4) : Vals ((snKept S n).getD m []) := by
  have hl : m < (snKept S n).length := by rw [snKept_len, h.klen]; exact hn
  have : (snKept S n).getD m [] = (snKept S n)[m] := by simp [List.getD, List.getElem?_eq_getElem hl]
  rw [this]; exact h.kvals' n _ (List.getElem_mem hl)
theorem SnI.began3 (h : SnI ds S) {n m : Nat} (hn : m < 4) : ((snBegan S n).getD m []).length = 3 := by
  have hl : m < (snBegan S n).length := by rw [snBegan_len, h.blen]; exact hn
  have : (snBegan S n).getD m [] = (snBegan S n)[m] := by simp [List.getD, List.getElem?_eq_getElem hl]
  rw [this]; exact h.b3' n _ (List.getElem_mem hl)
theorem SnI.vers' (h : SnI ds S) (n m key : Nat) : ((snBegan S n).getD m []).getD key 0 ≤ S.ver.getD key 0 := by
  unfold snBegan
  split
  · by_cases hn : n < S.began.length
    · rw [getD_setL _ _ _ _ hn]
      split
      · exact Int.le_refl _
      · exact h.vers m key
    · rw [List.set_eq_of_length_le (by omega)]; exact h.vers m key
  · exact h.vers m key
theorem SnI.ops_set (h : SnI ds S) (ht : S.ts[n]? = some t) (hn : n < 4) (hl4 : t.2.1.length < 4) (hk : s.1 = 1 ∨ s.1 = 2) (hy : 0 ≤ s.2.1 ∧ s.2.1 ≤ 2) (dn : Bool) :
    ∀ (n' : Nat) (t' : Tx), (S.ts.set n (t.1, t.2.1 ++ [snO S n t s], dn))[n']? = some t' → ∀ o ∈ t'.2.1, opB o = true := by
  intro n' t' ht' o ho
  by_cases e : n' = n
  · subst e
    rw [List.getElem?_set_self (List.getElem?_eq_some_iff.1 ht).1] at ht'
    injection ht' with ht'; subst ht'
    rcases List.mem_append.1 ho with ho | ho
    · exact h.ops n' t ht o ho
    · obtain rfl := List.mem_singleton.1 ho
      exact lockO_ok (h.keptV hn) (h.ops n' t ht) hn hl4 hk hy
  · rw [List.getElem?_set_ne (fun h => e h.symm)] at ht'
    exact h.ops n' t' ht' o ho
theorem SnI.pre (h : SnI ds S) (ho0 : opsOf S.ts n = t.2.1) (ht : S.ts[n]? = some t) (hd : ds[n]? = some d) (hl : t.2.1.length < d.2.length) (hy : 0 ≤ s.2.1 ∧ s.2.1 ≤ 2) (dn : Bool) :
    ∀ (n' : Nat) (t' : Tx) (d' : Int × List T3), (S.ts.set n (t.1, t.2.1 ++ [snO S n t s], dn))[n']? = some t' → ds[n']? = some d' → t'.2.1.length < d'.2.length →
      ∀ (key : Nat) (o : T3), lastO t'.2.1 (key : Int) = some o → o.2.2 = seesV t'.2.1 ((snKept S n).getD n' []) key := by
  intro n' t' d' ht' hd' hl' key o ho
  by_cases e : n' = n
  · subst e
    rw [List.getElem?_set_self (List.getElem?_eq_some_iff.1 ht).1] at ht'
    injection ht' with ht'; subst ht'
    dsimp only at ho ⊢
    rw [lastO_snoc] at ho
    by_cases ek : s.2.1 = key
    · rw [if_pos (show (snO S n' t s).2.1 = key from ek)] at ho
      injection ho with ho; subst ho
      have hk : s.2.1.toNat = key := by omega
      unfold seesV
      rw [lastK_snoc]
      by_cases e2 : s.1 = 2
      · rw [if_pos (And.intro (show (snO S n' t s).1 = 2 from e2) (show (snO S n' t s).2.1 = (key : Int) from ek))]
      · rw [if_neg (fun h => e2 h.1)]
        show lockV t.2.1 ((snKept S n').getD n' []) n' s = _
        unfold lockV
        rw [if_neg e2, hk]
        rfl
    · rw [if_neg (show ¬ (snO S n' t s).2.1 = key from ek)] at ho
      have hne : t.2.1 ≠ [] := fun e => by rw [e] at ho; simp [lastO] at ho
      have h2 := h.held n' t d ht hd hl key o ho
      rw [snKept_later ho0 hne]
      refine h2.trans ?_
      unfold seesV
      rw [lastK_snoc, if_neg (fun h => ek h.2)]
  · rw [List.getElem?_set_ne (fun h => e h.symm)] at ht'
    rw [snKept_other S e]
    exact h.held n' t' d' ht' hd' hl' key o ho
theorem SnI.same (h : SnI ds S) (ho0 : opsOf S.ts n = t.2.1) (ht : S.ts[n]? = some t) (hd : ds[n]? = some d) (hl : t.2.1.length < d.2.length) (hn : n < 4) (hl4 : t.2.1.length < 4)
    (hk : s.1 = 1 ∨ s.1 = 2) (hy : 0 ≤ s.2.1 ∧ s.2.1 ≤ 2) : SnI ds ⟨S.ts.set n (t.1, t.2.1 ++ [snO S n t s], false), S.st, S.ver, snKept S n, snBegan S n⟩ :=
  ⟨h.fits.step hd ht hl _ (fun _ => rfl), h.vals, h.vlen, by rw [snKept_len]; exact h.klen, by rw [snBegan_len]; exact h.blen, h.kvals' n, h.b3' n, h.ops_set ht hn hl4 hk hy false, h.pre ho0 ht hd hl hy false, fun m key => h.vers' n m key⟩
theorem SnI.good (h : SnI ds S) (ho0 : opsOf S.ts n = t.2.1) (ht : S.ts[n]? = some t) (hd : ds[n]? = some d) (hl : t.2.1.length < d.2.length) (hn : n < 4) (hl4 : t.2.1.length < 4)
    (hk : s.1 = 1 ∨ s.1 = 2) (hy : 0 ≤ s.2.1 ∧ s.2.1 ≤ 2) (hm : t.2.1.length + 1 = d.2.length) :
    SnI ds ⟨S.ts.set n (t.1, t.2.1 ++ [snO S n t s], true), commitS (t.2.1 ++ [snO S n t s]) S.st, bumpTo S.ver (lastW (t.2.1 ++ [snO S n t s])) (lastW (t.2.1 ++ [snO S n t s])).length, snKept S n, snBegan S n⟩ := by
  have hops := h.ops_set ht hn hl4 hk hy true
  have hos := hops n _ (List.getElem?_set_self (List.getElem?_eq_some_iff.1 ht).1)
  exact ⟨h.fits.step hd ht hl _ (fun hx => by omega), h.vals.commit hos, by rw [bumpTo_len]; exact h.vlen, by rw [snKept_len]; exact h.klen, by rw [snBegan_len]; exact h.blen, h.kvals' n, h.b3' n, hops, h.pre ho0 ht hd hl hy true,
    fun m key => Int.le_trans (h.vers' n m key) (bumpTo_le _ _ _ _).1⟩
theorem SnI.txn (h : SnI ds S) (hds : ∀ d ∈ ds, draftB d = true) (ht : S.ts[n]? = some t) (hd : ds[n]? = some d) : txnB t = true := by
  obtain ⟨h1, h2, h3⟩ := h.fits.2 n d t hd ht
  obtain ⟨_, g2, g3, _⟩ := draftB_parts (hds d (List.mem_of_getElem? hd))
  exact txn_ok (f := t.1) (dn := t.2.2) (by rw [h1]; exact g3) (h.ops n t ht) (Nat.le_trans h2 g2)
/-- What the reference computes for a read, and what the program does. -/
theorem SnI.own (h : SnI ds S) (ho0 : opsOf S.ts n = t.2.1) (ht : S.ts[n]? = some t) (hd : ds[n]? = some d) (hl : t.2.1.length < d.2.length) (key : Nat) :
    ownV t.2.1 key (((snKept S n).getD n []).getD key 0) = seesV t.2.1 ((snKept S n).getD n []) key := by
  unfold ownV
  cases e : lastO t.2.1 (key : Int) with
  | some o =>
    have hne : t.2.1 ≠ [] := fun e' => by rw [e'] at e; simp [lastO] at e
    rw [snKept_later ho0 hne]
    exact h.held n t d ht hd hl key o e
  | none =>
    show ((snKept S n).getD n []).getD key 0 = seesV t.2.1 ((snKept S n).getD n []) key
    unfold seesV
    cases e2 : lastK t.2.1 (key : Int) with
    | none => rfl
    | some o =>
      exfalso
      obtain ⟨h1, h2, h3⟩ := lastK_some e2
      unfold lastO at e
      rw [List.find?_eq_none] at e
      exact e o (List.mem_reverse.2 h1) (by simpa using h3)
end
/-- The versions grow by at most three a step. -/
def VerB (k : Nat) (S : Sn) : Prop := ∀ key : Nat, 0 ≤ S.ver.getD key 0 ∧ S.ver.getD key 0 ≤ 3 * (k : Int)
theorem VerB.zero (ds : Ds) : VerB 0 (snap0 ds) := fun key => by
  show 0 ≤ z3.getD key 0 ∧ z3.getD key 0 ≤ 0
  match key with
  | 0 => exact ⟨Int.le_refl _, Int.le_refl _⟩
  | 1 => exact ⟨Int.le_refl _, Int.le_refl _⟩
  | 2 => exact ⟨Int.le_refl _, Int.le_refl _⟩
  | k + 3 => exact ⟨Int.le_refl _, Int.le_refl _⟩
theorem VerB.bump {k : Nat} {S : Sn} (h : VerB k S) (os : List T3) (key : Nat) {j : Nat} (hj : j ≤ (lastW os).length) : 0 ≤ (bumpTo S.ver (lastW os) j).getD key 0 ∧ (bumpTo S.ver (lastW os) j).getD key 0 ≤ 3 * (k : Int) + 3 := by
  have h1 := h key
  have h2 := bumpTo_le S.ver (lastW os) key j
  have h3 := lastW_len os
  omega
theorem snapR_inv {ms : Ds} {xs : List Int} (h : runB ms xs = true) : ∀ k, k ≤ xs.length → SnI ms (snapR ms (xs.take k)) := by
  obtain ⟨hn4, hdb, _, hxb⟩ := runB_parts h
  intro k
  induction k with
  | zero => intro _; exact SnI.zero ms
  | succ k ih =>
    intro hk
    have hi := ih (by omega)
    have hx : xs[k]? = some (xs[k]'(by omega)) := List.getElem?_eq_getElem _
    rw [snapR_snoc hx]
    obtain ⟨h0, h1⟩ := hxb _ (List.mem_of_getElem? hx)
    generalize snapR ms (xs.take k) = S at hi ⊢
    obtain ⟨d, t, hd, ht, hst, hop, hse, hle, hdn⟩ := hi.fits.at_ (n := (xs[k]'(by omega)).toNat) (by omega)
    have hdp := draftB_parts (hdb d (List.mem_of_getElem? hd))
    by_cases hfull : t.2.1.length = d.2.length
    · rw [snap1_none hst hop hfull]; exact hi
    · obtain ⟨s, hs⟩ : ∃ s, d.2[t.2.1.length]? = some s := ⟨_, List.getElem?_eq_getElem (by omega)⟩
      obtain ⟨hk12, hy, _⟩ := hdp.2.2.2 s (List.mem_of_getElem? hs)
      have hsame := hi.same (s := s) hop ht hd (by omega) (by omega) (by omega) hk12 hy
      by_cases hm : t.2.1.length + 1 = d.2.length
      · cases hg : goodTo S.ver ((snBegan S (xs[k]'(by omega)).toNat).getD (xs[k]'(by omega)).toNat []) (lastW (t.2.1 ++ [snO S (xs[k]'(by omega)).toNat t s])) (lastW (t.2.1 ++ [snO S (xs[k]'(by omega)).toNat t s])).length
        · rw [snap1_bad hst hop hse hs hm hg]; exact hsame
        · rw [snap1_good hst hop hse hs hm hg]; exact hi.good hop ht hd (by omega) (by omega) (by omega) hk12 hy hm
      · rw [snap1_more hst hop hse hs hm]; exact hsame
theorem snapL_four (ms : Ds) (xs : List Int) : Lean4 (snapL ms xs) := by
  cases h : runB ms xs
  · have : snapL ms xs = [] := by simp [snapL, h]
    rw [this]; exact Lean4.nil
  · have : snapL ms xs = (snapR ms xs).ts := by simp [snapL, h]
    have h2 := snapR_inv h xs.length (Nat.le_refl _)
    rw [List.take_length] at h2
    rw [this]; exact h2.fits.four h

end Go.Proofs.Ytfcfhgophpoibaa
