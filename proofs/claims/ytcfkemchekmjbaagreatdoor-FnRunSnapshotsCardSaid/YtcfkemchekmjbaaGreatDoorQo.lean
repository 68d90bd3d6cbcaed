/- Merged (what the law reaches): SnapK2, SnapM, LockI. -/
import Derived.Test.YtcfkemchekmjbaaGreatDoorQn
import Derived.Deep.DeepCutAuto
namespace Go.Proofs.YtcfkemchekmjbaaGreatDoor
theorem getD_setL (xs : List (List Int)) (i j : Nat) (v : List Int) (hi : i < xs.length) : (xs.set i v).getD j [] = if i = j then v else xs.getD j [] := by
  simp only [List.getD_eq_getElem?_getD]
  by_cases e : i = j
  · subst e; rw [if_pos rfl, List.getElem?_set_self hi]; rfl
  · rw [if_neg e, List.getElem?_set_ne e]
section
variable {ds : Ds} {S : Sn} {n : Nat} {d : Int × List T3} {t : Tx} {s : T3}
theorem snKept_other (S : Sn) {n n' : Nat} (h : n' ≠ n) : (snKept S n).getD n' [] = S.kept.getD n' [] := by
  unfold snKept
  split
  · simp only [List.getD_eq_getElem?_getD]; rw [List.getElem?_set_ne (fun e => h e.symm)]
  · rfl
theorem snBegan_other (S : Sn) {n n' : Nat} (h : n' ≠ n) : (snBegan S n).getD n' [] = S.began.getD n' [] := by
  unfold snBegan
  split
  · simp only [List.getD_eq_getElem?_getD]; rw [List.getElem?_set_ne (fun e => h e.symm)]
  · rfl
theorem snKept_later (ho : opsOf S.ts n = t.2.1) (h : t.2.1 ≠ []) : snKept S n = S.kept := by
  unfold snKept; rw [ho, if_neg (fun e => h (List.eq_nil_of_length_eq_zero e))]
theorem snKept_first (ho : opsOf S.ts n = t.2.1) (h : t.2.1.length = 0) : snKept S n = S.kept.set n S.st := by
  unfold snKept; rw [ho, if_pos h]
theorem snBegan_later (ho : opsOf S.ts n = t.2.1) (h : t.2.1.length ≠ 0) : snBegan S n = S.began := by
  unfold snBegan; rw [ho, if_neg h]
theorem snBegan_first (ho : opsOf S.ts n = t.2.1) (h : t.2.1.length = 0) : snBegan S n = S.began.set n S.ver := by
  unfold snBegan; rw [ho, if_pos h]
theorem SnI.kvals' (h : SnI ds S) (n : Nat) : ∀ x ∈ snKept S n, Vals x := fun x hx => by
  unfold snKept at hx
  split at hx
  · rcases List.mem_or_eq_of_mem_set hx with hx | rfl
    · exact h.kvals x hx
    · exact h.vals
  · exact h.kvals x hx
theorem SnI.b3' (h : SnI ds S) (n : Nat) : ∀ x ∈ snBegan S n, x.length = 3 := fun x hx => by
  unfold snBegan at hx
  split at hx
  · rcases List.mem_or_eq_of_mem_set hx with hx | rfl
    · exact h.b3 x hx
    · exact h.vlen
  · exact h.b3 x hx
theorem SnI.keptV (h : SnI ds S) {n m : Nat} (hn : m < 4) : Vals ((snKept S n).getD m []) := by
  have hl : m < (snKept S n).length := by rw [snKept_len, h.klen]; exact hn
  have : (snKept S n).getD m [] = (snKept S n)[m] := by simp [List.getD, List.getElem?_eq_getElem hl]
  rw [this]; exact h.kvals' n _ (List.getElem_mem hl)
theorem SnI.vers' (h : SnI ds S) (n m key : Nat) : ((snBegan S n).getD m []).getD key 0 ≤ S.ver.getD key 0 := by
  unfold snBegan
  split
  · by_cases hn : n < S.began.length
    · rw [getD_setL _ _ _ _ hn]
      split
      · exact Int.le_refl _
      · exact h.vers m key
    · rw [List.set_eq_of_length_le (by omega)]; exact h.vers m key
  · exact h.vers m key
theorem SnI.ops_set (h : SnI ds S) (ht : S.ts[n]? = some t) (hn : n < 4) (hl4 : t.2.1.length < 4) (hk : s.1 = 1 ∨ s.1 = 2) (hy : 0 ≤ s.2.1 ∧ s.2.1 ≤ 2) (dn : Bool) :
    ∀ (n' : Nat) (t' : Tx), (S.ts.set n (t.1, t.2.1 ++ [snO S n t s], dn))[n']? = some t' → ∀ o ∈ t'.2.1, opB o = true := by
  intro n' t' ht' o ho
  by_cases e : n' = n
  · subst e
    rw [List.getElem?_set_self (List.getElem?_eq_some_iff.1 ht).1] at ht'
    injection ht' with ht'; subst ht'
    rcases List.mem_append.1 ho with ho | ho
    · exact h.ops n' t ht o ho
    · obtain rfl := List.mem_singleton.1 ho
      exact lockO_ok (h.keptV hn) (h.ops n' t ht) hn hl4 hk hy
  · rw [List.getElem?_set_ne (fun h => e h.symm)] at ht'
    exact h.ops n' t' ht' o ho
theorem SnI.pre (h : SnI ds S) (ho0 : opsOf S.ts n = t.2.1) (ht : S.ts[n]? = some t) (hd : ds[n]? = some d) (hl : t.2.1.length < d.2.length) (hy : 0 ≤ s.2.1 ∧ s.2.1 ≤ 2) (dn : Bool) :
    ∀ (n' : Nat) (t' : Tx) (d' : Int × List T3), (S.ts.set n (t.1, t.2.1 ++ [snO S n t s], dn))[n']? = some t' → ds[n']? = some d' → t'.2.1.length < d'.2.length →
      ∀ (key : Nat) (o : T3), lastO t'.2.1 (key : Int) = some o → o.2.2 = seesV t'.2.1 ((snKept S n).getD n' []) key := by
  intro n' t' d' ht' hd' hl' key o ho
  by_cases e : n' = n
  · subst e
    rw [List.getElem?_set_self (List.getElem?_eq_some_iff.1 ht).1] at ht'
    injection ht' with ht'; subst ht'
    dsimp only at ho ⊢
    rw [lastO_snoc] at ho
    by_cases ek : s.2.1 = key
    · rw [if_pos (show (snO S n' t s).2.1 = key from ek)] at ho
      injection ho with ho; subst ho
      have hk : s.2.1.toNat = key := by omega
      unfold seesV
      rw [lastK_snoc]
      by_cases e2 : s.1 = 2
      · rw [if_pos (And.intro (show (snO S n' t s).1 = 2 from e2) (show (snO S n' t s).2.1 = (key : Int) from ek))]
      · rw [if_neg (fun h => e2 h.1)]
        show lockV t.2.1 ((snKept S n').getD n' []) n' s = _
        unfold lockV
        rw [if_neg e2, hk]
        rfl
    · rw [if_neg (show ¬ (snO S n' t s).2.1 = key from ek)] at ho
      have hne : t.2.1 ≠ [] := fun e => by rw [e] at ho; simp [lastO] at ho
      have h2 := h.held n' t d ht hd hl key o ho
      rw [snKept_later ho0 hne]
      refine h2.trans ?_
      unfold seesV
      rw [lastK_snoc, if_neg (fun h => ek h.2)]
  · rw [List.getElem?_set_ne (fun h => e h.symm)] at ht'
    rw [snKept_other S e]
    exact h.held n' t' d' ht' hd' hl' key o ho
theorem SnI.same (h : SnI ds S) (ho0 : opsOf S.ts n = t.2.1) (ht : S.ts[n]? = some t) (hd : ds[n]? = some d) (hl : t.2.1.length < d.2.length) (hn : n < 4) (hl4 : t.2.1.length < 4)
    (hk : s.1 = 1 ∨ s.1 = 2) (hy : 0 ≤ s.2.1 ∧ s.2.1 ≤ 2) : SnI ds ⟨S.ts.set n (t.1, t.2.1 ++ [snO S n t s], false), S.st, S.ver, snKept S n, snBegan S n⟩ :=
  ⟨h.fits.step hd ht hl _ (fun _ => rfl), h.vals, h.vlen, by rw [snKept_len]; exact h.klen, by rw [snBegan_len]; exact h.blen, h.kvals' n, h.b3' n, h.ops_set ht hn hl4 hk hy false, h.pre ho0 ht hd hl hy false, fun m key => h.vers' n m key⟩
theorem SnI.good (h : SnI ds S) (ho0 : opsOf S.ts n = t.2.1) (ht : S.ts[n]? = some t) (hd : ds[n]? = some d) (hl : t.2.1.length < d.2.length) (hn : n < 4) (hl4 : t.2.1.length < 4)
    (hk : s.1 = 1 ∨ s.1 = 2) (hy : 0 ≤ s.2.1 ∧ s.2.1 ≤ 2) (hm : t.2.1.length + 1 = d.2.length) :
    SnI ds ⟨S.ts.set n (t.1, t.2.1 ++ [snO S n t s], true), commitS (t.2.1 ++ [snO S n t s]) S.st, bumpTo S.ver (lastW (t.2.1 ++ [snO S n t s])) (lastW (t.2.1 ++ [snO S n t s])).length, snKept S n, snBegan S n⟩ := by
  have hops := h.ops_set ht hn hl4 hk hy true
  have hos := hops n _ (List.getElem?_set_self (List.getElem?_eq_some_iff.1 ht).1)
  exact ⟨h.fits.step hd ht hl _ (fun hx => by omega), h.vals.commit hos, by rw [bumpTo_len]; exact h.vlen, by rw [snKept_len]; exact h.klen, by rw [snBegan_len]; exact h.blen, h.kvals' n, h.b3' n, hops, h.pre ho0 ht hd hl hy true,
    fun m key => Int.le_trans (h.vers' n m key) (bumpTo_le _ _ _ _).1⟩
theorem SnI.txn (h : SnI ds S) (hds : ∀ d ∈ ds, draftB d = true) (ht : S.ts[n]? = some t) (hd : ds[n]? = some d) : txnB t = true := by
  obtain ⟨h1, h2, h3⟩ := h.fits.2 n d t hd ht
  obtain ⟨_, g2, g3, _⟩ := draftB_parts (hds d (List.mem_of_getElem? hd))
  exact txn_ok (f := t.1) (dn := t.2.2) (by rw [h1]; exact g3) (h.ops n t ht) (Nat.le_trans h2 g2)
/-- What the reference computes for a read, and what the program does. -/
theorem SnI.own (h : SnI ds S) (ho0 : opsOf S.ts n = t.2.1) (ht : S.ts[n]? = some t) (hd : ds[n]? = some d) (hl : t.2.1.length < d.2.length) (key : Nat) :
    ownV t.2.1 key (((snKept S n).getD n []).getD key 0) = seesV t.2.1 ((snKept S n).getD n []) key := by
  unfold ownV
  cases e : lastO t.2.1 (key : Int) with
  | some o =>
    have hne : t.2.1 ≠ [] := fun e' => by rw [e'] at e; simp [lastO] at e
    rw [snKept_later ho0 hne]
    exact h.held n t d ht hd hl key o e
  | none =>
    show ((snKept S n).getD n []).getD key 0 = seesV t.2.1 ((snKept S n).getD n []) key
    unfold seesV
    cases e2 : lastK t.2.1 (key : Int) with
    | none => rfl
    | some o =>
      exfalso
      obtain ⟨h1, h2, h3⟩ := lastK_some e2
      unfold lastO at e
      rw [List.find?_eq_none] at e
      exact e o (List.mem_reverse.2 h1) (by simpa using h3)
end
/-- The versions grow by at most three a step. -/
def VerB (k : Nat) (S : Sn) : Prop := ∀ key : Nat, 0 ≤ S.ver.getD key 0 ∧ S.ver.getD key 0 ≤ 3 * (k : Int)
theorem VerB.zero (ds : Ds) : VerB 0 (snap0 ds) := fun key => by
  show 0 ≤ z3.getD key 0 ∧ z3.getD key 0 ≤ 0
  match key with
  | 0 => exact ⟨Int.le_refl _, Int.le_refl _⟩
  | 1 => exact ⟨Int.le_refl _, Int.le_refl _⟩
  | 2 => exact ⟨Int.le_refl _, Int.le_refl _⟩
  | k + 3 => exact ⟨Int.le_refl _, Int.le_refl _⟩
theorem VerB.bump {k : Nat} {S : Sn} (h : VerB k S) (os : List T3) (key : Nat) {j : Nat} (hj : j ≤ (lastW os).length) : 0 ≤ (bumpTo S.ver (lastW os) j).getD key 0 ∧ (bumpTo S.ver (lastW os) j).getD key 0 ≤ 3 * (k : Int) + 3 := by
  have h1 := h key
  have h2 := bumpTo_le S.ver (lastW os) key j
  have h3 := lastW_len os
  omega
theorem snapR_inv {ms : Ds} {xs : List Int} (h : runB ms xs = true) : ∀ k, k ≤ xs.length → SnI ms (snapR ms (xs.take k)) := by
  obtain ⟨hn4, hdb, _, hxb⟩ := runB_parts h
  intro k
  induction k with
  | zero => intro _; exact SnI.zero ms
  | succ k ih =>
    intro hk
    have hi := ih (by omega)
    have hx : xs[k]? = some (xs[k]'(by omega)) := List.getElem?_eq_getElem _
    rw [snapR_snoc hx]
    obtain ⟨h0, h1⟩ := hxb _ (List.mem_of_getElem? hx)
    generalize snapR ms (xs.take k) = S at hi ⊢
    obtain ⟨d, t, hd, ht, hst, hop, hse, hle, hdn⟩ := hi.fits.at_ (n := (xs[k]'(by omega)).toNat) (by omega)
    have hdp := draftB_parts (hdb d (List.mem_of_getElem? hd))
    by_cases hfull : t.2.1.length = d.2.length
    · rw [snap1_none hst hop hfull]; exact hi
    · obtain ⟨s, hs⟩ : ∃ s, d.2[t.2.1.length]? = some s := ⟨_, List.getElem?_eq_getElem (by omega)⟩
      obtain ⟨hk12, hy, _⟩ := hdp.2.2.2 s (List.mem_of_getElem? hs)
      have hsame := hi.same (s := s) hop ht hd (by omega) (by omega) (by omega) hk12 hy
      by_cases hm : t.2.1.length + 1 = d.2.length
      · cases hg : goodTo S.ver ((snBegan S (xs[k]'(by omega)).toNat).getD (xs[k]'(by omega)).toNat []) (lastW (t.2.1 ++ [snO S (xs[k]'(by omega)).toNat t s])) (lastW (t.2.1 ++ [snO S (xs[k]'(by omega)).toNat t s])).length
        · rw [snap1_bad hst hop hse hs hm hg]; exact hsame
        · rw [snap1_good hst hop hse hs hm hg]; exact hi.good hop ht hd (by omega) (by omega) (by omega) hk12 hy hm
      · rw [snap1_more hst hop hse hs hm]; exact hsame
theorem snapL_four (ms : Ds) (xs : List Int) : Lean4 (snapL ms xs) := by
  cases h : runB ms xs
  · have : snapL ms xs = [] := by simp [snapL, h]
    rw [this]; exact Lean4.nil
  · have : snapL ms xs = (snapR ms xs).ts := by simp [snapL, h]
    have h2 := snapR_inv h xs.length (Nat.le_refl _)
    rw [List.take_length] at h2
    rw [this]; exact h2.fits.four h
end Go.Proofs.YtcfkemchekmjbaaGreatDoor

namespace Go.Proofs.YtcfkemchekmjbaaGreatDoor
open Go.RowKit
theorem flat_get : ∀ (L : List (List Int)) (_ : ∀ r ∈ L, r.length = 3) (n i : Nat) (r : List Int) (x : Int), L[n]? = some r → r[i]? = some x → L.flatten[n * 3 + i]? = some x
  | [], _, n, i, r, x, h, _ => by simp at h
  | q :: L, hL, 0, i, r, x, h, hx => by
    have : q = r := by simpa using h
    subst this
    have hi := (List.getElem?_eq_some_iff.1 hx).1
    rw [List.flatten_cons, Nat.zero_mul, Nat.zero_add, List.getElem?_append_left hi]; exact hx
  | q :: L, hL, n + 1, i, r, x, h, hx => by
    have hq := hL q (List.mem_cons_self ..)
    rw [List.flatten_cons, List.getElem?_append_right (by omega), show (n + 1) * 3 + i - q.length = n * 3 + i by omega]
    exact flat_get L (fun r hr => hL r (List.mem_cons_of_mem _ hr)) n i r x (by simpa using h) hx
theorem flat_set : ∀ (L : List (List Int)) (_ : ∀ r ∈ L, r.length = 3) (n : Nat) (a b c : Int), n < L.length → (L.set n [a, b, c]).flatten = ((L.flatten.set (n * 3) a).set (n * 3 + 1) b).set (n * 3 + 2) c
  | [], _, n, a, b, c, h => by simp at h
  | q :: L, hL, 0, a, b, c, _ => by
    have hq := hL q (List.mem_cons_self ..)
    match q, hq with
    | [x, y, z], _ => simp
  | q :: L, hL, n + 1, a, b, c, h => by
    have hq := hL q (List.mem_cons_self ..)
    have h1 := flat_set L (fun r hr => hL r (List.mem_cons_of_mem _ hr)) n a b c (by simpa using h)
    rw [List.set_cons_succ, List.flatten_cons, h1, List.flatten_cons, List.set_append_right _ _ (by omega), List.set_append_right _ _ (by omega), List.set_append_right _ _ (by omega)]
    rw [show (n + 1) * 3 - q.length = n * 3 by omega, show (n + 1) * 3 + 1 - q.length = n * 3 + 1 by omega, show (n + 1) * 3 + 2 - q.length = n * 3 + 2 by omega]
/-- Three numbers stored into a block. -/
theorem Blk.put3 {w : World} {g : Nat} {t : TypeId} {L : List Int} (h : Blk w g t (storeC L)) (i : Nat) (a b c : Int) :
    Blk (((w.setCell ⟨g, i, none⟩ (.int .i64 a)).setCell ⟨g, i + 1, none⟩ (.int .i64 b)).setCell ⟨g, i + 2, none⟩ (.int .i64 c)) g t (storeC (((L.set i a).set (i + 1) b).set (i + 2) c)) := by
  have h1 := h.set_ i (.int .i64 a)
  rw [storeC_set] at h1
  have h2 := h1.set_ (i + 1) (.int .i64 b)
  rw [storeC_set] at h2
  have h3 := h2.set_ (i + 2) (.int .i64 c)
  rwa [storeC_set] at h3
theorem Blk.far3 {w : World} {g k : Nat} {t : TypeId} {cs : Array Value} (h : Blk w g t cs) (hne : g ≠ k) (i j l : Nat) (a b c : Value) : Blk (((w.setCell ⟨k, i, none⟩ a).setCell ⟨k, j, none⟩ b).setCell ⟨k, l, none⟩ c) g t cs :=
  ((h.far (p := ⟨k, i, none⟩) hne a).far (p := ⟨k, j, none⟩) hne b).far (p := ⟨k, l, none⟩) hne c
/-- The machine, the store, the versions, what drafts remember. -/
structure Nk (w0 : World) (sb : Nat) (A : Option Addr) (n c : Nat) (v : Value) (S : Sn) (es : List El) (wr : World) : Prop where
  mach : Mach wr (w0.heap.size + 1) w0.heap.size A n c v S.ts es
  store : Blk wr sb 58 (storeC S.st)
  vers : Blk wr (sb + 1) 58 (storeC S.ver)
  kept : Blk wr (sb + 1 + 1) 59 (storeC S.kept.flatten)
  began : Blk wr (sb + 1 + 1 + 1) 59 (storeC S.began.flatten)
  bel : Below w0.heap.size w0 wr
  le : w0.heap.size < sb
section
variable {w0 wr w' : World} {sb n c : Nat} {A : Option Addr} {v : Value} {S : Sn} {es : List El}
theorem Nk.ne (h : Nk w0 sb A n c v S es wr) : ¬ OT.S v es sb ∧ ¬ OT.S v es (sb + 1) ∧ ¬ OT.S v es (sb + 1 + 1) ∧ ¬ OT.S v es (sb + 1 + 1 + 1) :=
  ⟨h.mach.own.notS h.store (by decide) (by decide), h.mach.own.notS h.vers (by decide) (by decide), h.mach.own.notS h.kept (by decide) (by decide), h.mach.own.notS h.began (by decide) (by decide)⟩
theorem Nk.chg {T : Nat → Prop} (h : Nk w0 sb A n c v S es wr) (hc : Chg T wr w') (h0 : ∀ k, T k → w0.heap.size < k) (h1 : ¬ T sb) (h2 : ¬ T (sb + 1)) (h4 : ¬ T (sb + 1 + 1)) (h5 : ¬ T (sb + 1 + 1 + 1)) (h3 : ∀ k, OT.S v es k → ¬ T k) : Nk w0 sb A n c v S es w' :=
  ⟨h.mach.chg hc (fun hs => by have := h0 _ hs; omega) h3, h.store.chg hc h1, h.vers.chg hc h2, h.kept.chg hc h4, h.began.chg hc h5, Chg.below h.bel hc (fun k hk => Nat.le_of_lt (h0 k hk)), h.le⟩
theorem Nk.below (h : Nk w0 sb A n c v S es wr) (hb : Below wr.heap.size wr w') : Nk w0 sb A n c v S es w' :=
  h.chg (T := fun _ => False) (Chg.of_below hb) (fun _ e => e.elim) id id id id (fun _ _ => id)
theorem Nk.alloc (h : Nk w0 sb A n c v S es wr) (o : Obj) : Nk w0 sb A n c v S es (wr.alloc o) := h.below ((Below.refl _ _).alloc (Nat.le_refl _) _)
theorem Nk.drew (h : Nk w0 sb A n c v S es wr) : Nk w0 sb A n c v S es wr.drew := h.below (Below.refl _ _).drew
/-- A store into a cell of another block. -/
theorem Nk.other {x : Nat} (h : Nk w0 sb A n c v S es wr) (hx : sb + 1 + 1 + 1 < x) (ho : ∀ k, OT.S v es k → k < x) (i : Nat) (u : Value) : Nk w0 sb A n c v S es (wr.setCell ⟨x, i, none⟩ u) := by
  have hle := h.le
  exact h.chg (Chg.setCell (S := fun k => k = x) (p := ⟨x, i, none⟩) rfl u) (fun k hk => by omega) (by omega) (by omega) (by omega) (by omega) (fun k hk e => by have := ho k hk; omega)
/-- Behind 'did'. -/
theorem Nk.did {ts' : List Tx} {es' : List El} (h : Nk w0 sb A n c v S es wr) (M : Mach w' (w0.heap.size + 1) w0.heap.size A n c v ts' es') (hc : Chg (OT.S v es) wr w') : Nk w0 sb A n c v ⟨ts', S.st, S.ver, S.kept, S.began⟩ es' w' := by
  obtain ⟨n1, n2, n3, n4⟩ := h.ne
  exact ⟨M, h.store.chg hc n1, h.vers.chg hc n2, h.kept.chg hc n3, h.began.chg hc n4, Chg.below h.bel hc (fun k hk => by have := (h.mach.own.range k hk).1; omega), h.le⟩
theorem Nk.putS (h : Nk w0 sb A n c v S es wr) (i : Nat) (x : Int) : Nk w0 sb A n c v ⟨S.ts, S.st.set i x, S.ver, S.kept, S.began⟩ es (wr.setCell ⟨sb, i, none⟩ (.int .i64 x)) := by
  have hle := h.le
  have hc := Chg.setCell (w := wr) (S := fun k => k = sb) (p := ⟨sb, i, none⟩) rfl (.int .i64 x)
  have K := h.store.set_ i (.int .i64 x)
  rw [storeC_set] at K
  exact ⟨h.mach.chg hc (by omega) (fun k hk e => h.ne.1 (e ▸ hk)), K, h.vers.chg hc (by omega), h.kept.chg hc (by omega), h.began.chg hc (by omega), Chg.below h.bel hc (fun k hk => by omega), h.le⟩
theorem Nk.putV (h : Nk w0 sb A n c v S es wr) (i : Nat) (x : Int) : Nk w0 sb A n c v ⟨S.ts, S.st, S.ver.set i x, S.kept, S.began⟩ es (wr.setCell ⟨sb + 1, i, none⟩ (.int .i64 x)) := by
  have hle := h.le
  have hc := Chg.setCell (w := wr) (S := fun k => k = sb + 1) (p := ⟨sb + 1, i, none⟩) rfl (.int .i64 x)
  have K := h.vers.set_ i (.int .i64 x)
  rw [storeC_set] at K
  exact ⟨h.mach.chg hc (by omega) (fun k hk e => h.ne.2.1 (e ▸ hk)), h.store.chg hc (by omega), K, h.kept.chg hc (by omega), h.began.chg hc (by omega), Chg.below h.bel hc (fun k hk => by omega), h.le⟩
theorem chg3 {T : Nat → Prop} {w w1 : World} {g : Nat} (h : Chg T w w1) (hg : T g) (i j k : Nat) (a b c : Value) : Chg T w (((w1.setCell ⟨g, i, none⟩ a).setCell ⟨g, j, none⟩ b).setCell ⟨g, k, none⟩ c) :=
  ((h.trans (Chg.setCell (p := ⟨g, i, none⟩) hg a)).trans (Chg.setCell (p := ⟨g, j, none⟩) hg b)).trans (Chg.setCell (p := ⟨g, k, none⟩) hg c)
/-- With its first step a draft remembers. -/
theorem Nk.begin {x y z p q r : Int} {n0 : Nat} (h : Nk w0 sb A n c v S es wr) (h1 : S.st = [x, y, z]) (h2 : S.ver = [p, q, r]) (hk : ∀ l ∈ S.kept, l.length = 3) (hb : ∀ l ∈ S.began, l.length = 3) (hn1 : n0 < S.kept.length) (hn2 : n0 < S.began.length) :
    Nk w0 sb A n c v ⟨S.ts, S.st, S.ver, S.kept.set n0 S.st, S.began.set n0 S.ver⟩ es ((((((wr.setCell ⟨sb + 1 + 1, n0 * 3, none⟩ (.int .i64 x)).setCell ⟨sb + 1 + 1, n0 * 3 + 1, none⟩ (.int .i64 y)).setCell ⟨sb + 1 + 1, n0 * 3 + 2, none⟩ (.int .i64 z)).setCell ⟨sb + 1 + 1 + 1, n0 * 3, none⟩ (.int .i64 p)).setCell ⟨sb + 1 + 1 + 1, n0 * 3 + 1, none⟩ (.int .i64 q)).setCell ⟨sb + 1 + 1 + 1, n0 * 3 + 2, none⟩ (.int .i64 r)) := by
  have hle := h.le
  obtain ⟨n1, n2, n3, n4⟩ := h.ne
  have hc := chg3 (chg3 (Chg.refl (S := fun k => k = sb + 1 + 1 ∨ k = sb + 1 + 1 + 1) wr) (.inl rfl) (n0 * 3) (n0 * 3 + 1) (n0 * 3 + 2) (.int .i64 x) (.int .i64 y) (.int .i64 z)) (.inr rfl) (n0 * 3) (n0 * 3 + 1) (n0 * 3 + 2) (.int .i64 p) (.int .i64 q) (.int .i64 r)
  have K := ((((h.kept.put3 (n0 * 3) x y z).far (p := ⟨sb + 1 + 1 + 1, n0 * 3, none⟩) (by show sb + 1 + 1 ≠ sb + 1 + 1 + 1; omega) (.int .i64 p)).far (p := ⟨sb + 1 + 1 + 1, n0 * 3 + 1, none⟩) (by show sb + 1 + 1 ≠ sb + 1 + 1 + 1; omega) (.int .i64 q)).far (p := ⟨sb + 1 + 1 + 1, n0 * 3 + 2, none⟩) (by show sb + 1 + 1 ≠ sb + 1 + 1 + 1; omega) (.int .i64 r))
  have B := (((h.began.far (p := ⟨sb + 1 + 1, n0 * 3, none⟩) (by show sb + 1 + 1 + 1 ≠ sb + 1 + 1; omega) (.int .i64 x)).far (p := ⟨sb + 1 + 1, n0 * 3 + 1, none⟩) (by show sb + 1 + 1 + 1 ≠ sb + 1 + 1; omega) (.int .i64 y)).far (p := ⟨sb + 1 + 1, n0 * 3 + 2, none⟩) (by show sb + 1 + 1 + 1 ≠ sb + 1 + 1; omega) (.int .i64 z)).put3 (n0 * 3) p q r
  rw [← flat_set _ hk _ _ _ _ hn1, ← h1] at K
  rw [← flat_set _ hb _ _ _ _ hn2, ← h2] at B
  exact ⟨h.mach.chg hc (by omega) (fun k hk e => by rcases e with rfl | rfl; exact n3 hk; exact n4 hk), h.store.chg hc (by omega), h.vers.chg hc (by omega), K, B, Chg.below h.bel hc (fun k hk => by omega), h.le⟩
/-- A transaction's mark set. -/
theorem Nk.done {g cg : Nat} (h : Nk w0 sb A n c (.slice (some ⟨g, 0, none⟩) n cg) S es wr) {n0 : Nat} {t : Tx} (hn : n0 < n) (ht : S.ts[n0]? = some t) :
    ∃ es', Nk w0 sb A n c (.slice (some ⟨g, 0, none⟩) n cg) ⟨S.ts.set n0 (t.1, t.2.1, true), S.st, S.ver, S.kept, S.began⟩ es' (wr.setCell ⟨g, n0 * 3 + 2, none⟩ (.bool true)) := by
  obtain ⟨g', cg', Au, cu, hv, hnc, hlg, hgs, he, huc, c1, c2, ho⟩ := h.mach.look hn ht
  obtain ⟨rfl, rfl⟩ : g = g' ∧ cg = cg' := by simpa using hv
  have hle := h.le
  obtain ⟨n1, n2, n3, n4⟩ := h.ne
  have D12 := h.mach.own.set2 he true
  have hgm : w0.heap.size ≠ g := by omega
  have hsy := h.mach.says.set_ n0 (t.1, t.2.1, true) (.slice Au t.2.1.length cu) t.2.1.length
  exact ⟨_, ⟨h.mach.box.far (p := ⟨g, n0 * 3 + 2, none⟩) hgm (.bool true), D12, hsy, by omega⟩, h.store.far (p := ⟨g, n0 * 3 + 2, none⟩) (fun e => n1 (.inl (by rw [e]; rfl))) (.bool true), h.vers.far (p := ⟨g, n0 * 3 + 2, none⟩) (fun e => n2 (.inl (by rw [e]; rfl))) (.bool true),
    h.kept.far (p := ⟨g, n0 * 3 + 2, none⟩) (fun e => n3 (.inl (by rw [e]; rfl))) (.bool true), h.began.far (p := ⟨g, n0 * 3 + 2, none⟩) (fun e => n4 (.inl (by rw [e]; rfl))) (.bool true), h.bel.setCell (p := ⟨g, n0 * 3 + 2, none⟩) (by show w0.heap.size ≤ g; omega) (.bool true), h.le⟩
end
end Go.Proofs.YtcfkemchekmjbaaGreatDoor

namespace Go.Proofs.YtcfkemchekmjbaaGreatDoor
open Go.RowKit Go.Maps
theorem reads_c {x y z : Int} {w : World} : Calls Tryz.prog 35 #[.agg #[.int .i64 x, .int .i64 y, .int .i64 z]] w fun e w' => e = .returned (.bool (x == 1)) ∧ Below w.heap.size w w' := by
  go_enter Tryz.func35, Tryz.ntmps35
  go_wp2_with fail
  go_ret
  exact ⟨rfl, (Below.refl _ _).alloc (Nat.le_refl _) _⟩
end Go.Proofs.YtcfkemchekmjbaaGreatDoor
