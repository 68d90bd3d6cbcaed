/- Plans run without isolation, as Lean values. -/
import Derived.Test.YtefopnkicllpeaaDoorRun1
namespace Go.Proofs.YtefopnkicllpeaaDoor

/-- The steps of a draft; the operations that a transaction has. -/
def stepsOf (ds : Ds) (n : Nat) : List T3 := (ds.getD n (0, [])).2
def opsOf (ts : List Tx) (n : Nat) : List T3 := (ts.getD n (0, [], false)).2.1
def sesOf (ts : List Tx) (n : Nat) : Int := (ts.getD n (0, [], false)).1
def valOf (n at_ : Nat) : Int := 10 * ((n : Int) + 1) + at_ + 1
/-- What a step reads or writes. -/
def dirtyV (st : List Int) (n at_ : Nat) (s : T3) : Int := if s.1 = 2 then valOf n at_ else st.getD s.2.1.toNat 0
def dirtyS (st : List Int) (n at_ : Nat) (s : T3) : List Int := if s.1 = 2 then st.set s.2.1.toNat (valOf n at_) else st
abbrev RunSt := List Tx × List Int
def dirty1 (ds : Ds) (S : RunSt) (n : Nat) : RunSt :=
  match (stepsOf ds n)[(opsOf S.1 n).length]? with
  | none => S
  | some s => (S.1.set n (sesOf S.1 n, opsOf S.1 n ++ [(s.1, s.2.1, dirtyV S.2 n (opsOf S.1 n).length s)], decide ((opsOf S.1 n).length + 1 = (stepsOf ds n).length)), dirtyS S.2 n (opsOf S.1 n).length s)
def dirtyR (ds : Ds) (xs : List Int) : RunSt := xs.foldl (fun S x => dirty1 ds S x.toNat) (emptyT ds, [0, 0, 0])
def dirtyL (ds : Ds) (xs : List Int) : List Tx := if runB ds xs then (dirtyR ds xs).1 else []
theorem foldl_snoc {α β : Type} (f : β → α → β) (b : β) {xs : List α} {k : Nat} {x : α} (h : xs[k]? = some x) : (xs.take (k + 1)).foldl f b = f ((xs.take k).foldl f b) x := by
  rw [List.take_add_one, h, List.foldl_append]; rfl
theorem dirtyR_snoc {ds : Ds} {xs : List Int} {k : Nat} {x : Int} (h : xs[k]? = some x) : dirtyR ds (xs.take (k + 1)) = dirty1 ds (dirtyR ds (xs.take k)) x.toNat := foldl_snoc _ _ h

/-- A state that goes with the plan: each transaction has at most the steps of its draft, and is done if it has all. -/
def Fits (ds : Ds) (ts : List Tx) : Prop := ts.length = ds.length ∧ ∀ (n : Nat) (d : Int × List T3) (t : Tx), ds[n]? = some d → ts[n]? = some t → t.1 = d.1 ∧ t.2.1.length ≤ d.2.length ∧ t.2.2 = decide (t.2.1.length = d.2.length)
def Vals (st : List Int) : Prop := st.length = 3 ∧ ∀ v ∈ st, 0 ≤ v ∧ v ≤ 99
theorem runB_parts {ds : Ds} {xs : List Int} (h : runB ds xs = true) : ds.length ≤ 4 ∧ (∀ d ∈ ds, draftB d = true) ∧ xs.length ≤ 40 ∧ ∀ x ∈ xs, 0 ≤ x ∧ x < ds.length := by
  unfold runB planB schedB at h
  simp only [Bool.and_eq_true, decide_eq_true_eq, List.all_eq_true] at h
  obtain ⟨⟨h1, h2⟩, h3, h4, h5⟩ := h
  exact ⟨h1, h2, h4, fun x hx => by have := (inB_iff _ _ _).1 (h5 x hx); omega⟩
theorem draftB_parts {d : Int × List T3} (h : draftB d = true) : 1 ≤ d.2.length ∧ d.2.length ≤ 4 ∧ (0 ≤ d.1 ∧ d.1 ≤ 3) ∧ ∀ s ∈ d.2, (s.1 = 1 ∨ s.1 = 2) ∧ (0 ≤ s.2.1 ∧ s.2.1 ≤ 2) ∧ s.2.2 = 0 := by
  unfold draftB at h
  simp only [Bool.and_eq_true, List.all_eq_true] at h
  obtain ⟨h1, h2, h3⟩ := h
  have h1 := (inB_iff _ _ _).1 h1
  have h2 := (inB_iff _ _ _).1 h2
  refine ⟨by omega, by omega, h1, fun s hs => ?_⟩
  have := h3 s hs
  unfold stepB at this
  simp only [Bool.and_eq_true, beq_iff_eq] at this
  obtain ⟨a, b, c⟩ := this
  have a := (inB_iff _ _ _).1 a
  have b := (inB_iff _ _ _).1 b
  exact ⟨by omega, b, c⟩
theorem Fits.empty {ds : Ds} (h : ∀ d ∈ ds, draftB d = true) : Fits ds (emptyT ds) := by
  refine ⟨by simp [emptyT], fun n d t hd ht => ?_⟩
  have hl := (draftB_parts (h d (List.mem_of_getElem? hd))).1
  unfold emptyT at ht
  rw [List.getElem?_map, hd] at ht
  injection ht with ht; subst ht
  refine ⟨rfl, by simp, ?_⟩
  simp; omega
theorem Vals.zero : Vals [0, 0, 0] := ⟨rfl, fun v h => by simp at h; omega⟩
theorem Fits.at_ {ds : Ds} {ts : List Tx} (h : Fits ds ts) {n : Nat} (hn : n < ds.length) : ∃ d t, ds[n]? = some d ∧ ts[n]? = some t ∧ stepsOf ds n = d.2 ∧ opsOf ts n = t.2.1 ∧ sesOf ts n = t.1 ∧ t.2.1.length ≤ d.2.length ∧ t.2.2 = decide (t.2.1.length = d.2.length) := by
  have h1 : ds[n]? = some (ds[n]'hn) := List.getElem?_eq_getElem hn
  have hn2 : n < ts.length := by rw [h.1]; exact hn
  have h2 : ts[n]? = some (ts[n]'hn2) := List.getElem?_eq_getElem hn2
  obtain ⟨a, b, c⟩ := h.2 n _ _ h1 h2
  exact ⟨_, _, h1, h2, by simp [stepsOf, List.getD, h1], by simp [opsOf, List.getD, h2], by simp [sesOf, List.getD, h2], b, c⟩
/-- One more operation. -/
theorem Fits.step {ds : Ds} {ts : List Tx} (h : Fits ds ts) {n : Nat} {d : Int × List T3} {t : Tx} (hd : ds[n]? = some d) (ht : ts[n]? = some t) (hl : t.2.1.length < d.2.length) (o : T3) : Fits ds (ts.set n (t.1, t.2.1 ++ [o], decide (t.2.1.length + 1 = d.2.length))) := by
  refine ⟨by simp [h.1], fun i d' t' hd' ht' => ?_⟩
  by_cases e : n = i
  · subst e
    rw [List.getElem?_set_self (List.getElem?_eq_some_iff.1 ht).1] at ht'
    injection ht' with ht'; subst ht'
    have := hd.symm.trans hd'
    injection this with this; subst this
    refine ⟨(h.2 n d t hd ht).1, by simp; omega, by simp⟩
  · rw [List.getElem?_set_ne e] at ht'
    exact h.2 i d' t' hd' ht'
theorem dirty1_none {ds : Ds} {S : RunSt} {n : Nat} {d : Int × List T3} {t : Tx} (hs : stepsOf ds n = d.2) (ho : opsOf S.1 n = t.2.1) (hl : t.2.1.length = d.2.length) : dirty1 ds S n = S := by
  unfold dirty1; rw [hs, ho, hl, List.getElem?_eq_none (Nat.le_refl _)]
theorem dirty1_some {ds : Ds} {S : RunSt} {n : Nat} {d : Int × List T3} {t : Tx} {s : T3} (hs : stepsOf ds n = d.2) (ho : opsOf S.1 n = t.2.1) (he : sesOf S.1 n = t.1) (hl : d.2[t.2.1.length]? = some s) :
    dirty1 ds S n = (S.1.set n (t.1, t.2.1 ++ [(s.1, s.2.1, dirtyV S.2 n t.2.1.length s)], decide (t.2.1.length + 1 = d.2.length)), dirtyS S.2 n t.2.1.length s) := by
  unfold dirty1; rw [hs, ho, he, hl]
theorem valOf_bd {n at_ : Nat} (hn : n < 4) (ha : at_ < 4) : 0 ≤ valOf n at_ ∧ valOf n at_ ≤ 99 := by unfold valOf; omega
theorem Vals.set_ {st : List Int} (h : Vals st) (i : Nat) {v : Int} (hv : 0 ≤ v ∧ v ≤ 99) : Vals (st.set i v) :=
  ⟨by simp [h.1], fun x hx => by
    rcases List.mem_or_eq_of_mem_set hx with hx | rfl
    · exact h.2 x hx
    · exact hv⟩

end Go.Proofs.YtefopnkicllpeaaDoor
