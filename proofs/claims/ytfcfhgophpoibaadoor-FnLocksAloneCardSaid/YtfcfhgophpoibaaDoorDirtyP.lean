/- What a run without isolation leaves: a valid history, as many operations as the schedule gives (plain). -/
import Derived.Test.YtfcfhgophpoibaaDoorHistP
namespace Go.Proofs.YtfcfhgophpoibaaDoor

def OpsOk (ts : List Tx) : Prop := ∀ (n : Nat) (t : Tx), ts[n]? = some t → ∀ (j : Nat) (o : T3), t.2.1[j]? = some o → opB o = true ∧ (o.1 = 2 → o.2.2 = valOf n j)
theorem OpsOk.step {ts : List Tx} (h : OpsOk ts) {n : Nat} {t : Tx} (ht : ts[n]? = some t) {o : T3} (ho : opB o = true ∧ (o.1 = 2 → o.2.2 = valOf n t.2.1.length)) (f : Int) (dn : Bool) : OpsOk (ts.set n (f, t.2.1 ++ [o], dn)) := by
  intro m u hu j p hp
  by_cases e : n = m
  · subst e
    rw [List.getElem?_set_self (List.getElem?_eq_some_iff.1 ht).1] at hu
    injection hu with hu; subst hu
    by_cases hj : j < t.2.1.length
    · rw [List.getElem?_append_left hj] at hp
      exact h n t ht j p hp
    · have hp' : (t.2.1 ++ [o])[j]? = some p := hp
      have : j = t.2.1.length := by have := (List.getElem?_eq_some_iff.1 hp').1; simp at this; omega
      subst this
      simp at hp'; subst hp'; exact ho
  · rw [List.getElem?_set_ne e] at hu
    exact h m u hu j p hp
theorem OpsOk.empty (ds : Ds) : OpsOk (emptyT ds) := fun n t ht j o ho => by
  unfold emptyT at ht
  rw [List.getElem?_map] at ht
  cases hd : ds[n]? <;> rw [hd] at ht <;> simp at ht
  subst ht; simp at ho
/-- Values ascend. -/
def Asc (l : List (Int × Int)) (m : Int) : Prop := l.Pairwise (fun a b => a.2 < b.2) ∧ ∀ q ∈ l, q.2 < m
theorem Asc.push {l : List (Int × Int)} {m m' : Int} (h : Asc l m) (k : Int) (hm : m < m') : Asc (l ++ [(k, m)]) m' := by
  refine ⟨List.pairwise_append.2 ⟨h.1, List.pairwise_singleton _ _, fun a ha b hb => ?_⟩, fun q hq => ?_⟩
  · simp at hb; subst hb; exact h.2 a ha
  · rcases List.mem_append.1 hq with hq | hq
    · have := h.2 q hq; omega
    · simp at hq; subst hq; exact hm
theorem Asc.mono {l : List (Int × Int)} {m m' : Int} (h : Asc l m) (hm : m ≤ m') : Asc l m' := ⟨h.1, fun q hq => by have := h.2 q hq; omega⟩
theorem Asc.nodup {l : List (Int × Int)} {m : Int} (h : Asc l m) : l.Nodup := h.1.imp (fun {a b} hab e => by subst e; omega)
theorem asc_ops {ts : List Tx} (h : OpsOk ts) {n : Nat} {t : Tx} (ht : ts[n]? = some t) (h0 : Asc (wl (opsTo ts n 0)) (valOf n 0)) : ∀ j, j ≤ t.2.1.length → Asc (wl (opsTo ts n j)) (valOf n j)
  | 0, _ => h0
  | j + 1, hj => by
    have ih := asc_ops h ht h0 j (by omega)
    have ho : t.2.1[j]? = some (t.2.1[j]'(by omega)) := List.getElem?_eq_getElem _
    have hlt : valOf n j < valOf n (j + 1) := by unfold valOf; omega
    by_cases hw : (t.2.1[j]'(by omega)).1 = 2
    · rw [wl_step_w ht ho hw, (h n t ht j _ ho).2 hw]
      exact ih.push _ hlt
    · rw [wl_step_r ht ho hw]; exact ih.mono (by omega)
theorem asc_txns {ts : List Tx} (h : OpsOk ts) (h4 : ∀ t ∈ ts, t.2.1.length ≤ 4) : ∀ n, n ≤ ts.length → Asc (wl (opsTo ts n 0)) (valOf n 0)
  | 0, _ => by rw [opsTo_zero]; exact ⟨List.Pairwise.nil, fun q hq => by simp [wl] at hq⟩
  | n + 1, hn => by
    have ih := asc_txns h h4 n (by omega)
    have ht : ts[n]? = some (ts[n]'(by omega)) := List.getElem?_eq_getElem _
    have h1 := asc_ops h ht ih _ (Nat.le_refl _)
    rw [opsTo_next ht (Nat.le_refl _)]
    exact h1.mono (by have := h4 _ (List.mem_of_getElem? ht); unfold valOf; omega)
theorem OpsOk.valid {ts : List Tx} (h : OpsOk ts) (h4 : Lean4 ts) (hs : ∀ t ∈ ts, 0 ≤ t.1 ∧ t.1 ≤ 3) : histB ts = true := by
  refine histB_mk (by have := h4.1; omega) (fun t ht => ?_) ?_
  · obtain ⟨i, hi, he⟩ := List.mem_iff_getElem.1 ht
    have h1 : ts[i]? = some t := by rw [← he]; exact List.getElem?_eq_getElem hi
    unfold txnB
    simp only [Bool.and_eq_true, List.all_eq_true, decide_eq_true_eq, inB_iff]
    refine ⟨fun o ho => ?_, hs t ht, by have := h4.2 t ht; omega⟩
    obtain ⟨j, hj, hg⟩ := List.mem_iff_getElem.1 ho
    exact (h i t h1 j o (by rw [← hg]; exact List.getElem?_eq_getElem hj)).1
  · have := (asc_txns h h4.2 ts.length (Nat.le_refl _)).nodup
    rwa [opsTo_all (Nat.le_refl _)] at this

theorem dirty_inv {ms : Ds} {xs : List Int} (h : runB ms xs = true) : ∀ k, k ≤ xs.length → OpsOk (dirtyR ms (xs.take k)).1 ∧ Vals (dirtyR ms (xs.take k)).2 := by
  obtain ⟨hm4, hdb, _, hxb⟩ := runB_parts h
  intro k
  induction k with
  | zero => intro _; simp only [List.take_zero]; exact ⟨OpsOk.empty ms, Vals.zero⟩
  | succ k ih =>
    intro hk
    obtain ⟨ih1, ih2⟩ := ih (by omega)
    have hf := dirtyR_fits h k (by omega)
    have hx : xs[k]? = some (xs[k]'(by omega)) := List.getElem?_eq_getElem _
    rw [dirtyR_snoc hx]
    obtain ⟨h0, h1⟩ := hxb _ (List.mem_of_getElem? hx)
    obtain ⟨d, t, hd, ht, hst, hop, hse, hle, hdn⟩ := hf.at_ (n := (xs[k]'(by omega)).toNat) (by omega)
    by_cases hfull : t.2.1.length = d.2.length
    · rw [dirty1_none hst hop hfull]; exact ⟨ih1, ih2⟩
    · obtain ⟨s, hs⟩ : ∃ s, d.2[t.2.1.length]? = some s := ⟨_, List.getElem?_eq_getElem (by omega)⟩
      rw [dirty1_some hst hop hse hs]
      obtain ⟨_, hb2, _, hb4⟩ := draftB_parts (hdb d (List.mem_of_getElem? hd))
      obtain ⟨hk1, hy, _⟩ := hb4 s (List.mem_of_getElem? hs)
      have hv := valOf_bd (n := (xs[k]'(by omega)).toNat) (at_ := t.2.1.length) (by omega) (by omega)
      have hv0 : 0 < valOf (xs[k]'(by omega)).toNat t.2.1.length := by unfold valOf; omega
      refine ⟨ih1.step ht ⟨?_, ?_⟩ _ _, ?_⟩
      · unfold opB dirtyV
        simp only [Bool.and_eq_true, inB_iff, Bool.or_eq_true, beq_iff_eq, decide_eq_true_eq]
        rcases hk1 with e | e
        · rw [if_neg (by omega)]
          refine ⟨by omega, hy, ?_, .inl e⟩
          have hl := ih2.1
          rw [List.getD_eq_getElem?_getD, List.getElem?_eq_getElem (show s.2.1.toNat < (dirtyR ms (xs.take k)).2.length by omega)]
          exact ih2.2 _ (List.getElem_mem _)
        · rw [if_pos e]; exact ⟨by omega, hy, hv, .inr hv0⟩
      · intro e
        show dirtyV _ _ _ s = _
        unfold dirtyV; rw [if_pos e]
      · unfold dirtyS
        split
        · exact ih2.set_ _ hv
        · exact ih2
theorem dirtyL_ses {ms : Ds} {xs : List Int} (h : runB ms xs = true) : ∀ t ∈ dirtyL ms xs, 0 ≤ t.1 ∧ t.1 ≤ 3 := fun t ht => by
  obtain ⟨_, hdb, _, _⟩ := runB_parts h
  have hf := dirtyL_fits h
  obtain ⟨i, hi, he⟩ := List.mem_iff_getElem.1 ht
  have h1 : (dirtyL ms xs)[i]? = some t := by rw [← he]; exact List.getElem?_eq_getElem hi
  have hl : i < ms.length := by rw [← hf.1]; exact hi
  have := (hf.2 i _ t (List.getElem?_eq_getElem hl) h1).1
  rw [this]
  exact (draftB_parts (hdb _ (List.getElem_mem hl))).2.2.1
theorem dirtyL_eq {ms : Ds} {xs : List Int} (h : runB ms xs = true) : dirtyL ms xs = (dirtyR ms xs).1 := by simp [dirtyL, h]
theorem dirtyL_valid {ms : Ds} {xs : List Int} (h : runB ms xs = true) : histB (dirtyL ms xs) = true := by
  have h1 := (dirty_inv h xs.length (Nat.le_refl _)).1
  rw [List.take_length, ← dirtyL_eq h] at h1
  exact h1.valid (dirtyL_four ms xs) (dirtyL_ses h)
/-- How often k comes among the first j. -/
def cntTo (xs : List Int) (k j : Nat) : Nat := (xs.take j).count (k : Int)
theorem cntTo_zero (xs : List Int) (k : Nat) : cntTo xs k 0 = 0 := by simp [cntTo]
theorem cntTo_yes {xs : List Int} {k j : Nat} (h : xs[j]? = some (k : Int)) : cntTo xs k (j + 1) = cntTo xs k j + 1 := by
  unfold cntTo; rw [List.take_add_one, h]; simp
theorem cntTo_no {xs : List Int} {k j : Nat} {x : Int} (h : xs[j]? = some x) (hx : x ≠ (k : Int)) : cntTo xs k (j + 1) = cntTo xs k j := by
  unfold cntTo; rw [List.take_add_one, h]; simp [List.count_append, hx]
theorem cntTo_le (xs : List Int) (k j : Nat) : cntTo xs k j ≤ j := by
  unfold cntTo
  have h1 := List.count_le_length (a := (k : Int)) (l := xs.take j)
  have h2 := List.length_take_le j xs
  omega
theorem dirty_cnt {ms : Ds} {xs : List Int} (h : runB ms xs = true) : ∀ k, k ≤ xs.length → ∀ (n : Nat) (d : Int × List T3) (t : Tx), ms[n]? = some d → (dirtyR ms (xs.take k)).1[n]? = some t → t.2.1.length = min (cntTo xs n k) d.2.length := by
  obtain ⟨hm4, hdb, _, hxb⟩ := runB_parts h
  intro k
  induction k with
  | zero =>
    intro _ n d t hd ht
    have ht : (emptyT ms)[n]? = some t := ht
    unfold emptyT at ht
    rw [List.getElem?_map, hd] at ht
    injection ht with ht; subst ht
    simp [cntTo]
  | succ k ih =>
    intro hk n d t hd ht
    have ih := ih (by omega)
    have hf := dirtyR_fits h k (by omega)
    have hx : xs[k]? = some (xs[k]'(by omega)) := List.getElem?_eq_getElem _
    obtain ⟨x, hxe⟩ : ∃ x, xs[k]'(by omega) = x := ⟨_, rfl⟩
    rw [hxe] at hx
    rw [dirtyR_snoc hx] at ht
    obtain ⟨h0, h1⟩ := hxb _ (List.mem_of_getElem? hx)
    obtain ⟨x, rfl⟩ : ∃ q : Nat, x = q := ⟨x.toNat, by omega⟩
    rw [Int.toNat_natCast] at ht
    obtain ⟨d', t', hd', ht', hst, hop, hse, hle, hdn⟩ := hf.at_ (n := x) (by omega)
    by_cases e : x = n
    · subst e
      rw [cntTo_yes hx]
      rw [hd] at hd'; injection hd' with hd'; subst hd'
      have ihn := ih x d t' hd ht'
      by_cases hfull : t'.2.1.length = d.2.length
      · rw [dirty1_none hst hop hfull, ht'] at ht
        injection ht with ht; subst ht; omega
      · obtain ⟨s, hs⟩ : ∃ s, d.2[t'.2.1.length]? = some s := ⟨_, List.getElem?_eq_getElem (by omega)⟩
        rw [dirty1_some hst hop hse hs] at ht
        have ht : ((dirtyR ms (xs.take k)).1.set x _)[x]? = some t := ht
        rw [List.getElem?_set_self (List.getElem?_eq_some_iff.1 ht').1] at ht
        injection ht with ht; subst ht
        simp; omega
    · rw [cntTo_no hx (by omega)]
      by_cases hfull : t'.2.1.length = d'.2.length
      · rw [dirty1_none hst hop hfull] at ht
        exact ih n d t hd ht
      · obtain ⟨s, hs⟩ : ∃ s, d'.2[t'.2.1.length]? = some s := ⟨_, List.getElem?_eq_getElem (by omega)⟩
        rw [dirty1_some hst hop hse hs] at ht
        have ht : ((dirtyR ms (xs.take k)).1.set x _)[n]? = some t := ht
        rw [List.getElem?_set_ne e] at ht
        exact ih n d t hd ht
/-- The law's facts at a transaction. -/
theorem dirtyL_at {ms : Ds} {xs : List Int} (h : runB ms xs = true) {n : Nat} {d : Int × List T3} {t : Tx} (hd : ms[n]? = some d) (ht : (dirtyL ms xs)[n]? = some t) :
    t.1 = d.1 ∧ t.2.1.length = min (cntTo xs n xs.length) d.2.length ∧ t.2.2 = decide (d.2.length ≤ cntTo xs n xs.length) := by
  have hf := (dirtyL_fits h).2 n d t hd ht
  rw [dirtyL_eq h] at ht
  have hc := dirty_cnt h xs.length (Nat.le_refl _) n d t hd (by rw [List.take_length]; exact ht)
  refine ⟨hf.1, hc, ?_⟩
  rw [hf.2.2, hc]
  exact decide_eq_decide.2 (by omega)

end Go.Proofs.YtfcfhgophpoibaaDoor
