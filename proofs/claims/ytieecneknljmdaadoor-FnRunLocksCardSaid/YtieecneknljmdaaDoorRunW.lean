/- Bounds of what a run leaves. -/
import Derived.Test.YtieecneknljmdaaDoorRunI5
import Derived.Test.YtieecneknljmdaaDoorDrs3
namespace Go.Proofs.YtieecneknljmdaaDoor

theorem dirtyR_fits {ms : Ds} {xs : List Int} (h : runB ms xs = true) : ∀ k, k ≤ xs.length → Fits ms (dirtyR ms (xs.take k)).1 := by
  obtain ⟨_, hdb, _, hxb⟩ := runB_parts h
  intro k
  induction k with
  | zero => intro _; simpa [dirtyR] using Fits.empty hdb
  | succ k ih =>
    intro hk
    have hf := ih (by omega)
    have hx : xs[k]? = some (xs[k]'(by omega)) := List.getElem?_eq_getElem _
    rw [dirtyR_snoc hx]
    obtain ⟨h0, h1⟩ := hxb _ (List.mem_of_getElem? hx)
    obtain ⟨d, t, hd, ht, hst, hop, hse, hle, hdn⟩ := hf.at_ (n := (xs[k]'(by omega)).toNat) (by omega)
    by_cases hfull : t.2.1.length = d.2.length
    · rw [dirty1_none hst hop hfull]; exact hf
    · obtain ⟨s, hs⟩ : ∃ s, d.2[t.2.1.length]? = some s := ⟨_, List.getElem?_eq_getElem (by omega)⟩
      rw [dirty1_some hst hop hse hs]
      exact hf.step hd ht (by omega) _
theorem dirtyL_fits {ms : Ds} {xs : List Int} (h : runB ms xs = true) : Fits ms (dirtyL ms xs) := by
  have := dirtyR_fits h xs.length (Nat.le_refl _)
  rw [List.take_length] at this
  simp [dirtyL, h]; exact this
/-- A history that may lie there: at most 4 transactions of at most 4 operations. -/
def Lean4 (ts : List Tx) : Prop := ts.length ≤ 4 ∧ ∀ t ∈ ts, t.2.1.length ≤ 4
theorem Lean4.nil : Lean4 [] := ⟨by simp, fun t h => by simp at h⟩
theorem Fits.four {ms : Ds} {xs : List Int} {ts : List Tx} (h : Fits ms ts) (hr : runB ms xs = true) : Lean4 ts := by
  obtain ⟨hn, hdb, _, _⟩ := runB_parts hr
  refine ⟨by rw [h.1]; exact hn, fun t ht => ?_⟩
  obtain ⟨i, hi, he⟩ := List.mem_iff_getElem.1 ht
  have h1 : ts[i]? = some t := by rw [← he]; exact List.getElem?_eq_getElem hi
  obtain ⟨d, t', h2, h3, _, _, _, h4, _⟩ := h.at_ (n := i) (by rw [← h.1]; exact hi)
  rw [h1] at h3; injection h3 with h3; subst h3
  have := (draftB_parts (hdb d (List.mem_of_getElem? h2))).2.1
  omega
theorem dirtyL_four (ms : Ds) (xs : List Int) : Lean4 (dirtyL ms xs) := by
  cases h : runB ms xs
  · simp [dirtyL, h]; exact Lean4.nil
  · exact (dirtyL_fits h).four h
theorem Lean4.small {ts : List Tx} (h : Lean4 ts) : SmallT ts := fun t ht => by have := h.2 t ht; omega
theorem sumE_le (c : Nat) : ∀ (es : List El), (∀ e ∈ es, e.2.1.2.1 ≤ c) → sumE es ≤ es.length * (c * 3 + 2)
  | [], _ => by simp [sumE]
  | e :: es, h => by
    have h1 := sumE_le c es (fun x hx => h x (List.mem_cons_of_mem _ hx))
    have h2 := h e (List.mem_cons_self ..)
    have h3 : sumE (e :: es) = e.2.1.2.1 * 3 + 2 + sumE es := by simp [sumE]
    rw [h3, List.length_cons, Nat.add_mul]
    omega
theorem OV.sum {w : World} {lo n : Nat} {v : Value} {es : List El} {ts : List Tx} (D : OV w lo v n es) (hs : SaysT es ts) (h4 : Lean4 ts) : sumE es ≤ 56 := by
  have hl := hs.len
  have h1 := sumE_le 4 es (fun e he => by
    obtain ⟨i, hi, hg⟩ := List.mem_iff_getElem.1 he
    have he' : es[i]? = some e := by rw [← hg]; exact List.getElem?_eq_getElem hi
    have ht : ts[i]? = some (ts[i]'(by omega)) := List.getElem?_eq_getElem _
    obtain ⟨e', h2, _, h3, _⟩ := hs.at_ ht
    rw [he'] at h2; injection h2 with h2; subst h2
    have h5 := (D.own i e he').len
    rw [h3, flat3_len] at h5
    have := h4.2 _ (List.mem_of_getElem? ht)
    omega)
  have := h4.1
  have h6 : es.length * (4 * 3 + 2) ≤ 4 * 14 := Nat.mul_le_mul (by omega) (Nat.le_refl _)
  omega
theorem szDL_sum : ∀ (ms : Ds) (l : Int), 0 ≤ l → ¬ szDL l ms < 0 → (((ms.map (·.2.length)).sum : Nat) : Int) ≤ l := by
  intro ms
  induction ms with
  | nil => intro l h _; simpa using h
  | cons m ms ih =>
    intro l hl h
    rw [szDL_cons] at h
    by_cases hn : szN l m.2.length < 0
    · rw [if_pos hn] at h; omega
    · rw [if_neg hn] at h
      have e : szN l m.2.length = l - m.2.length ∧ (m.2.length : Int) ≤ l := by
        unfold szN at hn ⊢
        by_cases hh : (m.2.length : Int) ≤ l
        · rw [if_pos hh]; exact ⟨rfl, hh⟩
        · rw [if_neg hh] at hn; omega
      have := ih _ (by omega) h
      simp only [List.map_cons, List.sum_cons]
      omega
theorem szDS_ok {ms : Ds} {n : Nat} (hl : ms.length = n) (h : ¬ szDS 1048576 ms < 0) : n ≤ 1048576 ∧ SmallD ms ∧ (ms.map (·.2.length)).sum + n ≤ 1048576 := by
  unfold szDS at h
  split at h
  · omega
  · have := szDL_ok ms (1048576 - ms.length) (by omega) (by omega)
    have h2 := szDL_sum ms (1048576 - ms.length) (by omega) h
    exact ⟨by omega, fun m hm => by have := this.1 m hm; omega, by omega⟩
theorem sumD_of {is : List In} {ms : Ds} (h : is.map (·.2.1) = ms.map (·.2.length)) : sumD is = (ms.map (·.2.length)).sum * 3 + ms.length := by
  have hl : is.length = ms.length := by have := congrArg List.length h; simpa using this
  rw [← h, ← hl]
  unfold sumD
  clear h hl
  induction is with
  | nil => rfl
  | cons q is ih => simp only [List.map_cons, List.sum_cons, List.length_cons] at *; omega

end Go.Proofs.YtieecneknljmdaaDoor
