/- A run with locks: what holds behind any schedule. -/
import Derived.Test.YtfcfhgophpoibaaDoorRunK2
import Derived.Test.YtfcfhgophpoibaaDoorRunW
namespace Go.Proofs.YtfcfhgophpoibaaDoor

theorem lockR_inv {ms : Ds} {xs : List Int} (h : runB ms xs = true) : ∀ k, k ≤ xs.length → LockI ms (lockR ms (xs.take k)) := by
  obtain ⟨hn4, hdb, _, hxb⟩ := runB_parts h
  intro k
  induction k with
  | zero => intro _; simpa [lockR] using LockI.zero hdb
  | succ k ih =>
    intro hk
    have hi := ih (by omega)
    have hx : xs[k]? = some (xs[k]'(by omega)) := List.getElem?_eq_getElem _
    rw [lockR_snoc hx]
    obtain ⟨h0, h1⟩ := hxb _ (List.mem_of_getElem? hx)
    generalize lockR ms (xs.take k) = S at hi ⊢
    obtain ⟨d, t, hd, ht, hst, hop, hse, hle, hdn⟩ := hi.fits.at_ (n := (xs[k]'(by omega)).toNat) (by omega)
    have hdp := draftB_parts (hdb d (List.mem_of_getElem? hd))
    by_cases hfull : t.2.1.length = d.2.length
    · rw [lock1_none hst hop hfull]; exact hi
    · obtain ⟨s, hs⟩ : ∃ s, d.2[t.2.1.length]? = some s := ⟨_, List.getElem?_eq_getElem (by omega)⟩
      obtain ⟨hk12, hy, _⟩ := hdp.2.2.2 s (List.mem_of_getElem? hs)
      by_cases hw : S.2.2.getD s.2.1.toNat 0 ≠ 0 ∧ S.2.2.getD s.2.1.toNat 0 ≠ ((xs[k]'(by omega)).toNat : Int) + 1
      · rw [lock1_held hst hop hs hw]; exact hi
      · by_cases hm : t.2.1.length + 1 = d.2.length
        · rw [lock1_last hst hop hse hs hw hm]; exact hi.last ht hd (by omega) (by omega) (by omega) hk12 hy hw hm
        · rw [lock1_more hst hop hse hs hw hm]; exact hi.more ht hd (by omega) (by omega) (by omega) hk12 hy hw hm
theorem lockR_all {ms : Ds} {xs : List Int} (h : runB ms xs = true) : LockI ms (lockR ms xs) := by
  have := lockR_inv h xs.length (Nat.le_refl _)
  rwa [List.take_length] at this
theorem lockL_four (ms : Ds) (xs : List Int) : Lean4 (lockL ms xs) := by
  cases h : runB ms xs
  · have : lockL ms xs = [] := by simp [lockL, h]
    rw [this]; exact Lean4.nil
  · have : lockL ms xs = (lockR ms xs).1 := by simp [lockL, h]
    rw [this]; exact (lockR_all h).fits.four h

end Go.Proofs.YtfcfhgophpoibaaDoor
