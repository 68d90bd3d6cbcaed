/- Plain laws of shared sets in lists: putting again, joining, what is in and not out. -/
import Derived.Test.YtcoienlblhbkpaaDoorShr
namespace Go.Proofs.YtcoienlblhbkpaaDoor

theorem inB_iff' {n : Int} : inB n 0 30 = true ↔ 0 ≤ n ∧ n ≤ 30 := inB_iff n 0 30
theorem put_put {xs : List Int} {n : Int} (h : ascB (-1) xs = true) (h0 : 0 ≤ n) (h1 : n ≤ 30) : putL n (putL n xs) = putL n xs := by
  have a := asc_putL n h1 xs (-1) (by omega) h
  refine asc_ext _ _ (-1) (asc_putL n h1 _ (-1) (by omega) a) a fun x => ?_
  rw [mem_putL, mem_putL]
  constructor
  · rintro (h | h)
    · exact .inl h
    · exact h
  · exact .inr
/-- With what was put in: the set is valid, the number is in, what was out stays out, and putting again changes nothing. -/
theorem put_law {xs ys : List Int} {n : Int} (h : sharedB xs ys = true) (hn : inB n 0 30 = true) :
    psU xs ys n = putL n xs ∧ psD xs ys n = ys ∧ sharedB (putL n xs) ys = true ∧ n ∈ putL n xs ∧ psU (putL n xs) ys n = putL n xs ∧ psD (putL n xs) ys n = ys := by
  obtain ⟨h1, h2, h3⟩ := sharedB_asc h
  obtain ⟨n0, n1⟩ := (inB_iff n 0 30).1 hn
  have a := asc_putL n n1 xs (-1) (by omega) h1
  have s : sharedB (putL n xs) ys = true := sharedB_mk a h2 fun y hy => (mem_putL n xs y).2 (.inr (h3 y hy))
  have m : n ∈ putL n xs := (mem_putL n xs n).2 (.inl rfl)
  refine ⟨by simp [psU, h, hn], by simp [psD, h, hn], s, m, ?_, by simp [psD, s, hn]⟩
  simp [psU, s, hn, put_put h1 n0 n1]
theorem put_no {xs ys : List Int} {n : Int} (h : (sharedB xs ys && inB n 0 30) = false) : psU xs ys n = [] ∧ psD xs ys n = [] := by simp [psU, psD, h]

theorem join_comm {xs ys : List Int} (hx : ascB (-1) xs = true) (hy : ascB (-1) ys = true) : joinA ys xs = joinA xs ys := by
  refine asc_ext _ _ (-1) (asc_joinA xs ys (-1) (by omega) hx hy) (asc_joinA ys xs (-1) (by omega) hy hx) fun x => ?_
  rw [mem_joinA, mem_joinA]; exact Or.comm
theorem join_self {xs : List Int} (hx : ascB (-1) xs = true) : joinA xs xs = xs := by
  refine asc_ext _ _ (-1) (asc_joinA xs xs (-1) (by omega) hx hx) hx fun x => ?_
  rw [mem_joinA]; exact or_self_iff
theorem join_again {xs ys : List Int} (hx : ascB (-1) xs = true) (hy : ascB (-1) ys = true) : joinA (joinA xs ys) xs = joinA xs ys := by
  have a := asc_joinA ys xs (-1) (by omega) hy hx
  refine asc_ext _ _ (-1) (asc_joinA xs _ (-1) (by omega) hx a) a fun x => ?_
  rw [mem_joinA, mem_joinA]
  constructor
  · rintro ((h | h) | h)
    · exact .inl h
    · exact .inr h
    · exact .inl h
  · exact .inl
theorem js_comm (xs ys xs' ys' : List Int) : jsU xs' ys' xs ys = jsU xs ys xs' ys' ∧ jsD xs' ys' xs ys = jsD xs ys xs' ys' := by
  unfold jsU jsD
  rw [Bool.and_comm (sharedB xs' ys')]
  split
  · rename_i h
    rw [Bool.and_eq_true] at h
    obtain ⟨a, b, _⟩ := sharedB_asc h.1
    obtain ⟨c, d, _⟩ := sharedB_asc h.2
    exact ⟨join_comm a c, join_comm b d⟩
  · exact ⟨rfl, rfl⟩
theorem js_no {xs ys xs' ys' : List Int} (h : (sharedB xs ys && sharedB xs' ys') = false) : jsU xs ys xs' ys' = [] ∧ jsD xs ys xs' ys' = [] := by simp [jsU, jsD, h]
theorem js_law {xs ys xs' ys' : List Int} (h : sharedB xs ys = true) (h' : sharedB xs' ys' = true) :
    jsU xs ys xs' ys' = joinA xs xs' ∧ jsD xs ys xs' ys' = joinA ys ys' ∧ sharedB (joinA xs xs') (joinA ys ys') = true ∧
    jsU xs ys xs ys = xs ∧ jsD xs ys xs ys = ys ∧ jsU (joinA xs xs') (joinA ys ys') xs ys = joinA xs xs' ∧ jsD (joinA xs xs') (joinA ys ys') xs ys = joinA ys ys' := by
  obtain ⟨a, b, m⟩ := sharedB_asc h
  obtain ⟨c, d, m'⟩ := sharedB_asc h'
  have s : sharedB (joinA xs xs') (joinA ys ys') = true := sharedB_mk (asc_joinA xs' xs (-1) (by omega) c a) (asc_joinA ys' ys (-1) (by omega) d b) fun y hy => by
    rw [mem_joinA] at hy ⊢
    rcases hy with hy | hy
    · exact .inl (m y hy)
    · exact .inr (m' y hy)
  exact ⟨by simp [jsU, h, h'], by simp [jsD, h, h'], s, by simp [jsU, h, join_self a], by simp [jsD, h, join_self b], by simp [jsU, s, h, join_again a c], by simp [jsD, s, h, join_again b d]⟩

theorem filter_len (p : Int → Bool) : ∀ xs : List Int, (xs.filter p).length + (xs.filter fun x => !p x).length = xs.length := by
  intro xs
  induction xs with
  | nil => rfl
  | cons a xs ih => cases h : p a <;> simp [h] <;> omega
/-- The numbers in and not out: as many as are in less those out; they ascend. -/
theorem in_law {xs ys : List Int} (h : sharedB xs ys = true) : inL xs ys = (xs.filter fun x => !hasB ys x) ∧ (inL xs ys).length + ys.length = xs.length ∧ ascB (-1) (inL xs ys) = true := by
  obtain ⟨a, b, m⟩ := sharedB_asc h
  have e : inL xs ys = (xs.filter fun x => !hasB ys x) := by simp [inL, h]
  have f : xs.filter (hasB ys) = ys := asc_ext _ _ (-1) (asc_filter _ _ _ a) b fun x => by
    rw [List.mem_filter, has_mem]
    exact ⟨fun h => h.2, fun h => ⟨m x h, h⟩⟩
  have g := filter_len (hasB ys) xs
  rw [f] at g
  refine ⟨e, by rw [e]; omega, by rw [e]; exact asc_filter _ _ _ a⟩
theorem in_no {xs ys : List Int} (h : sharedB xs ys = false) : inL xs ys = [] := by simp [inL, h]
theorem asc_next : ∀ (xs : List Int) (l : Int) (k : Nat) (x y : Int), ascB l xs = true → xs[k]? = some x → xs[k + 1]? = some y → x < y := by
  intro xs
  induction xs with
  | nil => intro l k x y _ h; simp at h
  | cons a xs ih =>
    intro l k x y h hx hy
    simp only [ascB, Bool.and_eq_true, inB_iff] at h
    cases k with
    | zero =>
      simp at hx; subst hx
      rw [List.getElem?_cons_succ] at hy
      exact (ascB_gt xs a h.2 y (List.mem_of_getElem? hy)).1
    | succ k =>
      rw [List.getElem?_cons_succ] at hx hy
      exact ih a k x y h.2 hx hy
/-- Without what is out a valid set stays valid; with a number out that was never in none is. -/
theorem sharedB_in {xs ys : List Int} (h : sharedB xs ys = true) : sharedB xs [] = true := sharedB_mk (sharedB_asc h).1 rfl (fun y hy => by cases hy)
theorem sharedB_three : sharedB [] [3] = false := rfl
theorem len31 : ∀ (xs : List Int) (l : Int), l ≤ 30 → ascB l xs = true → (xs.length : Int) ≤ 30 - l := by
  intro xs
  induction xs with
  | nil => intro l h _; simp; omega
  | cons a xs ih =>
    intro l _ h
    simp only [ascB, Bool.and_eq_true, inB_iff] at h
    have := ih a (by omega) h.2
    rw [List.length_cons]; omega
theorem shared_len {xs ys : List Int} (h : sharedB xs ys = true) : xs.length ≤ 31 ∧ ys.length ≤ 31 := by
  obtain ⟨a, b, _⟩ := sharedB_asc h
  have h1 := len31 xs (-1) (by omega) a
  have h2 := len31 ys (-1) (by omega) b
  omega

end Go.Proofs.YtcoienlblhbkpaaDoor
