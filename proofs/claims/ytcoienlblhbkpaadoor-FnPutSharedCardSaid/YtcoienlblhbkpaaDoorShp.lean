/- The plain law of sorted lists and of bits. -/
import Derived.Test.YtcoienlblhbkpaaDoorShared5
namespace Go.Proofs.YtcoienlblhbkpaaDoor
open Go.RowKit

theorem asc_weak : ∀ (xs : List Int) (l m : Int), m ≤ l → ascB l xs = true → ascB m xs = true := by
  intro xs
  cases xs with
  | nil => intro l m _ _; rfl
  | cons x xs =>
    intro l m h h1
    simp only [ascB, Bool.and_eq_true, inB_iff] at h1 ⊢
    exact ⟨by omega, h1.2⟩
/-- Two sorted lists with the same members are one. -/
theorem asc_ext : ∀ (xs ys : List Int) (l : Int), ascB l xs = true → ascB l ys = true → (∀ x, x ∈ xs ↔ x ∈ ys) → xs = ys := by
  intro xs
  induction xs with
  | nil => intro ys l _ _ h; cases ys with
    | nil => rfl
    | cons y ys => exact absurd ((h y).2 (by simp)) (by simp)
  | cons x xs ih => intro ys l h1 h2 h; cases ys with
    | nil => exact absurd ((h x).1 (by simp)) (by simp)
    | cons y ys =>
      simp only [ascB, Bool.and_eq_true] at h1 h2
      have g1 := ascB_gt xs x h1.2
      have g2 := ascB_gt ys y h2.2
      have hxy : x = y := by
        have a := (h x).1 (by simp); have b := (h y).2 (by simp)
        simp only [List.mem_cons] at a b
        rcases a with a | a
        · exact a
        · rcases b with b | b
          · exact b.symm
          · have := g1 y b; have := g2 x a; omega
      subst hxy
      rw [ih ys x h1.2 h2.2 (fun z => by
        have := h z
        simp only [List.mem_cons] at this
        constructor
        · intro hz
          rcases this.1 (.inr hz) with e | e
          · subst e; have := g1 _ hz; omega
          · exact e
        · intro hz
          rcases this.2 (.inr hz) with e | e
          · subst e; have := g2 _ hz; omega
          · exact e)]

/-- The numbers of the bits. -/
def memL (q : Nat) : List Int := ((List.range 31).filter fun i => q.testBit i).map fun (i : Nat) => (i : Int)
theorem mem_memL {q : Nat} {x : Int} : x ∈ memL q ↔ ∃ i : Nat, x = i ∧ i < 31 ∧ q.testBit i = true := by
  unfold memL
  rw [List.mem_map]
  constructor
  · rintro ⟨i, hi, rfl⟩
    rw [List.mem_filter, List.mem_range] at hi
    exact ⟨i, rfl, hi.1, hi.2⟩
  · rintro ⟨i, rfl, h1, h2⟩
    exact ⟨i, by rw [List.mem_filter, List.mem_range]; exact ⟨h1, h2⟩, rfl⟩
theorem asc_range : ∀ (n k : Nat) (p : Nat → Bool), k + n ≤ 31 → ascB ((k : Int) - 1) (((List.range' k n).filter p).map fun (i : Nat) => (i : Int)) = true := by
  intro n
  induction n with
  | zero => intro k p _; rfl
  | succ n ih =>
    intro k p h
    rw [List.range'_succ, List.filter_cons]
    have h1 := ih (k + 1) p (by omega)
    rw [show (((k + 1 : Nat) : Int) - 1) = k by omega] at h1
    split
    · simp only [List.map_cons, ascB, Bool.and_eq_true, inB_iff]
      exact ⟨by omega, h1⟩
    · exact asc_weak _ _ _ (by omega) h1
theorem asc_memL (q : Nat) : ascB (-1) (memL q) = true := by
  have := asc_range 31 0 (fun i => q.testBit i) (by omega)
  unfold memL
  rw [List.range_eq_range']
  simpa using this
/-- The bits of a sorted list, and back. -/
theorem memL_setL {xs : List Int} (h : ascB (-1) xs = true) {q : Nat} (hq : (setL (-1) 0 xs).1 = q) : memL q = xs ∧ q < 2 ^ 31 ∧ ∀ i : Nat, q.testBit i = hasB xs i := by
  obtain ⟨q', e, hlt, hb⟩ := setL_bits xs (-1) 0 (by omega) (by omega) h
  have hqq : q' = q := by
    have : ((q' : Nat) : Int) = (q : Int) := by rw [← e]; exact hq
    omega
  subst hqq
  have hb' : ∀ i : Nat, q'.testBit i = hasB xs i := fun i => by rw [hb i, Nat.zero_testBit, Bool.false_or]; rfl
  refine ⟨asc_ext _ _ (-1) (asc_memL q') h (fun x => ?_), hlt, hb'⟩
  rw [mem_memL]
  constructor
  · rintro ⟨i, rfl, _, hi⟩
    rw [hb' i] at hi
    unfold hasB at hi
    rw [List.any_eq_true] at hi
    obtain ⟨y, hy, e⟩ := hi
    have : y = (i : Int) := by simpa using e
    rw [← this]; exact hy
  · intro hx
    have := ascB_gt xs (-1) h x hx
    refine ⟨x.toNat, by omega, by omega, ?_⟩
    rw [hb', show ((x.toNat : Nat) : Int) = x by omega]
    unfold hasB
    rw [List.any_eq_true]
    exact ⟨x, hx, by simp⟩
theorem has_mem {xs : List Int} {y : Int} : hasB xs y = true ↔ y ∈ xs := by
  unfold hasB; rw [List.any_eq_true]
  constructor
  · rintro ⟨x, hx, e⟩; have : x = y := by simpa using e
    rw [← this]; exact hx
  · intro h; exact ⟨y, h, by simp⟩

/-- Putting into a sorted list. -/
def putL (n : Int) : List Int → List Int
  | [] => [n]
  | x :: xs => if x < n then x :: putL n xs else if x = n then x :: xs else n :: x :: xs
theorem mem_putL (n : Int) : ∀ (xs : List Int) (x : Int), x ∈ putL n xs ↔ x = n ∨ x ∈ xs := by
  intro xs
  induction xs with
  | nil => intro x; simp [putL]
  | cons a xs ih =>
    intro x
    unfold putL
    split
    · simp only [List.mem_cons, ih]; constructor
      · rintro (h | h | h) <;> simp [h]
      · rintro (h | h | h) <;> simp [h]
    · split
      · rename_i h; subst h; simp only [List.mem_cons]; constructor
        · intro h; exact .inr h
        · rintro (h | h)
          · exact .inl h
          · exact h
      · simp only [List.mem_cons]
theorem asc_putL (n : Int) (hn : n ≤ 30) : ∀ (xs : List Int) (l : Int), l < n → ascB l xs = true → ascB l (putL n xs) = true := by
  intro xs
  induction xs with
  | nil => intro l h _; simp only [putL, ascB, Bool.and_eq_true, inB_iff]; exact ⟨by omega, trivial⟩
  | cons a xs ih =>
    intro l h h1
    have h0 := h1
    simp only [ascB, Bool.and_eq_true, inB_iff] at h1
    unfold putL
    split
    · rename_i hc
      simp only [ascB, Bool.and_eq_true, inB_iff]
      exact ⟨h1.1, ih a hc h1.2⟩
    · split
      · exact h0
      · rename_i h2 h3
        simp only [ascB, Bool.and_eq_true, inB_iff]
        exact ⟨by omega, by omega, h1.2⟩
/-- Behind the numbers below n: as the program puts it together. -/
def cutAt (n : Int) : List Int → Nat
  | [] => 0
  | x :: xs => if x < n then cutAt n xs + 1 else 0
theorem putL_cut (n : Int) : ∀ xs : List Int, putL n xs = if xs[cutAt n xs]? = some n then xs else xs.take (cutAt n xs) ++ [n] ++ xs.drop (cutAt n xs) := by
  intro xs
  induction xs with
  | nil => rfl
  | cons a xs ih =>
    unfold putL cutAt
    split
    · simp only [List.getElem?_cons_succ, List.take_succ_cons, List.drop_succ_cons]
      rw [ih]; split <;> simp
    · simp only [List.getElem?_cons_zero, List.take_zero, List.drop_zero, List.nil_append, Option.some.injEq]
      split <;> simp
theorem cutAt_le (n : Int) : ∀ xs : List Int, cutAt n xs ≤ xs.length := by
  intro xs
  induction xs with
  | nil => exact Nat.le_refl _
  | cons a xs ih => unfold cutAt; split <;> simp <;> omega
theorem cutAt_step (n : Int) : ∀ (xs : List Int) (k : Nat), k ≤ cutAt n xs → (∀ x, xs[k]? = some x → x < n → k + 1 ≤ cutAt n xs) ∧ (∀ x, xs[k]? = some x → ¬ x < n → k = cutAt n xs) ∧ (xs[k]? = none → k = cutAt n xs) := by
  intro xs
  induction xs with
  | nil => intro k hk; simp [cutAt] at hk ⊢; exact hk
  | cons a xs ih =>
    intro k hk
    cases k with
    | zero =>
      refine ⟨fun x hx hl => ?_, fun x hx hl => ?_, fun hx => ?_⟩
      · simp at hx; subst hx; unfold cutAt; rw [if_pos hl]; omega
      · simp at hx; subst hx; unfold cutAt; rw [if_neg hl]
      · simp at hx
    | succ k =>
      unfold cutAt at hk ⊢
      split at hk
      · rename_i hc
        rw [if_pos hc]
        obtain ⟨h1, h2, h3⟩ := ih k (by omega)
        simp only [List.getElem?_cons_succ]
        exact ⟨fun x hx hl => by have := h1 x hx hl; omega, fun x hx hl => by have := h2 x hx hl; omega, fun hx => by have := h3 hx; omega⟩
      · omega

end Go.Proofs.YtcoienlblhbkpaaDoor
