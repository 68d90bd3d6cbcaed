/- The lowest bit. -/
import Derived.Test.YtcoienlblhbkpaaDoorShp
namespace Go.Proofs.YtcoienlblhbkpaaDoor
open Go.RowKit

theorem odd_part : ∀ q : Nat, q ≠ 0 → ∃ k m : Nat, q = 2 ^ k * (2 * m + 1) := by
  intro q
  induction q using Nat.strongRecOn with
  | _ q ih =>
    intro h
    obtain ⟨m, hm | hm⟩ : ∃ m, q = 2 * m ∨ q = 2 * m + 1 := ⟨q / 2, by omega⟩
    · obtain ⟨k, n, e⟩ := ih m (by omega) (by omega)
      exact ⟨k + 1, n, by rw [hm, e, Nat.pow_succ, Nat.mul_comm (2 ^ k) 2, Nat.mul_assoc]⟩
    · exact ⟨0, m, by rw [hm]; simp⟩
theorem low_bit {q : Nat} (hq : q < 2 ^ 31) (h0 : q ≠ 0) :
    ∃ k : Nat, k < 31 ∧ q.testBit k = true ∧ (∀ i, i < k → q.testBit i = false) ∧ (∀ i, (q &&& (q - 1)).testBit i = (q.testBit i && decide (i ≠ k))) ∧ q &&& (18446744073709551616 - q) = 2 ^ k := by
  obtain ⟨k, m, e⟩ := odd_part q h0
  have hp : 0 < 2 ^ k := Nat.two_pow_pos k
  have hk : k < 31 := by
    rcases Nat.lt_or_ge k 31 with h | h
    · exact h
    · have h1 : 2 ^ 31 ≤ 2 ^ k := Nat.pow_le_pow_right (by omega) h
      have h2 : 2 ^ k * 1 ≤ 2 ^ k * (2 * m + 1) := Nat.mul_le_mul_left _ (by omega)
      omega
  have b1 : ∀ j, q.testBit j = if j < k then false else (2 * m + 1).testBit (j - k) := fun j => by
    have := Nat.testBit_two_pow_mul_add (2 * m + 1) (b := 0) (i := k) hp j
    rw [Nat.add_zero] at this
    rw [e, this]; simp
  have e2 : q - 1 = 2 ^ k * (2 * m) + (2 ^ k - 1) := by rw [e, Nat.mul_add, Nat.mul_one]; omega
  have b2 : ∀ j, (q - 1).testBit j = if j < k then true else (2 * m).testBit (j - k) := fun j => by
    rw [e2, Nat.testBit_two_pow_mul_add (2 * m) (by omega) j]
    split
    · rename_i h; rw [Nat.testBit_two_pow_sub_one]; simp [h]
    · rfl
  have c1 : ∀ j, (2 * m + 1).testBit (j + 1) = (2 * m).testBit (j + 1) := fun j => by
    rw [Nat.testBit_succ, Nat.testBit_succ]; congr 1; omega
  have c0 : (2 * m + 1).testBit 0 = true := by simp
  have c0' : (2 * m).testBit 0 = false := by simp
  refine ⟨k, hk, ?_, fun i hi => ?_, fun i => ?_, ?_⟩
  · rw [b1, if_neg (by omega), Nat.sub_self]; exact c0
  · rw [b1, if_pos hi]
  · rw [Nat.testBit_and, b1, b2]
    by_cases h1 : i < k
    · simp [h1]
    · rw [if_neg h1, if_neg h1]
      by_cases h2 : i = k
      · subst h2; simp
      · obtain ⟨j, hj⟩ : ∃ j, i - k = j + 1 := ⟨i - k - 1, by omega⟩
        rw [hj, c1]; simp [h2]
  · apply Nat.eq_of_testBit_eq
    intro i
    have e3 : 18446744073709551616 - q = 2 ^ 64 - ((q - 1) + 1) := by omega
    rw [e3, Nat.testBit_and, Nat.testBit_two_pow_sub_succ (by omega), Nat.testBit_two_pow, b1, b2]
    by_cases h1 : i < k
    · have : ¬ k = i := by omega
      simp [h1, this]
    · rw [if_neg h1, if_neg h1]
      by_cases h2 : i = k
      · subst h2; simp; omega
      · obtain ⟨j, hj⟩ : ∃ j, i - k = j + 1 := ⟨i - k - 1, by omega⟩
        have : ¬ k = i := by omega
        rw [hj, c1]; cases (2 * m).testBit (j + 1) <;> simp [this]
theorem asc_up : ∀ (xs : List Int) (l m : Int), ascB l xs = true → (∀ x ∈ xs, m < x) → ascB m xs = true := by
  intro xs
  cases xs with
  | nil => intro l m _ _; rfl
  | cons x xs =>
    intro l m h1 h
    simp only [ascB, Bool.and_eq_true, inB_iff] at h1 ⊢
    have := h x (by simp)
    exact ⟨by omega, h1.2⟩
/-- One round of 'members'. -/
theorem mem_round {q : Nat} (hq : q < 2 ^ 31) (h0 : q ≠ 0) :
    ∃ k : Nat, k < 31 ∧ memL q = (k : Int) :: memL (q &&& (q - 1)) ∧ q &&& (18446744073709551616 - q) = 2 ^ k ∧ (q &&& (q - 1)) < 2 ^ 31 ∧ (q &&& (q - 1)) < q := by
  obtain ⟨k, hk, hb, hlow, hc, hn⟩ := low_bit hq h0
  have hlt : (q &&& (q - 1)) ≤ q - 1 := Nat.and_le_right
  refine ⟨k, hk, asc_ext _ _ (-1) (asc_memL q) ?_ (fun x => ?_), hn, by omega, by omega⟩
  · simp only [ascB, Bool.and_eq_true, inB_iff]
    refine ⟨by omega, asc_up _ (-1) _ (asc_memL _) fun x hx => ?_⟩
    rw [mem_memL] at hx
    obtain ⟨i, rfl, _, hi⟩ := hx
    rw [hc i] at hi
    simp only [Bool.and_eq_true, decide_eq_true_eq] at hi
    rcases Nat.lt_or_ge i k with h | h
    · rw [hlow i h] at hi; cases hi.1
    · omega
  · rw [List.mem_cons, mem_memL, mem_memL]
    constructor
    · rintro ⟨i, rfl, h1, h2⟩
      by_cases e : i = k
      · left; rw [e]
      · right; exact ⟨i, rfl, h1, by rw [hc i, h2]; simp [e]⟩
    · rintro (rfl | ⟨i, rfl, h1, h2⟩)
      · exact ⟨k, rfl, hk, hb⟩
      · rw [hc i] at h2
        simp only [Bool.and_eq_true] at h2
        exact ⟨i, rfl, h1, h2.1⟩

end Go.Proofs.YtcoienlblhbkpaaDoor
