/- The plain law of bit sets. -/
import Derived.Test.YtcoienlblhbkpaaDoorShared4
import Derived.Laws.BitsAllLaws
import Derived.Laws.Bits64
namespace Go.Proofs.YtcoienlblhbkpaaDoor
open Go.RowKit

theorem setL_ok : ∀ (xs : List Int) (l acc : Int), (setL l acc xs).2 = ascB l xs := by
  intro xs
  induction xs with
  | nil => intro l acc; rfl
  | cons a xs ih =>
    intro l acc
    simp only [setL, ascB]
    split
    · rename_i h; rw [ih, h]; simp
    · rename_i h; simp at h; simp [h]

theorem orBit_nat {a : Nat} {x : Int} (ha : a < 2 ^ 31) (h0 : 0 ≤ x) (h1 : x ≤ 30) : orBit (a : Int) x = ((a ||| 2 ^ x.toNat : Nat) : Int) ∧ a ||| 2 ^ x.toNat < 2 ^ 31 := by
  have hp : 2 ^ x.toNat < 2 ^ 31 := Nat.pow_lt_pow_right (by omega) (by omega)
  have hw : IntKind.u64.wrap (2 ^ x.toNat) = ((2 ^ x.toNat : Nat) : Int) := by
    have e : ((2 : Int) ^ x.toNat) = ((2 ^ x.toNat : Nat) : Int) := by norm_cast
    rw [e]
    generalize 2 ^ x.toNat = q at *
    rw [IntKind.wrap_u64]; omega
  refine ⟨?_, Nat.or_lt_two_pow ha hp⟩
  unfold orBit
  rw [hw, u64_or_nat a _ (by omega) (by omega)]

/-- The bits. -/
theorem setL_bits : ∀ (xs : List Int) (l : Int) (a : Nat), -1 ≤ l → a < 2 ^ 31 → ascB l xs = true →
    ∃ q : Nat, (setL l a xs).1 = q ∧ q < 2 ^ 31 ∧ ∀ i : Nat, q.testBit i = (a.testBit i || xs.any (· == (i : Int))) := by
  intro xs
  induction xs with
  | nil => intro l a _ ha _; exact ⟨a, rfl, ha, fun i => by simp⟩
  | cons x xs ih =>
    intro l a hl ha h
    simp only [ascB, Bool.and_eq_true] at h
    have hx := (inB_iff _ _ _).1 h.1
    obtain ⟨e, hlt⟩ := orBit_nat (x := x) ha (by omega) (by omega)
    obtain ⟨q, h1, h2, h3⟩ := ih x (a ||| 2 ^ x.toNat) (by omega) hlt h.2
    refine ⟨q, ?_, h2, fun i => ?_⟩
    · simp only [setL, h.1, if_true]; rw [e]; exact h1
    · rw [h3 i, Nat.testBit_or, Nat.testBit_two_pow, List.any_cons, Bool.or_assoc]
      congr 2
      rw [Bool.eq_iff_iff]; simp; omega

end Go.Proofs.YtcoienlblhbkpaaDoor
