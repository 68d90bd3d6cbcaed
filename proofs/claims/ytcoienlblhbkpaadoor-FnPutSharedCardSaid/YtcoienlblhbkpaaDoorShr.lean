/- What the shared sets' functions return, in lists and in bits. -/
import Derived.Test.YtcoienlblhbkpaaDoorShq
import Derived.Test.YtcoienlblhbkpaaDoorShared7
namespace Go.Proofs.YtcoienlblhbkpaaDoor
open Go.RowKit

theorem memL_of {Q : Nat} {L : List Int} (hL : ascB (-1) L = true) (h : ∀ i : Nat, i < 31 → (Q.testBit i = true ↔ (i : Int) ∈ L)) : memL Q = L := by
  refine asc_ext _ _ (-1) (asc_memL Q) hL (fun x => ?_)
  rw [mem_memL]
  constructor
  · rintro ⟨i, rfl, hi, hb⟩; exact (h i hi).1 hb
  · intro hx
    have := ascB_gt L (-1) hL x hx
    refine ⟨x.toNat, by omega, by omega, (h _ (by omega)).2 ?_⟩
    rw [show ((x.toNat : Nat) : Int) = x by omega]; exact hx
/-- A valid set's bits. -/
theorem set_bits {xs : List Int} (h : ascB (-1) xs = true) : ∃ q : Nat, (setL (-1) 0 xs).1 = q ∧ q < 2 ^ 31 ∧ memL q = xs ∧ ∀ i : Nat, (q.testBit i = true ↔ (i : Int) ∈ xs) := by
  obtain ⟨q, e, hlt, _⟩ := setL_bits xs (-1) 0 (by omega) (by omega) h
  obtain ⟨h1, _, h3⟩ := memL_setL h e
  exact ⟨q, e, hlt, h1, fun i => by rw [h3]; exact has_mem⟩
theorem sharedB_asc {xs ys : List Int} (h : sharedB xs ys = true) : ascB (-1) xs = true ∧ ascB (-1) ys = true ∧ ∀ y ∈ ys, y ∈ xs := by
  unfold sharedB at h
  simp only [Bool.and_eq_true, List.all_eq_true] at h
  exact ⟨h.2.1, h.2.2, fun y hy => has_mem.1 (h.1 y hy)⟩
theorem sharedB_mk {xs ys : List Int} (h1 : ascB (-1) xs = true) (h2 : ascB (-1) ys = true) (h3 : ∀ y ∈ ys, y ∈ xs) : sharedB xs ys = true := by
  unfold sharedB
  simp only [Bool.and_eq_true, List.all_eq_true]
  exact ⟨fun y hy => has_mem.2 (h3 y hy), h1, h2⟩

theorem or_put {xs : List Int} {q : Nat} {n : Int} (h : ascB (-1) xs = true) (hb : ∀ i : Nat, (q.testBit i = true ↔ (i : Int) ∈ xs)) (h0 : 0 ≤ n) (h1 : n ≤ 30) : memL (q ||| 2 ^ n.toNat) = putL n xs := by
  refine memL_of (asc_putL n h1 xs (-1) (by omega) h) fun i _ => ?_
  rw [Nat.testBit_or, Nat.testBit_two_pow, mem_putL, Bool.or_eq_true, hb, decide_eq_true_eq]
  constructor
  · rintro (h2 | h2)
    · exact .inr h2
    · exact .inl (by omega)
  · rintro (h2 | h2)
    · exact .inr (by omega)
    · exact .inl h2

theorem andNot_bits {xs ys : List Int} {q r : Nat} (hq : q < 2 ^ 31) (hr : r < 2 ^ 31) (hx : ∀ i : Nat, (q.testBit i = true ↔ (i : Int) ∈ xs)) (hy : ∀ i : Nat, (r.testBit i = true ↔ (i : Int) ∈ ys)) (h1 : ascB (-1) (xs.filter fun x => !hasB ys x) = true) :
    ∃ Q : Nat, bits .andNot .u64 (q : Int) (r : Int) = (Q : Int) ∧ Q < 2 ^ 31 ∧ memL Q = xs.filter fun x => !hasB ys x := by
  refine ⟨q &&& (18446744073709551615 - r), u64_andNot_nat q r (by omega) (by omega), Nat.lt_of_le_of_lt Nat.and_le_left hq, memL_of h1 fun i hi => ?_⟩
  rw [Nat.testBit_and, sub_testBit r i (by omega) (by omega), List.mem_filter, Bool.and_eq_true, hx]
  have : (!r.testBit i) = !hasB ys i := by
    congr 1; rw [Bool.eq_iff_iff, hy]; exact has_mem.symm
  rw [this]
theorem asc_filter (p : Int → Bool) : ∀ (xs : List Int) (l : Int), ascB l xs = true → ascB l (xs.filter p) = true := by
  intro xs
  induction xs with
  | nil => intro l h; exact h
  | cons a xs ih =>
    intro l h
    simp only [ascB, Bool.and_eq_true, inB_iff] at h
    rw [List.filter_cons]
    split
    · simp only [ascB, Bool.and_eq_true, inB_iff]; exact ⟨h.1, ih a h.2⟩
    · exact ih l (asc_weak _ _ _ (by omega) h.2)

/-- All of two sorted lists. -/
def joinA (xs ys : List Int) : List Int := ys.foldl (fun a x => putL x a) xs
theorem mem_joinA : ∀ (ys xs : List Int) (x : Int), x ∈ joinA xs ys ↔ x ∈ xs ∨ x ∈ ys := by
  intro ys
  induction ys with
  | nil => intro xs x; simp [joinA]
  | cons y ys ih =>
    intro xs x
    have := ih (putL y xs) x
    unfold joinA at this ⊢
    rw [List.foldl_cons, this, mem_putL, List.mem_cons]
    constructor
    · rintro ((h | h) | h)
      · exact .inr (.inl h)
      · exact .inl h
      · exact .inr (.inr h)
    · rintro (h | h | h)
      · exact .inl (.inr h)
      · exact .inl (.inl h)
      · exact .inr h
theorem asc_joinA : ∀ (ys xs : List Int) (l : Int), -1 ≤ l → ascB l ys = true → ascB (-1) xs = true → ascB (-1) (joinA xs ys) = true := by
  intro ys
  induction ys with
  | nil => intro xs l _ _ h; exact h
  | cons y ys ih =>
    intro xs l hl h hx
    simp only [ascB, Bool.and_eq_true, inB_iff] at h
    unfold joinA
    rw [List.foldl_cons]
    exact ih _ y (by omega) h.2 (asc_putL y (by omega) xs (-1) (by omega) hx)
theorem or_join {xs ys : List Int} {q r : Nat} (hq : q < 2 ^ 31) (hr : r < 2 ^ 31) (h1 : ascB (-1) xs = true) (h2 : ascB (-1) ys = true) (hx : ∀ i : Nat, (q.testBit i = true ↔ (i : Int) ∈ xs)) (hy : ∀ i : Nat, (r.testBit i = true ↔ (i : Int) ∈ ys)) :
    bits .or .u64 (q : Int) (r : Int) = ((q ||| r : Nat) : Int) ∧ (q ||| r) < 2 ^ 31 ∧ memL (q ||| r) = joinA xs ys := by
  refine ⟨u64_or_nat q r (by omega) (by omega), Nat.or_lt_two_pow hq hr, memL_of (asc_joinA ys xs (-1) (by omega) h2 h1) fun i _ => ?_⟩
  rw [Nat.testBit_or, Bool.or_eq_true, hx, hy, mem_joinA]
theorem or_take {xs ys : List Int} {q r : Nat} {n : Int} (hq : q < 2 ^ 31) (hr : r < 2 ^ 31) (h2 : ascB (-1) ys = true) (h0 : 0 ≤ n) (h1 : n ≤ 30) (hx : ∀ i : Nat, (q.testBit i = true ↔ (i : Int) ∈ xs)) (hy : ∀ i : Nat, (r.testBit i = true ↔ (i : Int) ∈ ys)) :
    bits .or .u64 (r : Int) (bits .and .u64 (q : Int) (IntKind.u64.wrap (2 ^ n.toNat))) = ((r ||| (q &&& 2 ^ n.toNat) : Nat) : Int) ∧ (r ||| (q &&& 2 ^ n.toNat)) < 2 ^ 31 ∧ memL (r ||| (q &&& 2 ^ n.toNat)) = if hasB xs n then putL n ys else ys := by
  have hp : 2 ^ n.toNat < 2 ^ 31 := Nat.pow_lt_pow_right (by omega) (by omega)
  have hw : IntKind.u64.wrap (2 ^ n.toNat) = ((2 ^ n.toNat : Nat) : Int) := by
    have e : ((2 : Int) ^ n.toNat) = ((2 ^ n.toNat : Nat) : Int) := by norm_cast
    rw [e]
    generalize 2 ^ n.toNat = z at *
    rw [IntKind.wrap_u64]; omega
  have ha : (q &&& 2 ^ n.toNat) < 2 ^ 31 := Nat.lt_of_le_of_lt Nat.and_le_left hq
  refine ⟨by rw [hw, bits_and_u64_nat q _ (by omega) (by omega), u64_or_nat r _ (by omega) (by omega)], Nat.or_lt_two_pow hr ha, ?_⟩
  have hb : ∀ i : Nat, (r ||| (q &&& 2 ^ n.toNat)).testBit i = true ↔ ((i : Int) ∈ ys ∨ ((i : Int) ∈ xs ∧ n = (i : Int))) := fun i => by
    rw [Nat.testBit_or, Nat.testBit_and, Nat.testBit_two_pow, Bool.or_eq_true, Bool.and_eq_true, hx, hy, decide_eq_true_eq]
    constructor
    · rintro (h | ⟨h, h3⟩)
      · exact .inl h
      · exact .inr ⟨h, by omega⟩
    · rintro (h | ⟨h, h3⟩)
      · exact .inl h
      · exact .inr ⟨h, by omega⟩
  cases hh : hasB xs n
  · rw [if_neg (by simp)]
    refine memL_of h2 fun i _ => ?_
    rw [hb]
    constructor
    · rintro (h | ⟨h, rfl⟩)
      · exact h
      · rw [has_mem.2 h] at hh; cases hh
    · exact .inl
  · rw [if_pos rfl]
    refine memL_of (asc_putL n h1 ys (-1) (by omega) h2) fun i _ => ?_
    rw [hb, mem_putL]
    constructor
    · rintro (h | ⟨h, rfl⟩)
      · exact .inr h
      · exact .inl rfl
    · rintro (h | h)
      · exact .inr ⟨by rw [h]; exact has_mem.1 hh, h.symm⟩
      · exact .inl h

def inL (xs ys : List Int) : List Int := if sharedB xs ys then xs.filter fun x => !hasB ys x else []
def psU (xs ys : List Int) (n : Int) : List Int := if sharedB xs ys && inB n 0 30 then putL n xs else []
def psD (xs ys : List Int) (n : Int) : List Int := if sharedB xs ys && inB n 0 30 then ys else []
def tsU (xs ys : List Int) (_n : Int) : List Int := if sharedB xs ys then xs else []
def tsD (xs ys : List Int) (n : Int) : List Int := if sharedB xs ys then (if hasB xs n then putL n ys else ys) else []
def jsU (xs ys xs' ys' : List Int) : List Int := if sharedB xs ys && sharedB xs' ys' then joinA xs xs' else []
def jsD (xs ys xs' ys' : List Int) : List Int := if sharedB xs ys && sharedB xs' ys' then joinA ys ys' else []

end Go.Proofs.YtcoienlblhbkpaaDoor
