/- Shared sets, the reference's side: l30Has, l30Sorted. -/
import Derived.Test.YtcoienlblhbkpaaDoorShared
import Derived.Test.YtcoienlblhbkpaaDoorSmall
namespace Go.Proofs.YtcoienlblhbkpaaDoor
open Go.RowKit

theorem any_snocS {p : Int → Bool} {xs : List Int} {k : Nat} {x : Int} (h : (xs.take k).any p = false) (hx : xs[k]? = some x) (hp : p x = false) : (xs.take (k + 1)).any p = false := by
  rw [List.take_add_one, hx, List.any_append, h]; simp [hp]
def hasB (xs : List Int) (n : Int) : Bool := xs.any (· == n)

set_option maxHeartbeats 400000 in
theorem l30Has_c {v : Value} {n : Nat} {xs : List Int} {y : Int} {w : World} (hs : SI w v n xs) :
    Calls Tryd.prog 43 #[v, .int .i64 y] w fun e w' => e = .returned (.bool (hasB xs y)) ∧ w = w' := by
  obtain ⟨A, c, rfl, hnc, hn, hr⟩ := hs
  have hl := hide hr.len
  go_enter Tryd.func43, Tryd.ntmps43
  go_wp2
  go_loop [5] (fun i => ∃ k : Nat, k ≤ n ∧ i = .int .i64 k ∧ (xs.take k).any (· == y) = false) (fun i => n - (intOf i).toNat)
  case atStart => exact ⟨0, Nat.zero_le _, rfl, by simp⟩
  case round =>
    obtain ⟨k, hk, rfl, hall⟩ := hrel
    have Hall := hide hall; clear hall
    by_cases hlt : k < n
    · obtain ⟨b, off, x, rfl, hb, hx, hc⟩ := hr.at_ hlt
      have Hx := hide hx; clear hx
      by_cases hv : x = y
      · subst hv
        go_wp2
        go_ret
        have e : hasB xs x = true := by
          unfold hasB
          rw [List.any_eq_true]
          exact ⟨x, List.mem_of_getElem? Hx.out, by simp⟩
        exact ⟨by rw [e]; rfl, rfl⟩
      · go_wp2
        go_round
        case rel => exact ⟨k + 1, by omega, by go_num, any_snocS Hall.out Hx.out (by simp [hv])⟩
        case measure => simp [intOf]; omega
    · go_wp2
      go_ret
      obtain rfl : k = n := by omega
      refine ⟨?_, rfl⟩
      have h1 := Hall.out
      rw [List.take_of_length_le (by rw [hl.out]; omega)] at h1
      rw [show hasB xs y = false from h1]; rfl

/-- Ascending from above 'last', none above 30. -/
def ascB : Int → List Int → Bool
  | _, [] => true
  | last, x :: xs => inB x (last + 1) 30 && ascB x xs
theorem ascB_snoc : ∀ (l : Int) (xs : List Int) (k : Nat) (x y : Int), 0 < k → ascB l (xs.take k) = true → xs[k - 1]? = some y → xs[k]? = some x → ascB l (xs.take (k + 1)) = inB x (y + 1) 30 := by
  intro l xs
  induction xs generalizing l with
  | nil => intro k x y _ _ _ h; simp at h
  | cons a xs ih =>
    intro k x y hk h hy hx
    obtain ⟨k, rfl⟩ : ∃ j, k = j + 1 := ⟨k - 1, by omega⟩
    simp only [List.take_succ_cons, ascB, Bool.and_eq_true] at h ⊢
    rw [h.1, Bool.true_and]
    simp only [List.getElem?_cons_succ, Nat.add_sub_cancel] at hx hy
    rcases Nat.eq_zero_or_pos k with rfl | hp
    · simp at hy
      subst hy
      cases xs with
      | nil => simp at hx
      | cons b xs => simp at hx; subst hx; simp [ascB]
    · obtain ⟨j, rfl⟩ : ∃ j, k = j + 1 := ⟨k - 1, by omega⟩
      simp only [List.getElem?_cons_succ] at hy
      exact ih a (j + 1) x y (by omega) h.2 (by simpa using hy) hx

theorem ascB_take : ∀ (xs : List Int) (l : Int) (j : Nat), ascB l xs = true → ascB l (xs.take j) = true := by
  intro xs
  induction xs with
  | nil => intro l j h; simp [ascB]
  | cons a xs ih =>
    intro l j h
    cases j with
    | zero => simp [ascB]
    | succ j =>
      simp only [ascB, List.take_succ_cons, Bool.and_eq_true] at h ⊢
      exact ⟨h.1, ih a j h.2⟩
theorem ascB_gt : ∀ (xs : List Int) (l : Int), ascB l xs = true → ∀ x ∈ xs, l < x ∧ x ≤ 30 := by
  intro xs
  induction xs with
  | nil => intro l h x hx; cases hx
  | cons a xs ih =>
    intro l h x hx
    simp only [ascB, Bool.and_eq_true, inB_iff] at h
    rcases List.mem_cons.1 hx with rfl | hx
    · omega
    · have := ih a h.2 x hx; omega

end Go.Proofs.YtcoienlblhbkpaaDoor
