/- The plain laws of stepped and joined clocks. -/
import Derived.Test.YtcoienlblhbkpaaDoorClockJ2
namespace Go.Proofs.YtcoienlblhbkpaaDoor
open Go.RowKit

theorem clock_form {xs : List Int} (h : clockB xs = true) : ∃ a b c d, xs = [a, b, c, d] ∧ (0 ≤ a ∧ a ≤ 1000) ∧ (0 ≤ b ∧ b ≤ 1000) ∧ (0 ≤ c ∧ c ≤ 1000) ∧ (0 ≤ d ∧ d ≤ 1000) := by
  obtain ⟨hl, hall⟩ := (clockB_iff _).1 h
  match xs, hl, hall with
  | [a, b, c, d], _, hall =>
    exact ⟨a, b, c, d, rfl, (inB_iff _ _ _).1 (hall a (by simp)), (inB_iff _ _ _).1 (hall b (by simp)), (inB_iff _ _ _).1 (hall c (by simp)), (inB_iff _ _ _).1 (hall d (by simp))⟩
theorem clockB_mk {a b c d : Int} (ha : 0 ≤ a ∧ a ≤ 1000) (hb : 0 ≤ b ∧ b ≤ 1000) (hc : 0 ≤ c ∧ c ≤ 1000) (hd : 0 ≤ d ∧ d ≤ 1000) : clockB [a, b, c, d] = true := by
  rw [clockB_iff]
  refine ⟨rfl, fun x hx => ?_⟩
  rw [inB_iff]
  simp at hx
  rcases hx with rfl | rfl | rfl | rfl <;> assumption
theorem before4 {a b c d a' b' c' d' : Int} (h : clockB [a, b, c, d] = true) (h' : clockB [a', b', c', d'] = true) :
    beforeB [a, b, c, d] [a', b', c', d'] = (decide (a ≤ a') && (decide (b ≤ b') && (decide (c ≤ c') && decide (d ≤ d')))) := by
  unfold beforeB; rw [h, h']; simp [leAll]

/-- A stepped clock: behind the clock, not before it, and the count is greater by one. -/
theorem step_law {xs : List Int} {at_ : Int} (h : stepOk xs at_ = true) :
    beforeB xs (stepL xs at_) = true ∧ beforeB (stepL xs at_) xs = false ∧ ∃ k : Nat, ∃ v : Int, at_ = k ∧ k < 4 ∧ xs[k]? = some v ∧ (stepL xs at_)[k]? = some (v + 1) ∧ 0 ≤ v ∧ v ≤ 1000 ∧ (stepL xs at_).length = 4 ∧ xs.length = 4 := by
  have h0 := h
  unfold stepOk at h0
  simp only [Bool.and_eq_true, Bool.not_eq_true', decide_eq_false_iff_not] at h0
  obtain ⟨⟨hc, hp⟩, hne⟩ := h0
  obtain ⟨a, b, c, d, rfl, ha, hb, hcc, hd⟩ := clock_form hc
  have hs : stepL [a, b, c, d] at_ = [a, b, c, d].set at_.toNat ([a, b, c, d][at_.toNat]?.getD 0 + 1) := by simp [stepL, hc, h]
  rw [hs]
  rcases inB_place hp with rfl | rfl | rfl | rfl
  · simp at hne
    have h2 : clockB [a + 1, b, c, d] = true := clockB_mk (by omega) hb hcc hd
    refine ⟨?_, ?_, 0, a, rfl, by omega, rfl, rfl, ha.1, ha.2, rfl, rfl⟩
    · show beforeB [a, b, c, d] [a + 1, b, c, d] = true; rw [before4 hc h2]; simp <;> omega
    · show beforeB [a + 1, b, c, d] [a, b, c, d] = false; rw [before4 h2 hc]; simp <;> omega
  · simp at hne
    have h2 : clockB [a, b + 1, c, d] = true := clockB_mk ha (by omega) hcc hd
    refine ⟨?_, ?_, 1, b, rfl, by omega, rfl, rfl, hb.1, hb.2, rfl, rfl⟩
    · show beforeB [a, b, c, d] [a, b + 1, c, d] = true; rw [before4 hc h2]; simp <;> omega
    · show beforeB [a, b + 1, c, d] [a, b, c, d] = false; rw [before4 h2 hc]; simp <;> omega
  · simp at hne
    have h2 : clockB [a, b, c + 1, d] = true := clockB_mk ha hb (by omega) hd
    refine ⟨?_, ?_, 2, c, rfl, by omega, rfl, rfl, hcc.1, hcc.2, rfl, rfl⟩
    · show beforeB [a, b, c, d] [a, b, c + 1, d] = true; rw [before4 hc h2]; simp <;> omega
    · show beforeB [a, b, c + 1, d] [a, b, c, d] = false; rw [before4 h2 hc]; simp <;> omega
  · simp at hne
    have h2 : clockB [a, b, c, d + 1] = true := clockB_mk ha hb hcc (by omega)
    refine ⟨?_, ?_, 3, d, rfl, by omega, rfl, rfl, hd.1, hd.2, rfl, rfl⟩
    · show beforeB [a, b, c, d] [a, b, c, d + 1] = true; rw [before4 hc h2]; simp <;> omega
    · show beforeB [a, b, c, d + 1] [a, b, c, d] = false; rw [before4 h2 hc]; simp <;> omega

def mx (x y : Int) : Int := if x < y then y else x
theorem mx_le (x y : Int) : x ≤ mx x y ∧ y ≤ mx x y ∧ (mx x y = x ∨ mx x y = y) := by unfold mx; split <;> omega
theorem mx_comm (x y : Int) : mx x y = mx y x := by unfold mx; split <;> split <;> omega
theorem join4 {a b c d a' b' c' d' : Int} (h : clockB [a, b, c, d] = true) (h' : clockB [a', b', c', d'] = true) :
    joinL [a, b, c, d] [a', b', c', d'] = [mx a a', mx b b', mx c c', mx d d'] := by
  unfold joinL; rw [h, h']; rfl
theorem join_comm (xs ys : List Int) : joinL ys xs = joinL xs ys := by
  cases hx : clockB xs
  · simp [joinL, hx]
  · cases hy : clockB ys
    · simp [joinL, hy]
    · obtain ⟨a, b, c, d, rfl, _⟩ := clock_form hx
      obtain ⟨a', b', c', d', rfl, _⟩ := clock_form hy
      rw [join4 hx hy, join4 hy hx, mx_comm a, mx_comm b, mx_comm c, mx_comm d]
/-- A joined clock: valid, behind both, each count that of one of both; joined once more it stays. -/
theorem join_law {xs ys : List Int} (h : (clockB xs && clockB ys) = true) :
    clockB (joinL xs ys) = true ∧ beforeB xs (joinL xs ys) = true ∧ beforeB ys (joinL xs ys) = true ∧ joinL (joinL xs ys) xs = joinL xs ys ∧ xs.length = 4 ∧ ys.length = 4 ∧ (joinL xs ys).length = 4 ∧
    ∀ k, k < 4 → ∃ u v m, xs[k]? = some u ∧ ys[k]? = some v ∧ (joinL xs ys)[k]? = some m ∧ (m = u ∨ m = v) := by
  simp only [Bool.and_eq_true] at h
  obtain ⟨hx, hy⟩ := h
  obtain ⟨a, b, c, d, rfl, ha, hb, hc, hd⟩ := clock_form hx
  obtain ⟨a', b', c', d', rfl, ha', hb', hc', hd'⟩ := clock_form hy
  have ma := mx_le a a'; have mb := mx_le b b'; have mc := mx_le c c'; have md := mx_le d d'
  have hj : clockB [mx a a', mx b b', mx c c', mx d d'] = true := clockB_mk (by omega) (by omega) (by omega) (by omega)
  rw [join4 hx hy]
  refine ⟨hj, ?_, ?_, ?_, rfl, rfl, rfl, fun k hk => ?_⟩
  · rw [before4 hx hj]; simp; omega
  · rw [before4 hy hj]; simp; omega
  · rw [join4 hj hx]
    have e : ∀ x y : Int, mx (mx x y) x = mx x y := fun x y => by unfold mx; split <;> split <;> omega
    rw [e, e, e, e]
  · match k, hk with
    | 0, _ => exact ⟨a, a', _, rfl, rfl, rfl, ma.2.2⟩
    | 1, _ => exact ⟨b, b', _, rfl, rfl, rfl, mb.2.2⟩
    | 2, _ => exact ⟨c, c', _, rfl, rfl, rfl, mc.2.2⟩
    | 3, _ => exact ⟨d, d', _, rfl, rfl, rfl, md.2.2⟩

end Go.Proofs.YtcoienlblhbkpaaDoor
