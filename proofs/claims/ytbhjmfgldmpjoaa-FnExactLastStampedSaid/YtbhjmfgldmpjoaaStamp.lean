/- Contracts of the stamped values. -/
import Derived.Test.YtbhjmfgldmpjoaaLib2
import Derived.Deep.RegionHeld3
namespace Go.Proofs.Ytbhjmfgldmpjoaa
open Go.RowKit

def stampB (v t p : Int) : Bool := inB v 0 99 && inB t 0 1000 && inB p 0 3

set_option maxHeartbeats 1000000 in
theorem spec_StampedValid_c {v t p : Int} {w : World} :
    Calls Try.prog 37 #[.agg #[.int .i64 v, .int .i64 t, .int .i64 p]] w fun e w' => e = .returned (.bool (stampB v t p)) ∧ Below w.heap.size w w' := by
  have B0 : ∀ o, Below w.heap.size w (w.alloc o) := fun o => (Below.refl _ _).alloc (Nat.le_refl _) o
  cases h1 : inB v 0 99
  · have hf : stampB v t p = false := by simp [stampB, h1]
    have F := hide hf; have H1 := hide h1; clear hf h1
    go_enter Try.func37, Try.ntmps37
    go_wp2_with (go_at_call 38; refine (l1In_c).mono ?_; rintro e w' ⟨rfl, rfl⟩; first | rw [H1.out])
    go_ret
    exact ⟨by rw [F.out]; rfl, B0 _⟩
  · cases h2 : inB t 0 1000
    · have hf : stampB v t p = false := by simp [stampB, h2]
      have F := hide hf; have H1 := hide h1; have H2 := hide h2; clear hf h1 h2
      go_enter Try.func37, Try.ntmps37
      go_wp2_with (go_at_call 38; refine (l1In_c).mono ?_; rintro e w' ⟨rfl, rfl⟩; first | rw [H1.out] | rw [H2.out])
      go_ret
      exact ⟨by rw [F.out]; rfl, B0 _⟩
    · have hf : stampB v t p = inB p 0 3 := by simp [stampB, h1, h2]
      have F := hide hf; have H1 := hide h1; have H2 := hide h2; clear hf h1 h2
      go_enter Try.func37, Try.ntmps37
      go_wp2_with (go_at_call 38; refine (l1In_c).mono ?_; rintro e w' ⟨rfl, rfl⟩; first | rw [H1.out] | rw [H2.out] | skip)
      go_ret
      exact ⟨by rw [F.out]; rfl, B0 _⟩

set_option maxHeartbeats 400000 in
theorem valueOk_c {n : Int} {w : World} : Calls Try.prog 53 #[.int .i64 n] w fun e w' => e = .returned (.bool (inB n 0 99)) ∧ w = w' := by
  go_enter Try.func53, Try.ntmps53
  go_wp2_with (go_at_call 41; refine (within_c).mono ?_; rintro e w' ⟨rfl, rfl⟩)
  go_ret
  exact ⟨rfl, rfl⟩
set_option maxHeartbeats 400000 in
theorem timeOk_c {n : Int} {w : World} : Calls Try.prog 54 #[.int .i64 n] w fun e w' => e = .returned (.bool (inB n 0 1000)) ∧ w = w' := by
  go_enter Try.func54, Try.ntmps54
  go_wp2_with (go_at_call 41; refine (within_c).mono ?_; rintro e w' ⟨rfl, rfl⟩)
  go_ret
  exact ⟨rfl, rfl⟩
set_option maxHeartbeats 400000 in
theorem placeOk_c' {n : Int} {w : World} : Calls Try.prog 51 #[.int .i64 n] w fun e w' => e = .returned (.bool (inB n 0 3)) ∧ w = w' := by
  go_enter Try.func51, Try.ntmps51
  go_wp2_with (go_at_call 41; refine (within_c).mono ?_; rintro e w' ⟨rfl, rfl⟩)
  go_ret
  exact ⟨rfl, rfl⟩

set_option maxHeartbeats 1000000 in
theorem impl_StampedValid_c {v t p : Int} {w : World} :
    Calls Try.prog 42 #[.agg #[.int .i64 v, .int .i64 t, .int .i64 p]] w fun e w' => e = .returned (.bool (stampB v t p)) ∧ Below w.heap.size w w' := by
  have B0 : ∀ o, Below w.heap.size w (w.alloc o) := fun o => (Below.refl _ _).alloc (Nat.le_refl _) o
  cases h1 : inB v 0 99
  · have hf : stampB v t p = false := by simp [stampB, h1]
    have F := hide hf; have H1 := hide h1; clear hf h1
    go_enter Try.func42, Try.ntmps42
    go_wp2_with (go_at_call 53; refine (valueOk_c).mono ?_; rintro e w' ⟨rfl, rfl⟩; rw [H1.out])
    go_ret
    exact ⟨by rw [F.out]; rfl, B0 _⟩
  · cases h2 : inB t 0 1000
    · have hf : stampB v t p = false := by simp [stampB, h2]
      have F := hide hf; have H1 := hide h1; have H2 := hide h2; clear hf h1 h2
      go_enter Try.func42, Try.ntmps42
      go_wp2_with (first | (go_at_call 53; refine (valueOk_c).mono ?_; rintro e w' ⟨rfl, rfl⟩; rw [H1.out]) | (go_at_call 54; refine (timeOk_c).mono ?_; rintro e w' ⟨rfl, rfl⟩; rw [H2.out]))
      go_ret
      exact ⟨by rw [F.out]; rfl, B0 _⟩
    · have hf : stampB v t p = inB p 0 3 := by simp [stampB, h1, h2]
      have F := hide hf; have H1 := hide h1; have H2 := hide h2; clear hf h1 h2
      go_enter Try.func42, Try.ntmps42
      go_wp2_with (first | (go_at_call 53; refine (valueOk_c).mono ?_; rintro e w' ⟨rfl, rfl⟩; rw [H1.out]) | (go_at_call 54; refine (timeOk_c).mono ?_; rintro e w' ⟨rfl, rfl⟩; rw [H2.out]) | (go_at_call 51; refine (placeOk_c').mono ?_; rintro e w' ⟨rfl, rfl⟩))
      go_ret
      exact ⟨by rw [F.out]; rfl, B0 _⟩

set_option maxHeartbeats 1000000 in
theorem toStamped_c {v t p : Int} {w : World} :
    Calls Try.prog 40 #[.agg #[.int .i64 v, .int .i64 t, .int .i64 p]] w fun e w' => e = .returned (.agg #[.int .i64 v, .int .i64 t, .int .i64 p]) ∧ Below w.heap.size w w' := by
  go_enter Try.func40, Try.ntmps40
  go_wp2
  exact bodyPost_ret (v := .agg #[.int .i64 v, .int .i64 t, .int .i64 p]) (by simp [results, Try.results40, go_sem]) rfl ⟨rfl, (((Below.refl _ _).alloc (Nat.le_refl _) _).alloc (by simp) _).alloc (by simp <;> omega) _⟩

def stEq (v t p v' t' p' : Int) : Bool := v == v' && (t == t' && p == p')
set_option maxHeartbeats 1000000 in
theorem eqStamped_c {v t p v' t' p' : Int} {w : World} :
    Calls Try.prog 12 #[.agg #[.int .i64 v, .int .i64 t, .int .i64 p], .agg #[.int .i64 v', .int .i64 t', .int .i64 p']] w fun e w' => e = .returned (.bool (stEq v t p v' t' p')) ∧ Below w.heap.size w w' := by
  have B0 : ∀ o o', Below w.heap.size w ((w.alloc o).alloc o') := fun o o' => ((Below.refl _ _).alloc (Nat.le_refl _) o).alloc (by simp) o'
  cases h1 : (v == v')
  · have hf : stEq v t p v' t' p' = false := by simp [stEq, h1]
    have F := hide hf; clear hf
    go_enter Try.func12, Try.ntmps12
    go_wp2
    go_ret
    exact ⟨by rw [F.out]; rfl, B0 _ _⟩
  · cases h2 : (t == t')
    · have hf : stEq v t p v' t' p' = false := by simp [stEq, h2]
      have F := hide hf; clear hf
      go_enter Try.func12, Try.ntmps12
      go_wp2
      go_ret
      exact ⟨by rw [F.out]; rfl, B0 _ _⟩
    · cases h3 : (p == p')
      · have hf : stEq v t p v' t' p' = false := by simp [stEq, h3]
        have F := hide hf; clear hf
        go_enter Try.func12, Try.ntmps12
        go_wp2
        go_ret
        exact ⟨by rw [F.out]; rfl, B0 _ _⟩
      · have hf : stEq v t p v' t' p' = true := by simp [stEq, h1, h2, h3]
        have F := hide hf; clear hf
        go_enter Try.func12, Try.ntmps12
        go_wp2
        go_ret
        exact ⟨by rw [F.out]; rfl, B0 _ _⟩

end Go.Proofs.Ytbhjmfgldmpjoaa
