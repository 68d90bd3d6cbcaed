/- Contracts of the stamped values. -/
import Derived.Test.YtopjdidigfdhbaaDoorLib2
import Derived.Deep.RegionHeld3
namespace Go.Proofs.YtopjdidigfdhbaaDoor
open Go.RowKit

def stampB (v t p : Int) : Bool := inB v 0 99 && inB t 0 1000 && inB p 0 3

set_option maxHeartbeats 1000000 in
theorem spec_StampedValid_c {v t p : Int} {w : World} :
    Calls Tryd.prog 38 #[.agg #[.int .i64 v, .int .i64 t, .int .i64 p]] w fun e w' => e = .returned (.bool (stampB v t p)) ∧ Below w.heap.size w w' := by
  have B0 : ∀ o, Below w.heap.size w (w.alloc o) := fun o => (Below.refl _ _).alloc (Nat.le_refl _) o
  cases h1 : inB v 0 99
  · have hf : stampB v t p = false := by simp [stampB, h1]
    have F := hide hf; have H1 := hide h1; clear hf h1
    go_enter Tryd.func38, Tryd.ntmps38
    go_wp2_with (go_at_call 46; refine (l1In_c).mono ?_; rintro e w' ⟨rfl, rfl⟩; first | rw [H1.out])
    go_ret
    exact ⟨by rw [F.out]; rfl, B0 _⟩
  · cases h2 : inB t 0 1000
    · have hf : stampB v t p = false := by simp [stampB, h2]
      have F := hide hf; have H1 := hide h1; have H2 := hide h2; clear hf h1 h2
      go_enter Tryd.func38, Tryd.ntmps38
      go_wp2_with (go_at_call 46; refine (l1In_c).mono ?_; rintro e w' ⟨rfl, rfl⟩; first | rw [H1.out] | rw [H2.out])
      go_ret
      exact ⟨by rw [F.out]; rfl, B0 _⟩
    · have hf : stampB v t p = inB p 0 3 := by simp [stampB, h1, h2]
      have F := hide hf; have H1 := hide h1; have H2 := hide h2; clear hf h1 h2
      go_enter Tryd.func38, Tryd.ntmps38
      go_wp2_with (go_at_call 46; refine (l1In_c).mono ?_; rintro e w' ⟨rfl, rfl⟩; first | rw [H1.out] | rw [H2.out] | skip)
      go_ret
      exact ⟨by rw [F.out]; rfl, B0 _⟩

set_option maxHeartbeats 400000 in
theorem valueOk_c {n : Int} {w : World} : Calls Tryd.prog 39 #[.int .i64 n] w fun e w' => e = .returned (.bool (inB n 0 99)) ∧ w = w' := by
  go_enter Tryd.func39, Tryd.ntmps39
  go_wp2_with (go_at_call 45; refine (within_c).mono ?_; rintro e w' ⟨rfl, rfl⟩)
  go_ret
  exact ⟨rfl, rfl⟩
set_option maxHeartbeats 400000 in
theorem timeOk_c {n : Int} {w : World} : Calls Tryd.prog 40 #[.int .i64 n] w fun e w' => e = .returned (.bool (inB n 0 1000)) ∧ w = w' := by
  go_enter Tryd.func40, Tryd.ntmps40
  go_wp2_with (go_at_call 45; refine (within_c).mono ?_; rintro e w' ⟨rfl, rfl⟩)
  go_ret
  exact ⟨rfl, rfl⟩
set_option maxHeartbeats 400000 in
theorem placeOk_c' {n : Int} {w : World} : Calls Tryd.prog 41 #[.int .i64 n] w fun e w' => e = .returned (.bool (inB n 0 3)) ∧ w = w' := by
  go_enter Tryd.func41, Tryd.ntmps41
  go_wp2_with (go_at_call 45; refine (within_c).mono ?_; rintro e w' ⟨rfl, rfl⟩)
  go_ret
  exact ⟨rfl, rfl⟩

set_option maxHeartbeats 1000000 in
theorem impl_StampedValid_c {v t p : Int} {w : World} :
    Calls Tryd.prog 12 #[.agg #[.int .i64 v, .int .i64 t, .int .i64 p]] w fun e w' => e = .returned (.bool (stampB v t p)) ∧ Below w.heap.size w w' := by
  have B0 : ∀ o, Below w.heap.size w (w.alloc o) := fun o => (Below.refl _ _).alloc (Nat.le_refl _) o
  cases h1 : inB v 0 99
  · have hf : stampB v t p = false := by simp [stampB, h1]
    have F := hide hf; have H1 := hide h1; clear hf h1
    go_enter Tryd.func12, Tryd.ntmps12
    go_wp2_with (go_at_call 39; refine (valueOk_c).mono ?_; rintro e w' ⟨rfl, rfl⟩; rw [H1.out])
    go_ret
    exact ⟨by rw [F.out]; rfl, B0 _⟩
  · cases h2 : inB t 0 1000
    · have hf : stampB v t p = false := by simp [stampB, h2]
      have F := hide hf; have H1 := hide h1; have H2 := hide h2; clear hf h1 h2
      go_enter Tryd.func12, Tryd.ntmps12
      go_wp2_with (first | (go_at_call 39; refine (valueOk_c).mono ?_; rintro e w' ⟨rfl, rfl⟩; rw [H1.out]) | (go_at_call 40; refine (timeOk_c).mono ?_; rintro e w' ⟨rfl, rfl⟩; rw [H2.out]))
      go_ret
      exact ⟨by rw [F.out]; rfl, B0 _⟩
    · have hf : stampB v t p = inB p 0 3 := by simp [stampB, h1, h2]
      have F := hide hf; have H1 := hide h1; have H2 := hide h2; clear hf h1 h2
      go_enter Tryd.func12, Tryd.ntmps12
      go_wp2_with (first | (go_at_call 39; refine (valueOk_c).mono ?_; rintro e w' ⟨rfl, rfl⟩; rw [H1.out]) | (go_at_call 40; refine (timeOk_c).mono ?_; rintro e w' ⟨rfl, rfl⟩; rw [H2.out]) | (go_at_call 41; refine (placeOk_c').mono ?_; rintro e w' ⟨rfl, rfl⟩))
      go_ret
      exact ⟨by rw [F.out]; rfl, B0 _⟩


def stEq (v t p v' t' p' : Int) : Bool := v == v' && (t == t' && p == p')

end Go.Proofs.YtopjdidigfdhbaaDoor
