/- SharedValid: the program's. -/
import Derived.Test.YtcoienlblhbkpaaDoorShared8
namespace Go.Proofs.YtcoienlblhbkpaaDoor
open Go.RowKit

set_option maxHeartbeats 4000000 in
theorem impl_SharedValid_c {u v : Value} {n m : Nat} {xs ys : List Int} {w : World} (hu : SI w u n xs) (hv : SI w v m ys) :
    Calls Tryd.prog 29 #[.agg #[u, v]] w fun e w' => e = .returned (.bool (sharedB xs ys)) ∧ Below w.heap.size w w' := by
  obtain ⟨A, c, rfl⟩ := hu.shape
  obtain ⟨B, d, rfl⟩ := hv.shape
  have hu' := hu.alloc (.cells #[.slice A n c, .slice B m d] 27)
  have hv' := hv.alloc (.cells #[.slice A n c, .slice B m d] 27)
  have hb : Below w.heap.size w (w.alloc (.cells #[.slice A n c, .slice B m d] 27)) := (Below.refl _ _).alloc (Nat.le_refl _) _
  go_enter Tryd.func29, Tryd.ntmps29
  go_wp2_with fail
  refine (sets_c hu' hv').mono ?_
  rintro e w' ⟨rfl, b2⟩
  have B2 := below_step hb b2
  go_wp2_with fail
  go_ret
  exact ⟨rfl, B2⟩

end Go.Proofs.YtcoienlblhbkpaaDoor
