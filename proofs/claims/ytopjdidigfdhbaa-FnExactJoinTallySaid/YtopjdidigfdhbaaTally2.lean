/- Contracts of the tallies: TallyValid, TallyOf of both. -/
import Derived.Test.YtopjdidigfdhbaaTally
import Derived.Test.YtopjdidigfdhbaaClockJ2
namespace Go.Proofs.Ytopjdidigfdhbaa
open Go.RowKit

def tallyB (xs ys : List Int) : Bool := clockB xs && clockB ys

set_option maxHeartbeats 1000000 in
theorem spec_TallyValid_c {u v : Value} {n m : Nat} {xs ys : List Int} {w : World} (hu : SI w u n xs) (hv : SI w v m ys) :
    Calls Try.prog 26 #[.agg #[u, v]] w fun e w' => e = .returned (.bool (tallyB xs ys)) ∧ Below w.heap.size w w' := by
  obtain ⟨A, c, rfl⟩ := hu.shape
  obtain ⟨B, d, rfl⟩ := hv.shape
  have B0 : Below w.heap.size w (w.alloc (.cells #[.slice A n c, .slice B m d] 26)) := (Below.refl _ _).alloc (Nat.le_refl _) _
  cases hX : clockB xs
  · have hf : tallyB xs ys = false := by simp [tallyB, hX]
    have F := hide hf; have HX := hide hX; clear hf hX
    go_enter Try.func26, Try.ntmps26
    go_wp2_with fail
    refine (spec_ClockValid_c (hu.below B0)).mono ?_
    rintro e w' ⟨rfl, rfl⟩
    rw [HX.out]
    go_wp2_with fail
    go_ret
    exact ⟨by rw [F.out]; rfl, B0⟩
  · have hf : tallyB xs ys = clockB ys := by simp [tallyB, hX]
    have F := hide hf; have HX := hide hX; clear hf hX
    go_enter Try.func26, Try.ntmps26
    go_wp2_with fail
    refine (spec_ClockValid_c (hu.below B0)).mono ?_
    rintro e w' ⟨rfl, rfl⟩
    rw [HX.out]
    go_wp2_with fail
    refine (spec_ClockValid_c (hv.below B0)).mono ?_
    rintro e w' ⟨rfl, rfl⟩
    go_wp2_with fail
    go_ret
    exact ⟨by rw [F.out]; rfl, B0⟩

set_option maxHeartbeats 1000000 in
theorem impl_TallyValid_c {u v : Value} {n m : Nat} {xs ys : List Int} {w : World} (hu : SI w u n xs) (hv : SI w v m ys) :
    Calls Try.prog 29 #[.agg #[u, v]] w fun e w' => e = .returned (.bool (tallyB xs ys)) ∧ Below w.heap.size w w' := by
  obtain ⟨A, c, rfl⟩ := hu.shape
  obtain ⟨B, d, rfl⟩ := hv.shape
  have B0 : Below w.heap.size w (w.alloc (.cells #[.slice A n c, .slice B m d] 26)) := (Below.refl _ _).alloc (Nat.le_refl _) _
  have K0 := Blk.new w 26 #[.slice A n c, .slice B m d]
  cases hX : clockB xs
  · have hf : tallyB xs ys = false := by simp [tallyB, hX]
    have F := hide hf; have HX := hide hX; clear hf hX
    go_enter Try.func29, Try.ntmps29
    go_wp2_with fail
    refine (impl_ClockValid_c (hu.below B0)).mono ?_
    rintro e w1 ⟨rfl, b1⟩
    rw [HX.out]
    go_wp2_with fail
    go_ret
    exact ⟨by rw [F.out]; rfl, B0.trans (b1.mono (by simp))⟩
  · have hf : tallyB xs ys = clockB ys := by simp [tallyB, hX]
    have F := hide hf; have HX := hide hX; clear hf hX
    go_enter Try.func29, Try.ntmps29
    go_wp2_with fail
    refine (impl_ClockValid_c (hu.below B0)).mono ?_
    rintro e w1 ⟨rfl, b1⟩
    rw [HX.out]
    have B1 := B0.trans (b1.mono (by simp))
    obtain ⟨p0, p1, _, _⟩ := (K0.belowAll b1).two
    go_wp2_with fail
    refine (impl_ClockValid_c (hv.below B1)).mono ?_
    rintro e w2 ⟨rfl, b2⟩
    go_wp2_with fail
    go_ret
    exact ⟨by rw [F.out]; rfl, below_step B1 b2⟩

/-- All counts up less all counts down. -/
def tsum : List Int → List Int → Int
  | x :: xs, y :: ys => (x - y) + tsum xs ys
  | _, _ => 0
def tallyN (xs ys : List Int) : Int := if tallyB xs ys then tsum xs ys else 0
theorem tsum_snoc {xs ys : List Int} : ∀ {k : Nat} {x y : Int}, xs[k]? = some x → ys[k]? = some y → tsum (xs.take (k + 1)) (ys.take (k + 1)) = tsum (xs.take k) (ys.take k) + (x - y) := by
  induction xs generalizing ys with
  | nil => intro k x y hx; simp at hx
  | cons a xs ih =>
    intro k x y hx hy
    cases ys with
    | nil => simp at hy
    | cons b ys =>
      cases k with
      | zero => simp at hx hy; subst hx; subst hy; simp [tsum]
      | succ k =>
        simp only [List.take_succ_cons, tsum]
        rw [ih (by simpa using hx) (by simpa using hy)]; omega



end Go.Proofs.Ytopjdidigfdhbaa
