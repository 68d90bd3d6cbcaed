/- sameShared; what is held of a box of two cells while calls go by. -/
import Derived.Test.YtcoienlblhbkpaaDoorSame
import Derived.Test.YtcoienlblhbkpaaDoorShr
import Derived.Deep.RegionHeld3
namespace Go.Proofs.YtcoienlblhbkpaaDoor
open Go.RowKit

theorem Blk.held2 {w W : World} {g : Nat} {t : TypeId} {a b : Value} (K : Blk w g t #[a, b]) (h : Below w.heap.size w W) : W.cell? ⟨g, 0, none⟩ = some a ∧ W.cell? ⟨g, 1, none⟩ = some b :=
  ⟨(h.cell (p := ⟨g, 0, none⟩) K.lt).trans (K.cell 0), (h.cell (p := ⟨g, 1, none⟩) K.lt).trans (K.cell 1)⟩
theorem SI.nilV (w : World) : SI w (.slice none 0 0) 0 [] := ⟨none, 0, rfl, Nat.le_refl _, by omega, RI.nil⟩
theorem same2 (xs ys : List Int) : (decide (xs = xs) && decide (ys = ys)) = true := by simp

set_option maxHeartbeats 2000000 in
theorem sameShared_c {u v u' v' : Value} {n m n' m' : Nat} {xs ys xs' ys' : List Int} {w : World} (hu : SI w u n xs) (hv : SI w v m ys) (hu' : SI w u' n' xs') (hv' : SI w v' m' ys') :
    Calls Tryd.prog 38 #[.agg #[u, v], .agg #[u', v']] w fun e w' => e = .returned (.bool (decide (xs = xs') && decide (ys = ys'))) ∧ Below w.heap.size w w' := by
  obtain ⟨A, c, rfl⟩ := hu.shape
  obtain ⟨B, d, rfl⟩ := hv.shape
  obtain ⟨A', c', rfl⟩ := hu'.shape
  obtain ⟨B', d', rfl⟩ := hv'.shape
  have B0 : Below w.heap.size w ((w.alloc (.cells #[.slice A n c, .slice B m d] 27)).alloc (.cells #[.slice A' n' c', .slice B' m' d'] 27)) := ((Below.refl _ _).alloc (Nat.le_refl _) _).alloc (by simp) _
  have K0 := (Blk.new w 27 #[.slice A n c, .slice B m d]).alloc (.cells #[.slice A' n' c', .slice B' m' d'] 27)
  have K1 := Blk.new (w.alloc (.cells #[.slice A n c, .slice B m d] 27)) 27 #[.slice A' n' c', .slice B' m' d']
  simp only [World.size_alloc] at K1
  obtain ⟨p, hp⟩ : ∃ p, decide (xs = xs') = p := ⟨_, rfl⟩
  obtain ⟨q, hq⟩ : ∃ q, decide (ys = ys') = q := ⟨_, rfl⟩
  rw [hp, hq]
  have HP := hide hp; have HQ := hide hq; clear hp hq
  go_enter Tryd.func38, Tryd.ntmps38
  go_wp2_with fail
  refine (sameInts_c (hu.below B0) (hu'.below B0)).mono ?_
  rintro e w1 ⟨rfl, b1⟩
  rw [HP.out]
  have B1 := below_step B0 b1
  obtain ⟨p0, p1, _, _⟩ := (K0.belowAll b1).two
  obtain ⟨q0, q1, _, _⟩ := (K1.belowAll b1).two
  cases p
  · go_wp2_with fail
    go_ret
    exact ⟨rfl, B1⟩
  · go_wp2_with fail
    refine (sameInts_c (hv.below B1) (hv'.below B1)).mono ?_
    rintro e w2 ⟨rfl, b2⟩
    rw [HQ.out]
    go_wp2_with fail
    go_ret
    exact ⟨by cases q <;> rfl, below_step B1 b2⟩

end Go.Proofs.YtcoienlblhbkpaaDoor
