/- markShared, heldShared. -/
import Derived.Test.YtcoienlblhbkpaaDoorShared
namespace Go.Proofs.YtcoienlblhbkpaaDoor
open Go.RowKit

set_option maxHeartbeats 1000000 in
theorem markShared_c {u v : Value} {n m : Nat} {xs ys : List Int} {k : Int} {B C : Nat} {w : World} (hu : OI w B u n xs) (hv : OI w C v m ys) (ha : Apart u v) (hk0 : 0 ≤ k) (hk1 : k ≤ 2097152) :
    Calls Tryd.prog 18 #[.agg #[u, v], .int .i64 k] w fun e w' => e = .returned (.int .i64 (k + n + m)) ∧ OI w' B u n (upFrom k n) ∧ OI w' C v m (upFrom (k + n) m) ∧ Chg (Own2 u v) w w' := by
  obtain ⟨A, c, rfl⟩ := hu.shape
  obtain ⟨A', d, rfl⟩ := hv.shape
  have hn := hu.2; have hm := hv.2
  have B0 : Below w.heap.size w (w.alloc (.cells #[.slice A n c, .slice A' m d] 27)) := (Below.refl _ _).alloc (Nat.le_refl _) _
  have K0 := Blk.new w 27 #[.slice A n c, .slice A' m d]
  have hlu := World.ownsRow.lt hu.1
  go_enter Tryd.func18, Tryd.ntmps18
  go_wp2_with fail
  refine (markIntS_c (hu.below B0) hk0 (by omega)).mono ?_
  rintro e w1 ⟨rfl, o1, g1⟩
  have K1 := K0.grown g1 (fun e => by have := (hlu _ e.symm).2; omega)
  have o2 := (hv.below B0).grown g1 ha.symm
  obtain ⟨p0, p1, _, _⟩ := K1.two
  go_wp2_with fail
  refine (markIntS_c o2 (by omega) (by omega)).mono ?_
  rintro e w2 ⟨rfl, o3, g2⟩
  go_wp2_with fail
  go_ret
  exact ⟨rfl, o1.grown g2 ha, o3, ((Chg.of_below B0).trans (Chg.of_grown g1 (fun k hk => .inl hk))).trans (Chg.of_grown g2 (fun k hk => .inr hk))⟩

set_option maxHeartbeats 1000000 in
theorem heldShared_c {u v : Value} {n m : Nat} {k : Int} {w : World} (hu : SI w u n (upFrom k n)) (hv : SI w v m (upFrom (k + n) m)) (hk0 : 0 ≤ k) (hk1 : k ≤ 2097152) :
    Calls Tryd.prog 23 #[.agg #[u, v], .int .i64 k] w fun e w' => e = .returned (.int .i64 (k + n + m)) ∧ Below w.heap.size w w' := by
  obtain ⟨A, c, rfl⟩ := hu.shape
  obtain ⟨A', d, rfl⟩ := hv.shape
  have hn := hu.bd; have hm := hv.bd
  have B0 : Below w.heap.size w (w.alloc (.cells #[.slice A n c, .slice A' m d] 27)) := (Below.refl _ _).alloc (Nat.le_refl _) _
  have K0 := Blk.new w 27 #[.slice A n c, .slice A' m d]
  go_enter Tryd.func23, Tryd.ntmps23
  go_wp2_with fail
  refine (heldIntS_c (hu.below B0) hk0 (by omega)).mono ?_
  rintro e w1 ⟨rfl, b1⟩
  have B1 := B0.trans (b1.mono (by simp))
  obtain ⟨p0, p1, _, _⟩ := (K0.belowAll b1).two
  go_wp2_with fail
  refine (heldIntS_c (hv.below B1) (by omega) (by omega)).mono ?_
  rintro e w2 ⟨rfl, b2⟩
  go_wp2_with fail
  go_ret
  exact ⟨rfl, below_step B1 b2⟩

end Go.Proofs.YtcoienlblhbkpaaDoor
