/- FnExactInShared: for all arguments the program's InShared returns what the reference's returns, and leaves its arguments as they are; its result shares no memory with them or with another result. -/
import Derived.Test.YtcoienlblhbkpaaDoorShared10
import Derived.Test.YtcoienlblhbkpaaDoorOpenSh
import Derived.Test.YtcoienlblhbkpaaDoorShIn
import Derived.Test.YtcoienlblhbkpaaDoorShI
import Derived.Test.YtcoienlblhbkpaaDoorSharedM
import Derived.Test.YtcoienlblhbkpaaDoorOpenT
import Derived.Test.YtcoienlblhbkpaaDoorOpen
import Derived.Deep.RegionHeld3
namespace Go.Proofs.YtcoienlblhbkpaaDoor.exactInShared
open Go.ChangeShapes Go.WideShapes Go.ChangeAt Go.RowKit

set_option linter.unusedSimpArgs false
set_option maxRecDepth 8000 in
set_option maxHeartbeats 16000000 in
theorem walk (A0 : Option Addr) (n0 c0 : Nat) (xs0 : List Int) (Z0 : Option Addr) (m0 d0 : Nat) (ys0 : List Int) (w : World)
    (hnc0 : n0 ≤ c0) (hmx0 : c0 ≤ maxLen) (R0 : RI w A0 n0 xs0) (gnc0 : m0 ≤ d0) (gmx0 : d0 ≤ maxLen) (T0 : RI w Z0 m0 ys0) (hT : Tab w) :
    Calls Tryd.prog 3 #[.agg #[.slice A0 n0 c0, .slice Z0 m0 d0]] w fun e w' => e = .returned (.bool true) ∧ Below w.heap.size w w' := by
  have a0 : ∀ (a b : Nat), (0 : Int) ≤ (a : Int) + (b : Int) := fun a b => by omega
  obtain ⟨L0, hL0⟩ : ∃ L : Int, L = szR 1048576 ((n0 : Int) + m0) := ⟨_, rfl⟩
  have l0b := szR_le 1048576 ((n0 : Int) + m0) (by omega) (by omega)
  rw [← hL0] at l0b
  have HL0 := hide hL0
  by_cases l0 : 0 ≤ L0
  · have z0 := szR_ok (hL0 ▸ l0)
    have hn0 : n0 ≤ 1048576 := by omega
    have hm0 : m0 ≤ 1048576 := by omega
    have e0 : L0 = 1048576 - ((n0 : Int) + m0) := by rw [hL0]; exact z0.2
    have hE0 : L0 ≤ 1048576 := by omega
    clear z0 e0 hL0
    clear a0
    have b1 : Below w.heap.size w (w.alloc (.cells #[.slice A0 n0 c0, .slice Z0 m0 d0] 24)) := ((Below.refl _ _).alloc (by simp <;> omega) _)
    have KA0 := Blk.new w 24 #[(.slice A0 n0 c0), (.slice Z0 m0 d0)]
    go_enter Tryd.func3, Tryd.ntmps3
    go_wp2_with fail
    generalize (w.alloc (.cells #[.slice A0 n0 c0, .slice Z0 m0 d0] 24)) = w1 at *
    have B1 := b1
    have cA00 : w1.cell? ⟨w.heap.size, 0, none⟩ = some (.slice A0 n0 c0) := KA0.cell 0
    have dA00 : ∀ o, (w1.alloc o).cell? ⟨w.heap.size, 0, none⟩ = some (.slice A0 n0 c0) := fun o => (KA0.alloc o).cell 0
    have cA01 : w1.cell? ⟨w.heap.size, 1, none⟩ = some (.slice Z0 m0 d0) := KA0.cell 1
    have dA01 : ∀ o, (w1.alloc o).cell? ⟨w.heap.size, 1, none⟩ = some (.slice Z0 m0 d0) := fun o => (KA0.alloc o).cell 1
    refine (szShared_c (by omega) (by omega) (by omega) (by omega)).mono ?_
    rintro e w2 ⟨rfl, b2⟩
    clear cA00 dA00 cA01 dA01
    have B2 := below_step B1 b2
    replace KA0 := KA0.belowAll b2
    have cA00 : w2.cell? ⟨w.heap.size, 0, none⟩ = some (.slice A0 n0 c0) := KA0.cell 0
    have dA00 : ∀ o, (w2.alloc o).cell? ⟨w.heap.size, 0, none⟩ = some (.slice A0 n0 c0) := fun o => (KA0.alloc o).cell 0
    have cA01 : w2.cell? ⟨w.heap.size, 1, none⟩ = some (.slice Z0 m0 d0) := KA0.cell 1
    have dA01 : ∀ o, (w2.alloc o).cell? ⟨w.heap.size, 1, none⟩ = some (.slice Z0 m0 d0) := fun o => (KA0.alloc o).cell 1
    rw [← HL0.out]
    go_wp2_with fail
    refine (toShared_c (SI.of_args hnc0 hn0 (R0.below B2)) (SI.of_args gnc0 hm0 (T0.below B2))).mono ?_
    rintro e w3 ⟨A'1, p1, e1, A'2, p2, e2, rfl, o1, o2, ap1_2, b3⟩
    have bl1 : w.heap.size ≤ w2.heap.size := B2.size
    have bl2 : w.heap.size ≤ w2.heap.size := B2.size
    clear cA00 dA00 cA01 dA01
    have B3 := below_step B2 b3
    replace KA0 := KA0.belowAll b3
    have cA00 : w3.cell? ⟨w.heap.size, 0, none⟩ = some (.slice A0 n0 c0) := KA0.cell 0
    have dA00 : ∀ o, (w3.alloc o).cell? ⟨w.heap.size, 0, none⟩ = some (.slice A0 n0 c0) := fun o => (KA0.alloc o).cell 0
    have cA01 : w3.cell? ⟨w.heap.size, 1, none⟩ = some (.slice Z0 m0 d0) := KA0.cell 1
    have dA01 : ∀ o, (w3.alloc o).cell? ⟨w.heap.size, 1, none⟩ = some (.slice Z0 m0 d0) := fun o => (KA0.alloc o).cell 1
    go_wp2_with fail
    refine (spec_InShared_c o1.si o2.si ).mono ?_
    rintro e w4 ⟨v3, p3, rfl, o3, b4⟩
    have bl3 : w.heap.size ≤ w3.heap.size := B3.size
    clear cA00 dA00 cA01 dA01
    have B4 := below_step B3 b4
    have ap1_3 := OI.apart o1 o3
    have ap2_3 := OI.apart o2 o3
    replace o1 := o1.below b4
    replace o2 := o2.below b4
    replace KA0 := KA0.belowAll b4
    have cA00 : w4.cell? ⟨w.heap.size, 0, none⟩ = some (.slice A0 n0 c0) := KA0.cell 0
    have dA00 : ∀ o, (w4.alloc o).cell? ⟨w.heap.size, 0, none⟩ = some (.slice A0 n0 c0) := fun o => (KA0.alloc o).cell 0
    have cA01 : w4.cell? ⟨w.heap.size, 1, none⟩ = some (.slice Z0 m0 d0) := KA0.cell 1
    have dA01 : ∀ o, (w4.alloc o).cell? ⟨w.heap.size, 1, none⟩ = some (.slice Z0 m0 d0) := fun o => (KA0.alloc o).cell 1
    clear o1
    clear o2
    go_wp2_with fail
    refine (toShared_c (SI.of_args hnc0 hn0 (R0.below B4)) (SI.of_args gnc0 hm0 (T0.below B4))).mono ?_
    rintro e w5 ⟨A'4, p4, e4, A'5, p5, e5, rfl, o4, o5, ap4_5, b5⟩
    have bl4 : w.heap.size ≤ w4.heap.size := B4.size
    have bl5 : w.heap.size ≤ w4.heap.size := B4.size
    clear cA00 dA00 cA01 dA01
    have B5 := below_step B4 b5
    have ap3_4 := OI.apart o3 o4
    have ap3_5 := OI.apart o3 o5
    replace o3 := o3.below b5
    replace KA0 := KA0.belowAll b5
    have cA00 : w5.cell? ⟨w.heap.size, 0, none⟩ = some (.slice A0 n0 c0) := KA0.cell 0
    have dA00 : ∀ o, (w5.alloc o).cell? ⟨w.heap.size, 0, none⟩ = some (.slice A0 n0 c0) := fun o => (KA0.alloc o).cell 0
    have cA01 : w5.cell? ⟨w.heap.size, 1, none⟩ = some (.slice Z0 m0 d0) := KA0.cell 1
    have dA01 : ∀ o, (w5.alloc o).cell? ⟨w.heap.size, 1, none⟩ = some (.slice Z0 m0 d0) := fun o => (KA0.alloc o).cell 1
    go_wp2_with fail
    have b6 : Below w5.heap.size w5 (w5.alloc (.cells #[(.slice A'4 p4 e4), (.slice A'5 p5 e5)] 27)) := (Below.refl _ _).alloc (Nat.le_refl _) _
    have KX0 := Blk.new w5 27 #[(.slice A'4 p4 e4), (.slice A'5 p5 e5)]
    have B6 := below_step B5 b6
    replace o3 := o3.below b6
    replace o4 := o4.below b6
    replace o5 := o5.below b6
    replace KA0 := KA0.belowAll b6
    generalize w5.alloc (.cells #[(.slice A'4 p4 e4), (.slice A'5 p5 e5)] 27) = w6 at *
    clear cA00 dA00 cA01 dA01
    have cA00 : w6.cell? ⟨w.heap.size, 0, none⟩ = some (.slice A0 n0 c0) := KA0.cell 0
    have dA00 : ∀ o, (w6.alloc o).cell? ⟨w.heap.size, 0, none⟩ = some (.slice A0 n0 c0) := fun o => (KA0.alloc o).cell 0
    have cA01 : w6.cell? ⟨w.heap.size, 1, none⟩ = some (.slice Z0 m0 d0) := KA0.cell 1
    have dA01 : ∀ o, (w6.alloc o).cell? ⟨w.heap.size, 1, none⟩ = some (.slice Z0 m0 d0) := fun o => (KA0.alloc o).cell 1
    have cX00 : w6.cell? ⟨w5.heap.size, 0, none⟩ = some (.slice A'4 p4 e4) := KX0.cell 0
    have dX00 : ∀ o, (w6.alloc o).cell? ⟨w5.heap.size, 0, none⟩ = some (.slice A'4 p4 e4) := fun o => (KX0.alloc o).cell 0
    have cX01 : w6.cell? ⟨w5.heap.size, 1, none⟩ = some (.slice A'5 p5 e5) := KX0.cell 1
    have dX01 : ∀ o, (w6.alloc o).cell? ⟨w5.heap.size, 1, none⟩ = some (.slice A'5 p5 e5) := fun o => (KX0.alloc o).cell 1
    refine (impl_InShared_c o4.si o5.si (hT.below B6)).mono ?_
    rintro e w7 ⟨v6, p6, rfl, o6, b7⟩
    have bl6 : w.heap.size ≤ w6.heap.size := B6.size
    clear cA00 dA00 cA01 dA01 cX00 dX00 cX01 dX01
    have B7 := below_step B6 b7
    have ap3_6 := OI.apart o3 o6
    have ap4_6 := OI.apart o4 o6
    have ap5_6 := OI.apart o5 o6
    replace o3 := o3.below b7
    replace o4 := o4.below b7
    replace o5 := o5.below b7
    replace KA0 := KA0.belowAll b7
    replace KX0 := KX0.belowAll b7
    have cA00 : w7.cell? ⟨w.heap.size, 0, none⟩ = some (.slice A0 n0 c0) := KA0.cell 0
    have dA00 : ∀ o, (w7.alloc o).cell? ⟨w.heap.size, 0, none⟩ = some (.slice A0 n0 c0) := fun o => (KA0.alloc o).cell 0
    have cA01 : w7.cell? ⟨w.heap.size, 1, none⟩ = some (.slice Z0 m0 d0) := KA0.cell 1
    have dA01 : ∀ o, (w7.alloc o).cell? ⟨w.heap.size, 1, none⟩ = some (.slice Z0 m0 d0) := fun o => (KA0.alloc o).cell 1
    have cX00 : w7.cell? ⟨w5.heap.size, 0, none⟩ = some (.slice A'4 p4 e4) := KX0.cell 0
    have dX00 : ∀ o, (w7.alloc o).cell? ⟨w5.heap.size, 0, none⟩ = some (.slice A'4 p4 e4) := fun o => (KX0.alloc o).cell 0
    have cX01 : w7.cell? ⟨w5.heap.size, 1, none⟩ = some (.slice A'5 p5 e5) := KX0.cell 1
    have dX01 : ∀ o, (w7.alloc o).cell? ⟨w5.heap.size, 1, none⟩ = some (.slice A'5 p5 e5) := fun o => (KX0.alloc o).cell 1
    go_wp2_with fail
    refine (eqIntS_c o6.si o3.si).mono ?_
    rintro e w8 ⟨rfl, b8⟩
    clear cA00 dA00 cA01 dA01 cX00 dX00 cX01 dX01
    have B8 := below_step B7 b8
    replace o3 := o3.below b8
    replace o4 := o4.below b8
    replace o5 := o5.below b8
    replace o6 := o6.below b8
    replace KA0 := KA0.belowAll b8
    replace KX0 := KX0.belowAll b8
    have cA00 : w8.cell? ⟨w.heap.size, 0, none⟩ = some (.slice A0 n0 c0) := KA0.cell 0
    have dA00 : ∀ o, (w8.alloc o).cell? ⟨w.heap.size, 0, none⟩ = some (.slice A0 n0 c0) := fun o => (KA0.alloc o).cell 0
    have cA01 : w8.cell? ⟨w.heap.size, 1, none⟩ = some (.slice Z0 m0 d0) := KA0.cell 1
    have dA01 : ∀ o, (w8.alloc o).cell? ⟨w.heap.size, 1, none⟩ = some (.slice Z0 m0 d0) := fun o => (KA0.alloc o).cell 1
    have cX00 : w8.cell? ⟨w5.heap.size, 0, none⟩ = some (.slice A'4 p4 e4) := KX0.cell 0
    have dX00 : ∀ o, (w8.alloc o).cell? ⟨w5.heap.size, 0, none⟩ = some (.slice A'4 p4 e4) := fun o => (KX0.alloc o).cell 0
    have cX01 : w8.cell? ⟨w5.heap.size, 1, none⟩ = some (.slice A'5 p5 e5) := KX0.cell 1
    have dX01 : ∀ o, (w8.alloc o).cell? ⟨w5.heap.size, 1, none⟩ = some (.slice A'5 p5 e5) := fun o => (KX0.alloc o).cell 1
    go_wp2_with fail
    have lx := KX0.lt; have la := KA0.lt
    go_region_held3 (fun W => W.cell? ⟨w5.heap.size, 0, none⟩ = some (.slice A'4 p4 e4) ∧ W.cell? ⟨w5.heap.size, 1, none⟩ = some (.slice A'5 p5 e5) ∧ W.cell? ⟨w.heap.size, 0, none⟩ = some (.slice A0 n0 c0) ∧ W.cell? ⟨w.heap.size, 1, none⟩ = some (.slice Z0 m0 d0))
      (first | (go_keep; done) | (go_split_ands; refine ⟨?_, ?_, ?_, ?_⟩ <;> (rw [b10.cell (by have := b9.size; simp at this ⊢; omega)]; assumption)) | (go_split_ands; refine ⟨?_, ?_, ?_, ?_⟩ <;> (rw [b9.cell (by simp <;> omega)]; assumption)))
      (first | (go_at_call 14; refine (toShared_c (SI.of_args hnc0 hn0 (R0.below B8)).drew (SI.of_args gnc0 hm0 (T0.below B8)).drew).mono ?_; rintro e w9 ⟨A'7, p7, e7, A'8, p8, e8, rfl, o7, o8, ap7_8, b9⟩) | (go_at_call 17; refine (eqShared_c (o4.drew.below b9).si (o5.drew.below b9).si o7.si o8.si).mono ?_; rintro e w10 ⟨rfl, b10⟩))
    replace b9 := below_of_drew b9
    clear o7 o8 lx la ap7_8
    clear cA00 dA00 cA01 dA01 cX00 dX00 cX01 dX01
    have B9 := below_step B8 b9
    replace o3 := o3.below b9
    replace o4 := o4.below b9
    replace o5 := o5.below b9
    replace o6 := o6.below b9
    replace KA0 := KA0.belowAll b9
    replace KX0 := KX0.belowAll b9
    have B10 := below_step B9 b10
    replace o3 := o3.below b10
    replace o4 := o4.below b10
    replace o5 := o5.below b10
    replace o6 := o6.below b10
    replace KA0 := KA0.belowAll b10
    replace KX0 := KX0.belowAll b10
    have cA00 : w10.cell? ⟨w.heap.size, 0, none⟩ = some (.slice A0 n0 c0) := KA0.cell 0
    have dA00 : ∀ o, (w10.alloc o).cell? ⟨w.heap.size, 0, none⟩ = some (.slice A0 n0 c0) := fun o => (KA0.alloc o).cell 0
    have cA01 : w10.cell? ⟨w.heap.size, 1, none⟩ = some (.slice Z0 m0 d0) := KA0.cell 1
    have dA01 : ∀ o, (w10.alloc o).cell? ⟨w.heap.size, 1, none⟩ = some (.slice Z0 m0 d0) := fun o => (KA0.alloc o).cell 1
    have cX00 : w10.cell? ⟨w5.heap.size, 0, none⟩ = some (.slice A'4 p4 e4) := KX0.cell 0
    have dX00 : ∀ o, (w10.alloc o).cell? ⟨w5.heap.size, 0, none⟩ = some (.slice A'4 p4 e4) := fun o => (KX0.alloc o).cell 0
    have cX01 : w10.cell? ⟨w5.heap.size, 1, none⟩ = some (.slice A'5 p5 e5) := KX0.cell 1
    have dX01 : ∀ o, (w10.alloc o).cell? ⟨w5.heap.size, 1, none⟩ = some (.slice A'5 p5 e5) := fun o => (KX0.alloc o).cell 1
    have hb4 := o4.2
    have hb5 := o5.2
    go_wp2_with fail
    have oo := o4; have oo2 := o5
    refine (markShared_c o4 o5 ap4_5 (by omega) (by omega)).mono ?_
    rintro e w11 ⟨rfl, o', o2', g11⟩
    clear cA00 dA00 cA01 dA01 cX00 dX00 cX01 dX01
    clear o4 o5; have o4 := o'; have o5 := o2'; clear o' o2'
    have B11 := below_chg2 B10 g11 oo oo2 bl4 bl5
    replace o3 := o3.chg2 g11 ap3_4 ap3_5
    replace o6 := o6.chg2 g11 ap4_6.symm ap5_6.symm
    replace KA0 := KA0.chg2 g11 oo oo2 (by decide)
    replace KX0 := KX0.chg2 g11 oo oo2 (by decide)
    clear oo oo2
    have cA00 : w11.cell? ⟨w.heap.size, 0, none⟩ = some (.slice A0 n0 c0) := KA0.cell 0
    have dA00 : ∀ o, (w11.alloc o).cell? ⟨w.heap.size, 0, none⟩ = some (.slice A0 n0 c0) := fun o => (KA0.alloc o).cell 0
    have cA01 : w11.cell? ⟨w.heap.size, 1, none⟩ = some (.slice Z0 m0 d0) := KA0.cell 1
    have dA01 : ∀ o, (w11.alloc o).cell? ⟨w.heap.size, 1, none⟩ = some (.slice Z0 m0 d0) := fun o => (KA0.alloc o).cell 1
    have cX00 : w11.cell? ⟨w5.heap.size, 0, none⟩ = some (.slice A'4 p4 e4) := KX0.cell 0
    have dX00 : ∀ o, (w11.alloc o).cell? ⟨w5.heap.size, 0, none⟩ = some (.slice A'4 p4 e4) := fun o => (KX0.alloc o).cell 0
    have cX01 : w11.cell? ⟨w5.heap.size, 1, none⟩ = some (.slice A'5 p5 e5) := KX0.cell 1
    have dX01 : ∀ o, (w11.alloc o).cell? ⟨w5.heap.size, 1, none⟩ = some (.slice A'5 p5 e5) := fun o => (KX0.alloc o).cell 1
    go_wp2_with fail
    refine (eqIntS_c o6.si o3.si).mono ?_
    rintro e w12 ⟨rfl, b12⟩
    clear cA00 dA00 cA01 dA01 cX00 dX00 cX01 dX01
    have B12 := below_step B11 b12
    replace o3 := o3.below b12
    replace o4 := o4.below b12
    replace o5 := o5.below b12
    replace o6 := o6.below b12
    replace KA0 := KA0.belowAll b12
    replace KX0 := KX0.belowAll b12
    have cA00 : w12.cell? ⟨w.heap.size, 0, none⟩ = some (.slice A0 n0 c0) := KA0.cell 0
    have dA00 : ∀ o, (w12.alloc o).cell? ⟨w.heap.size, 0, none⟩ = some (.slice A0 n0 c0) := fun o => (KA0.alloc o).cell 0
    have cA01 : w12.cell? ⟨w.heap.size, 1, none⟩ = some (.slice Z0 m0 d0) := KA0.cell 1
    have dA01 : ∀ o, (w12.alloc o).cell? ⟨w.heap.size, 1, none⟩ = some (.slice Z0 m0 d0) := fun o => (KA0.alloc o).cell 1
    have cX00 : w12.cell? ⟨w5.heap.size, 0, none⟩ = some (.slice A'4 p4 e4) := KX0.cell 0
    have dX00 : ∀ o, (w12.alloc o).cell? ⟨w5.heap.size, 0, none⟩ = some (.slice A'4 p4 e4) := fun o => (KX0.alloc o).cell 0
    have cX01 : w12.cell? ⟨w5.heap.size, 1, none⟩ = some (.slice A'5 p5 e5) := KX0.cell 1
    have dX01 : ∀ o, (w12.alloc o).cell? ⟨w5.heap.size, 1, none⟩ = some (.slice A'5 p5 e5) := fun o => (KX0.alloc o).cell 1
    clear o4
    clear o5
    have hb6 := o6.2
    go_wp2_with fail
    have oo := o6
    refine (markIntS_c o6 (by omega) (by omega)).mono ?_
    rintro e w13 ⟨rfl, o', g13⟩
    clear cA00 dA00 cA01 dA01 cX00 dX00 cX01 dX01
    clear o6; have o6 := o'; clear o'
    have B13 := B12.grown g13 B12.size (oo.grown_le bl6)
    replace o3 := o3.grown g13 ap3_6
    replace KA0 := KA0.grown g13 (fun e => oo.ne_blk KA0 (by decide) e.symm)
    replace KX0 := KX0.grown g13 (fun e => oo.ne_blk KX0 (by decide) e.symm)
    clear oo
    have cA00 : w13.cell? ⟨w.heap.size, 0, none⟩ = some (.slice A0 n0 c0) := KA0.cell 0
    have dA00 : ∀ o, (w13.alloc o).cell? ⟨w.heap.size, 0, none⟩ = some (.slice A0 n0 c0) := fun o => (KA0.alloc o).cell 0
    have cA01 : w13.cell? ⟨w.heap.size, 1, none⟩ = some (.slice Z0 m0 d0) := KA0.cell 1
    have dA01 : ∀ o, (w13.alloc o).cell? ⟨w.heap.size, 1, none⟩ = some (.slice Z0 m0 d0) := fun o => (KA0.alloc o).cell 1
    have cX00 : w13.cell? ⟨w5.heap.size, 0, none⟩ = some (.slice A'4 p4 e4) := KX0.cell 0
    have dX00 : ∀ o, (w13.alloc o).cell? ⟨w5.heap.size, 0, none⟩ = some (.slice A'4 p4 e4) := fun o => (KX0.alloc o).cell 0
    have cX01 : w13.cell? ⟨w5.heap.size, 1, none⟩ = some (.slice A'5 p5 e5) := KX0.cell 1
    have dX01 : ∀ o, (w13.alloc o).cell? ⟨w5.heap.size, 1, none⟩ = some (.slice A'5 p5 e5) := fun o => (KX0.alloc o).cell 1
    go_wp2_with fail
    refine (heldIntS_c o6.si (by omega) (by omega)).mono ?_
    rintro e w14 ⟨rfl, b14⟩
    clear cA00 dA00 cA01 dA01 cX00 dX00 cX01 dX01
    have B14 := below_step B13 b14
    replace o3 := o3.below b14
    replace o6 := o6.below b14
    replace KA0 := KA0.belowAll b14
    replace KX0 := KX0.belowAll b14
    have cA00 : w14.cell? ⟨w.heap.size, 0, none⟩ = some (.slice A0 n0 c0) := KA0.cell 0
    have dA00 : ∀ o, (w14.alloc o).cell? ⟨w.heap.size, 0, none⟩ = some (.slice A0 n0 c0) := fun o => (KA0.alloc o).cell 0
    have cA01 : w14.cell? ⟨w.heap.size, 1, none⟩ = some (.slice Z0 m0 d0) := KA0.cell 1
    have dA01 : ∀ o, (w14.alloc o).cell? ⟨w.heap.size, 1, none⟩ = some (.slice Z0 m0 d0) := fun o => (KA0.alloc o).cell 1
    have cX00 : w14.cell? ⟨w5.heap.size, 0, none⟩ = some (.slice A'4 p4 e4) := KX0.cell 0
    have dX00 : ∀ o, (w14.alloc o).cell? ⟨w5.heap.size, 0, none⟩ = some (.slice A'4 p4 e4) := fun o => (KX0.alloc o).cell 0
    have cX01 : w14.cell? ⟨w5.heap.size, 1, none⟩ = some (.slice A'5 p5 e5) := KX0.cell 1
    have dX01 : ∀ o, (w14.alloc o).cell? ⟨w5.heap.size, 1, none⟩ = some (.slice A'5 p5 e5) := fun o => (KX0.alloc o).cell 1
    go_wp2_with fail
    refine (toShared_c (SI.of_args hnc0 hn0 (R0.below B14)) (SI.of_args gnc0 hm0 (T0.below B14))).mono ?_
    rintro e w15 ⟨A'9, p9, e9, A'10, p10, e10, rfl, o9, o10, ap9_10, b15⟩
    have bl9 : w.heap.size ≤ w14.heap.size := B14.size
    have bl10 : w.heap.size ≤ w14.heap.size := B14.size
    clear cA00 dA00 cA01 dA01 cX00 dX00 cX01 dX01
    have B15 := below_step B14 b15
    have ap3_9 := OI.apart o3 o9
    have ap6_9 := OI.apart o6 o9
    have ap3_10 := OI.apart o3 o10
    have ap6_10 := OI.apart o6 o10
    replace o3 := o3.below b15
    replace o6 := o6.below b15
    replace KA0 := KA0.belowAll b15
    replace KX0 := KX0.belowAll b15
    have cA00 : w15.cell? ⟨w.heap.size, 0, none⟩ = some (.slice A0 n0 c0) := KA0.cell 0
    have dA00 : ∀ o, (w15.alloc o).cell? ⟨w.heap.size, 0, none⟩ = some (.slice A0 n0 c0) := fun o => (KA0.alloc o).cell 0
    have cA01 : w15.cell? ⟨w.heap.size, 1, none⟩ = some (.slice Z0 m0 d0) := KA0.cell 1
    have dA01 : ∀ o, (w15.alloc o).cell? ⟨w.heap.size, 1, none⟩ = some (.slice Z0 m0 d0) := fun o => (KA0.alloc o).cell 1
    have cX00 : w15.cell? ⟨w5.heap.size, 0, none⟩ = some (.slice A'4 p4 e4) := KX0.cell 0
    have dX00 : ∀ o, (w15.alloc o).cell? ⟨w5.heap.size, 0, none⟩ = some (.slice A'4 p4 e4) := fun o => (KX0.alloc o).cell 0
    have cX01 : w15.cell? ⟨w5.heap.size, 1, none⟩ = some (.slice A'5 p5 e5) := KX0.cell 1
    have dX01 : ∀ o, (w15.alloc o).cell? ⟨w5.heap.size, 1, none⟩ = some (.slice A'5 p5 e5) := fun o => (KX0.alloc o).cell 1
    go_wp2_with fail
    refine (impl_InShared_c o9.si o10.si (hT.below B15)).mono ?_
    rintro e w16 ⟨v11, p11, rfl, o11, b16⟩
    have bl11 : w.heap.size ≤ w15.heap.size := B15.size
    clear cA00 dA00 cA01 dA01 cX00 dX00 cX01 dX01
    have B16 := below_step B15 b16
    have ap3_11 := OI.apart o3 o11
    have ap6_11 := OI.apart o6 o11
    have ap9_11 := OI.apart o9 o11
    have ap10_11 := OI.apart o10 o11
    replace o3 := o3.below b16
    replace o6 := o6.below b16
    replace o9 := o9.below b16
    replace o10 := o10.below b16
    replace KA0 := KA0.belowAll b16
    replace KX0 := KX0.belowAll b16
    have cA00 : w16.cell? ⟨w.heap.size, 0, none⟩ = some (.slice A0 n0 c0) := KA0.cell 0
    have dA00 : ∀ o, (w16.alloc o).cell? ⟨w.heap.size, 0, none⟩ = some (.slice A0 n0 c0) := fun o => (KA0.alloc o).cell 0
    have cA01 : w16.cell? ⟨w.heap.size, 1, none⟩ = some (.slice Z0 m0 d0) := KA0.cell 1
    have dA01 : ∀ o, (w16.alloc o).cell? ⟨w.heap.size, 1, none⟩ = some (.slice Z0 m0 d0) := fun o => (KA0.alloc o).cell 1
    have cX00 : w16.cell? ⟨w5.heap.size, 0, none⟩ = some (.slice A'4 p4 e4) := KX0.cell 0
    have dX00 : ∀ o, (w16.alloc o).cell? ⟨w5.heap.size, 0, none⟩ = some (.slice A'4 p4 e4) := fun o => (KX0.alloc o).cell 0
    have cX01 : w16.cell? ⟨w5.heap.size, 1, none⟩ = some (.slice A'5 p5 e5) := KX0.cell 1
    have dX01 : ∀ o, (w16.alloc o).cell? ⟨w5.heap.size, 1, none⟩ = some (.slice A'5 p5 e5) := fun o => (KX0.alloc o).cell 1
    clear o9
    clear o10
    go_wp2_with fail
    refine (eqIntS_c o11.si o3.si).mono ?_
    rintro e w17 ⟨rfl, b17⟩
    clear cA00 dA00 cA01 dA01 cX00 dX00 cX01 dX01
    have B17 := below_step B16 b17
    replace o3 := o3.below b17
    replace o6 := o6.below b17
    replace o11 := o11.below b17
    replace KA0 := KA0.belowAll b17
    replace KX0 := KX0.belowAll b17
    have cA00 : w17.cell? ⟨w.heap.size, 0, none⟩ = some (.slice A0 n0 c0) := KA0.cell 0
    have dA00 : ∀ o, (w17.alloc o).cell? ⟨w.heap.size, 0, none⟩ = some (.slice A0 n0 c0) := fun o => (KA0.alloc o).cell 0
    have cA01 : w17.cell? ⟨w.heap.size, 1, none⟩ = some (.slice Z0 m0 d0) := KA0.cell 1
    have dA01 : ∀ o, (w17.alloc o).cell? ⟨w.heap.size, 1, none⟩ = some (.slice Z0 m0 d0) := fun o => (KA0.alloc o).cell 1
    have cX00 : w17.cell? ⟨w5.heap.size, 0, none⟩ = some (.slice A'4 p4 e4) := KX0.cell 0
    have dX00 : ∀ o, (w17.alloc o).cell? ⟨w5.heap.size, 0, none⟩ = some (.slice A'4 p4 e4) := fun o => (KX0.alloc o).cell 0
    have cX01 : w17.cell? ⟨w5.heap.size, 1, none⟩ = some (.slice A'5 p5 e5) := KX0.cell 1
    have dX01 : ∀ o, (w17.alloc o).cell? ⟨w5.heap.size, 1, none⟩ = some (.slice A'5 p5 e5) := fun o => (KX0.alloc o).cell 1
    go_wp2_with fail
    refine (heldIntS_c o6.si (by omega) (by omega)).mono ?_
    rintro e w18 ⟨rfl, b18⟩
    clear cA00 dA00 cA01 dA01 cX00 dX00 cX01 dX01
    have B18 := below_step B17 b18
    replace o3 := o3.below b18
    replace o6 := o6.below b18
    replace o11 := o11.below b18
    replace KA0 := KA0.belowAll b18
    replace KX0 := KX0.belowAll b18
    have cA00 : w18.cell? ⟨w.heap.size, 0, none⟩ = some (.slice A0 n0 c0) := KA0.cell 0
    have dA00 : ∀ o, (w18.alloc o).cell? ⟨w.heap.size, 0, none⟩ = some (.slice A0 n0 c0) := fun o => (KA0.alloc o).cell 0
    have cA01 : w18.cell? ⟨w.heap.size, 1, none⟩ = some (.slice Z0 m0 d0) := KA0.cell 1
    have dA01 : ∀ o, (w18.alloc o).cell? ⟨w.heap.size, 1, none⟩ = some (.slice Z0 m0 d0) := fun o => (KA0.alloc o).cell 1
    have cX00 : w18.cell? ⟨w5.heap.size, 0, none⟩ = some (.slice A'4 p4 e4) := KX0.cell 0
    have dX00 : ∀ o, (w18.alloc o).cell? ⟨w5.heap.size, 0, none⟩ = some (.slice A'4 p4 e4) := fun o => (KX0.alloc o).cell 0
    have cX01 : w18.cell? ⟨w5.heap.size, 1, none⟩ = some (.slice A'5 p5 e5) := KX0.cell 1
    have dX01 : ∀ o, (w18.alloc o).cell? ⟨w5.heap.size, 1, none⟩ = some (.slice A'5 p5 e5) := fun o => (KX0.alloc o).cell 1
    go_wp2_with fail
    go_ret
    exact ⟨rfl, B18⟩
  · clear hL0 a0
    have b1 : Below w.heap.size w (w.alloc (.cells #[.slice A0 n0 c0, .slice Z0 m0 d0] 24)) := ((Below.refl _ _).alloc (by simp <;> omega) _)
    have KA0 := Blk.new w 24 #[(.slice A0 n0 c0), (.slice Z0 m0 d0)]
    go_enter Tryd.func3, Tryd.ntmps3
    go_wp2_with fail
    generalize (w.alloc (.cells #[.slice A0 n0 c0, .slice Z0 m0 d0] 24)) = w1 at *
    have B1 := b1
    have cA00 : w1.cell? ⟨w.heap.size, 0, none⟩ = some (.slice A0 n0 c0) := KA0.cell 0
    have dA00 : ∀ o, (w1.alloc o).cell? ⟨w.heap.size, 0, none⟩ = some (.slice A0 n0 c0) := fun o => (KA0.alloc o).cell 0
    have cA01 : w1.cell? ⟨w.heap.size, 1, none⟩ = some (.slice Z0 m0 d0) := KA0.cell 1
    have dA01 : ∀ o, (w1.alloc o).cell? ⟨w.heap.size, 1, none⟩ = some (.slice Z0 m0 d0) := fun o => (KA0.alloc o).cell 1
    refine (szShared_c (by omega) (by omega) (by omega) (by omega)).mono ?_
    rintro e w2 ⟨rfl, b2⟩
    clear cA00 dA00 cA01 dA01
    have B2 := below_step B1 b2
    replace KA0 := KA0.belowAll b2
    have cA00 : w2.cell? ⟨w.heap.size, 0, none⟩ = some (.slice A0 n0 c0) := KA0.cell 0
    have dA00 : ∀ o, (w2.alloc o).cell? ⟨w.heap.size, 0, none⟩ = some (.slice A0 n0 c0) := fun o => (KA0.alloc o).cell 0
    have cA01 : w2.cell? ⟨w.heap.size, 1, none⟩ = some (.slice Z0 m0 d0) := KA0.cell 1
    have dA01 : ∀ o, (w2.alloc o).cell? ⟨w.heap.size, 1, none⟩ = some (.slice Z0 m0 d0) := fun o => (KA0.alloc o).cell 1
    rw [← HL0.out]
    go_wp2_with fail
    go_ret
    exact ⟨rfl, B2⟩

theorem door_met (os : Os) (args : Array Value) : laidMetH Tryd.prog Rows.fnExactInSharedRow.laid ((World.doorLaid Tryd.prog 24 os).forCall (fun _ _ => 0) ⟨#[], args, []⟩).memory :=
  laidMetH_of_parts3 (fuel := 8) (laidMet_of_run' 8 (by kernel_rfl) (by kernel_rfl)) (by kernel_rfl) (by kernel_rfl)
set_option maxRecDepth 100000 in
theorem lifted (os : Os) (started : os.Started) (H : Type) (enc : TypeId × Value → H) :
    ReturnsInHanded {} Tryd.checked os 3 .any (fun w args => (Rows.fnExactInSharedSpec.pre enc Tryd.prog Tryd.f3 [] false w args ∧ laidMetH Tryd.prog Rows.fnExactInSharedRow.laid w) ∧ sizedMet enc Tryd.prog Tryd.f3 (OpenSpec.ofChange Rows.fnExactInSharedSpec) false w args)
      (Rows.fnExactInSharedSpec.post enc Tryd.prog Tryd.f3 false true false false) := by
  refine returnsInHanded_of_change_and (C := Tryd.checked) (X := fun w _ => laidMetH Tryd.prog Rows.fnExactInSharedRow.laid w) (fun _ _ _ hh h => h.of_heap hh) own started (by kernel_rfl) Tryd.func3
    (ChangeSpec.witness_shaped (enc := enc) (C := Tryd.checked) (os := os) (X := fun w _ => laidMetH Tryd.prog Rows.fnExactInSharedRow.laid w) false (World.doorLaid Tryd.prog 24 os) #[.agg #[.slice none 0 0, .slice none 0 0]] 8 rfl (World.shaped_of_RefB (by kernel_rfl) (by kernel_rfl)) (by kernel_rfl) (by kernel_rfl) (by kernel_rfl) (door_met os _)) ?_
  intro W base args ds gs before hval0 hW _ _ hL _
  have hval : ∀ (j : Nat) t v, Tryd.f3.params[j]? = some t → args[j]? = some v → Value.okWide Tryd.prog W .any base t v := hval0
  have hW' := hW
  obtain ⟨p, q, hA0, hV, rfl, hfz, hnd⟩ := hW
  have hA : DataW.TrodAll enc Tryd.prog W 0 (fun _ => true) true Tryd.f3.params.toList args.toList ds p := hA0
  rw [Tryd.params3] at hA hval
  obtain ⟨v0, vs0, d0, ds0, p0, q0, hargs, rfl, rfl, h0, r0⟩ := trodAll_cons hA
  obtain ⟨rfl, rfl, rfl⟩ := trodAll_nil r0
  obtain rfl : args = #[v0] := by cases args; simp_all
  obtain ⟨rfl, rfl⟩ := trodVars_none hV
  have k0 := h0
  have lt0 : ∀ x ∈ p0, x.block < W.heap.size := by obtain ⟨m, hm⟩ := k0; exact DataW.trod_lt m _ _ _ hm
  obtain ⟨A0, n0, c0, xs0, B0, m0, d0, ys0, rfl, ⟨hnc0, hmx0, R0⟩, ⟨gnc0, gmx0, T0⟩⟩ := open_SharedA (hval 0 24 v0 rfl rfl) h0
  clear hA0 hval0
  have hT : Tab W := tab_of_laidH hL (by kernel_rfl) rfl
  refine (walk A0 n0 c0 xs0 B0 m0 d0 ys0 W hnc0 hmx0 R0 gnc0 gmx0 T0 hT).mono fun e W' ⟨he, bel⟩ => ?_
  subst he
  exact ⟨_, rfl, _, _, _, [], _, [], hW', trodAll_mk1 (shut_bool Tryd.underlying4 _), (trodAll_cons_mk (Below.trod laidOut (by kernel_rfl) (of_decide_eq_true (by kernel_rfl)) k0 bel lt0) trodAll_mk0), rfl, bel.frame _, fun h => by cases h⟩
theorem row_holds : Rows.FnExactInSharedSaid :=
  OpenClaim.holds_of_wide 3 Tryd.f3 rfl rfl rfl rfl rfl rfl rfl ⟨rfl, rfl, rfl, rfl, rfl⟩ rfl rfl rfl rfl rfl (by kernel_rfl) Tryd.func3 (by kernel_rfl)
    (of_decide_eq_true (by kernel_rfl)) (by unfold Func.isWrapper; first | (rw [if_pos (by decide +kernel)]; kernel_rfl) | (rw [if_neg (by decide +kernel)]; exact ⟨rfl, rfl⟩))
    (fun os started H enc _ => lifted os started H enc)
theorem proved : Rows.FnExactInSharedCardSaid :=
  Claim7.holds_tied_plain_at .later [] [.data, .data] true (true, "05a08bfe29a0c28e6e014570d56fa0359cf688acda83bdb85be7a3739bc03165") false
    row_holds (fun _ h => by cases h) (by kernel_rfl) (fun _ h => by cases h) fnExactInShared_row_tie rfl ⟨rfl, rfl⟩ (by kernel_rfl) rfl
    (fun f fn hf hfn => by
      obtain rfl : f = 3 := Option.some.inj ((show Tryd.prog.funcNamed "loop.example/historychecker/laws.FnExactInShared" = some 3 by kernel_rfl).symm.trans hf) |>.symm
      obtain rfl : fn = Tryd.f3 := (Option.some.inj (Tryd.func3.symm.trans hfn)).symm
      exact ⟨by kernel_rfl, fun j t ht => by
        rw [Tryd.params3] at ht
        have hm : t ∈ [24] := by simpa using Array.mem_of_getElem? ht
        have hall : ([24].all fun u => !Tryd.prog.wantsStandIn u) = true := by kernel_rfl
        exact (show Tryd.prog.wantsStandIn t = false by simpa using List.all_eq_true.1 hall t hm)⟩)
    (by kernel_rfl)
end Go.Proofs.YtcoienlblhbkpaaDoor.exactInShared
