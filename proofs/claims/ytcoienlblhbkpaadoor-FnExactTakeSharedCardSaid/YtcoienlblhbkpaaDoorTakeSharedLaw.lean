/- FnExactTakeShared: for all arguments the program's TakeShared returns what the reference's returns, and leaves its arguments as they are; its result shares no memory with them or with another result. -/
import Derived.Test.YtcoienlblhbkpaaDoorShared10
import Derived.Test.YtcoienlblhbkpaaDoorOpenSh
import Derived.Test.YtcoienlblhbkpaaDoorShT2
import Derived.Test.YtcoienlblhbkpaaDoorShI2
import Derived.Test.YtcoienlblhbkpaaDoorSharedM
import Derived.Test.YtcoienlblhbkpaaDoorOpenT
import Derived.Test.YtcoienlblhbkpaaDoorOpen
import Derived.Deep.RegionHeld3
namespace Go.Proofs.YtcoienlblhbkpaaDoor.exactTakeShared
open Go.ChangeShapes Go.WideShapes Go.ChangeAt Go.RowKit

set_option linter.unusedSimpArgs false
set_option maxRecDepth 8000 in
set_option maxHeartbeats 16000000 in
theorem walk (A0 : Option Addr) (n0 c0 : Nat) (xs0 : List Int) (Z0 : Option Addr) (m0 d0 : Nat) (ys0 : List Int) (x1 : Int) (w : World)
    (hnc0 : n0 ≤ c0) (hmx0 : c0 ≤ maxLen) (R0 : RI w A0 n0 xs0) (gnc0 : m0 ≤ d0) (gmx0 : d0 ≤ maxLen) (T0 : RI w Z0 m0 ys0) (_wx1 : (Lit.int .i64 x1).wf = true) (hT : Tab w) :
    Calls Tryd.prog 5 #[.agg #[.slice A0 n0 c0, .slice Z0 m0 d0], .int .i64 x1] w fun e w' => e = .returned (.bool true) ∧ Below w.heap.size w w' := by
  have a0 : ∀ (a b : Nat), (0 : Int) ≤ (a : Int) + (b : Int) := fun a b => by omega
  obtain ⟨L0, hL0⟩ : ∃ L : Int, L = szR 1048576 ((n0 : Int) + m0) := ⟨_, rfl⟩
  have l0b := szR_le 1048576 ((n0 : Int) + m0) (by omega) (by omega)
  rw [← hL0] at l0b
  have HL0 := hide hL0
  by_cases l0 : 0 ≤ L0
  · have z0 := szR_ok (hL0 ▸ l0)
    have hn0 : n0 ≤ 1048576 := by omega
    have hm0 : m0 ≤ 1048576 := by omega
    have e0 : L0 = 1048576 - ((n0 : Int) + m0) := by rw [hL0]; exact z0.2
    have hE0 : L0 ≤ 1048576 := by omega
    clear z0 e0 hL0
    clear a0
    have b1 : Below w.heap.size w (w.alloc (.cells #[.slice A0 n0 c0, .slice Z0 m0 d0] 24)) := ((Below.refl _ _).alloc (by simp <;> omega) _)
    have KA0 := Blk.new w 24 #[(.slice A0 n0 c0), (.slice Z0 m0 d0)]
    go_enter Tryd.func5, Tryd.ntmps5
    go_wp2_with fail
    generalize (w.alloc (.cells #[.slice A0 n0 c0, .slice Z0 m0 d0] 24)) = w1 at *
    have B1 := b1
    have cA00 : w1.cell? ⟨w.heap.size, 0, none⟩ = some (.slice A0 n0 c0) := KA0.cell 0
    have dA00 : ∀ o, (w1.alloc o).cell? ⟨w.heap.size, 0, none⟩ = some (.slice A0 n0 c0) := fun o => (KA0.alloc o).cell 0
    have cA01 : w1.cell? ⟨w.heap.size, 1, none⟩ = some (.slice Z0 m0 d0) := KA0.cell 1
    have dA01 : ∀ o, (w1.alloc o).cell? ⟨w.heap.size, 1, none⟩ = some (.slice Z0 m0 d0) := fun o => (KA0.alloc o).cell 1
    refine (szShared_c (by omega) (by omega) (by omega) (by omega)).mono ?_
    rintro e w2 ⟨rfl, b2⟩
    clear cA00 dA00 cA01 dA01
    have B2 := below_step B1 b2
    replace KA0 := KA0.belowAll b2
    have cA00 : w2.cell? ⟨w.heap.size, 0, none⟩ = some (.slice A0 n0 c0) := KA0.cell 0
    have dA00 : ∀ o, (w2.alloc o).cell? ⟨w.heap.size, 0, none⟩ = some (.slice A0 n0 c0) := fun o => (KA0.alloc o).cell 0
    have cA01 : w2.cell? ⟨w.heap.size, 1, none⟩ = some (.slice Z0 m0 d0) := KA0.cell 1
    have dA01 : ∀ o, (w2.alloc o).cell? ⟨w.heap.size, 1, none⟩ = some (.slice Z0 m0 d0) := fun o => (KA0.alloc o).cell 1
    rw [← HL0.out]
    go_wp2_with fail
    refine (toShared_c (SI.of_args hnc0 hn0 (R0.below B2)) (SI.of_args gnc0 hm0 (T0.below B2))).mono ?_
    rintro e w3 ⟨A'1, p1, e1, A'2, p2, e2, rfl, o1, o2, ap1_2, b3⟩
    have bl1 : w.heap.size ≤ w2.heap.size := B2.size
    have bl2 : w.heap.size ≤ w2.heap.size := B2.size
    clear cA00 dA00 cA01 dA01
    have B3 := below_step B2 b3
    replace KA0 := KA0.belowAll b3
    have cA00 : w3.cell? ⟨w.heap.size, 0, none⟩ = some (.slice A0 n0 c0) := KA0.cell 0
    have dA00 : ∀ o, (w3.alloc o).cell? ⟨w.heap.size, 0, none⟩ = some (.slice A0 n0 c0) := fun o => (KA0.alloc o).cell 0
    have cA01 : w3.cell? ⟨w.heap.size, 1, none⟩ = some (.slice Z0 m0 d0) := KA0.cell 1
    have dA01 : ∀ o, (w3.alloc o).cell? ⟨w.heap.size, 1, none⟩ = some (.slice Z0 m0 d0) := fun o => (KA0.alloc o).cell 1
    go_wp2_with fail
    refine (spec_TakeShared_c (x := x1) o1.si o2.si ).mono ?_
    rintro e w4 ⟨A'3, p3, e3, A'4, p4, e4, rfl, o3, o4, ap3_4, b4⟩
    have bl3 : w.heap.size ≤ w3.heap.size := B3.size
    have bl4 : w.heap.size ≤ w3.heap.size := B3.size
    clear cA00 dA00 cA01 dA01
    have B4 := below_step B3 b4
    have ap1_3 := OI.apart o1 o3
    have ap2_3 := OI.apart o2 o3
    have ap1_4 := OI.apart o1 o4
    have ap2_4 := OI.apart o2 o4
    replace o1 := o1.below b4
    replace o2 := o2.below b4
    replace KA0 := KA0.belowAll b4
    have cA00 : w4.cell? ⟨w.heap.size, 0, none⟩ = some (.slice A0 n0 c0) := KA0.cell 0
    have dA00 : ∀ o, (w4.alloc o).cell? ⟨w.heap.size, 0, none⟩ = some (.slice A0 n0 c0) := fun o => (KA0.alloc o).cell 0
    have cA01 : w4.cell? ⟨w.heap.size, 1, none⟩ = some (.slice Z0 m0 d0) := KA0.cell 1
    have dA01 : ∀ o, (w4.alloc o).cell? ⟨w.heap.size, 1, none⟩ = some (.slice Z0 m0 d0) := fun o => (KA0.alloc o).cell 1
    go_wp2_with fail
    have b5 : Below w4.heap.size w4 (w4.alloc (.cells #[(.slice A'3 p3 e3), (.slice A'4 p4 e4)] 27)) := (Below.refl _ _).alloc (Nat.le_refl _) _
    have KW := Blk.new w4 27 #[(.slice A'3 p3 e3), (.slice A'4 p4 e4)]
    have B5 := below_step B4 b5
    replace o1 := o1.below b5
    replace o2 := o2.below b5
    replace o3 := o3.below b5
    replace o4 := o4.below b5
    replace KA0 := KA0.belowAll b5
    generalize w4.alloc (.cells #[(.slice A'3 p3 e3), (.slice A'4 p4 e4)] 27) = w5 at *
    clear cA00 dA00 cA01 dA01
    have cA00 : w5.cell? ⟨w.heap.size, 0, none⟩ = some (.slice A0 n0 c0) := KA0.cell 0
    have dA00 : ∀ o, (w5.alloc o).cell? ⟨w.heap.size, 0, none⟩ = some (.slice A0 n0 c0) := fun o => (KA0.alloc o).cell 0
    have cA01 : w5.cell? ⟨w.heap.size, 1, none⟩ = some (.slice Z0 m0 d0) := KA0.cell 1
    have dA01 : ∀ o, (w5.alloc o).cell? ⟨w.heap.size, 1, none⟩ = some (.slice Z0 m0 d0) := fun o => (KA0.alloc o).cell 1
    have cW0 : w5.cell? ⟨w4.heap.size, 0, none⟩ = some (.slice A'3 p3 e3) := KW.cell 0
    have dW0 : ∀ o, (w5.alloc o).cell? ⟨w4.heap.size, 0, none⟩ = some (.slice A'3 p3 e3) := fun o => (KW.alloc o).cell 0
    have cW1 : w5.cell? ⟨w4.heap.size, 1, none⟩ = some (.slice A'4 p4 e4) := KW.cell 1
    have dW1 : ∀ o, (w5.alloc o).cell? ⟨w4.heap.size, 1, none⟩ = some (.slice A'4 p4 e4) := fun o => (KW.alloc o).cell 1
    refine (toShared_c (SI.of_args hnc0 hn0 (R0.below B5)) (SI.of_args gnc0 hm0 (T0.below B5))).mono ?_
    rintro e w6 ⟨A'5, p5, e5, A'6, p6, e6, rfl, o5, o6, ap5_6, b6⟩
    have bl5 : w.heap.size ≤ w5.heap.size := B5.size
    have bl6 : w.heap.size ≤ w5.heap.size := B5.size
    clear cA00 dA00 cA01 dA01 cW0 dW0 cW1 dW1
    have B6 := below_step B5 b6
    have ap1_5 := OI.apart o1 o5
    have ap2_5 := OI.apart o2 o5
    have ap3_5 := OI.apart o3 o5
    have ap4_5 := OI.apart o4 o5
    have ap1_6 := OI.apart o1 o6
    have ap2_6 := OI.apart o2 o6
    have ap3_6 := OI.apart o3 o6
    have ap4_6 := OI.apart o4 o6
    replace o1 := o1.below b6
    replace o2 := o2.below b6
    replace o3 := o3.below b6
    replace o4 := o4.below b6
    replace KA0 := KA0.belowAll b6
    replace KW := KW.belowAll b6
    have cA00 : w6.cell? ⟨w.heap.size, 0, none⟩ = some (.slice A0 n0 c0) := KA0.cell 0
    have dA00 : ∀ o, (w6.alloc o).cell? ⟨w.heap.size, 0, none⟩ = some (.slice A0 n0 c0) := fun o => (KA0.alloc o).cell 0
    have cA01 : w6.cell? ⟨w.heap.size, 1, none⟩ = some (.slice Z0 m0 d0) := KA0.cell 1
    have dA01 : ∀ o, (w6.alloc o).cell? ⟨w.heap.size, 1, none⟩ = some (.slice Z0 m0 d0) := fun o => (KA0.alloc o).cell 1
    have cW0 : w6.cell? ⟨w4.heap.size, 0, none⟩ = some (.slice A'3 p3 e3) := KW.cell 0
    have dW0 : ∀ o, (w6.alloc o).cell? ⟨w4.heap.size, 0, none⟩ = some (.slice A'3 p3 e3) := fun o => (KW.alloc o).cell 0
    have cW1 : w6.cell? ⟨w4.heap.size, 1, none⟩ = some (.slice A'4 p4 e4) := KW.cell 1
    have dW1 : ∀ o, (w6.alloc o).cell? ⟨w4.heap.size, 1, none⟩ = some (.slice A'4 p4 e4) := fun o => (KW.alloc o).cell 1
    clear o1
    clear o2
    go_wp2_with fail
    have b7 : Below w6.heap.size w6 (w6.alloc (.cells #[(.slice A'5 p5 e5), (.slice A'6 p6 e6)] 27)) := (Below.refl _ _).alloc (Nat.le_refl _) _
    have KX0 := Blk.new w6 27 #[(.slice A'5 p5 e5), (.slice A'6 p6 e6)]
    have B7 := below_step B6 b7
    replace o3 := o3.below b7
    replace o4 := o4.below b7
    replace o5 := o5.below b7
    replace o6 := o6.below b7
    replace KA0 := KA0.belowAll b7
    replace KW := KW.belowAll b7
    generalize w6.alloc (.cells #[(.slice A'5 p5 e5), (.slice A'6 p6 e6)] 27) = w7 at *
    clear cA00 dA00 cA01 dA01 cW0 dW0 cW1 dW1
    have cA00 : w7.cell? ⟨w.heap.size, 0, none⟩ = some (.slice A0 n0 c0) := KA0.cell 0
    have dA00 : ∀ o, (w7.alloc o).cell? ⟨w.heap.size, 0, none⟩ = some (.slice A0 n0 c0) := fun o => (KA0.alloc o).cell 0
    have cA01 : w7.cell? ⟨w.heap.size, 1, none⟩ = some (.slice Z0 m0 d0) := KA0.cell 1
    have dA01 : ∀ o, (w7.alloc o).cell? ⟨w.heap.size, 1, none⟩ = some (.slice Z0 m0 d0) := fun o => (KA0.alloc o).cell 1
    have cW0 : w7.cell? ⟨w4.heap.size, 0, none⟩ = some (.slice A'3 p3 e3) := KW.cell 0
    have dW0 : ∀ o, (w7.alloc o).cell? ⟨w4.heap.size, 0, none⟩ = some (.slice A'3 p3 e3) := fun o => (KW.alloc o).cell 0
    have cW1 : w7.cell? ⟨w4.heap.size, 1, none⟩ = some (.slice A'4 p4 e4) := KW.cell 1
    have dW1 : ∀ o, (w7.alloc o).cell? ⟨w4.heap.size, 1, none⟩ = some (.slice A'4 p4 e4) := fun o => (KW.alloc o).cell 1
    have cX00 : w7.cell? ⟨w6.heap.size, 0, none⟩ = some (.slice A'5 p5 e5) := KX0.cell 0
    have dX00 : ∀ o, (w7.alloc o).cell? ⟨w6.heap.size, 0, none⟩ = some (.slice A'5 p5 e5) := fun o => (KX0.alloc o).cell 0
    have cX01 : w7.cell? ⟨w6.heap.size, 1, none⟩ = some (.slice A'6 p6 e6) := KX0.cell 1
    have dX01 : ∀ o, (w7.alloc o).cell? ⟨w6.heap.size, 1, none⟩ = some (.slice A'6 p6 e6) := fun o => (KX0.alloc o).cell 1
    refine (impl_TakeShared_c (x := x1) o5.si o6.si (hT.below B7)).mono ?_
    rintro e w8 ⟨A'7, p7, e7, A'8, p8, e8, rfl, o7, o8, ap7_8, b8⟩
    have bl7 : w.heap.size ≤ w7.heap.size := B7.size
    have bl8 : w.heap.size ≤ w7.heap.size := B7.size
    clear cA00 dA00 cA01 dA01 cW0 dW0 cW1 dW1 cX00 dX00 cX01 dX01
    have B8 := below_step B7 b8
    have ap3_7 := OI.apart o3 o7
    have ap4_7 := OI.apart o4 o7
    have ap5_7 := OI.apart o5 o7
    have ap6_7 := OI.apart o6 o7
    have ap3_8 := OI.apart o3 o8
    have ap4_8 := OI.apart o4 o8
    have ap5_8 := OI.apart o5 o8
    have ap6_8 := OI.apart o6 o8
    replace o3 := o3.below b8
    replace o4 := o4.below b8
    replace o5 := o5.below b8
    replace o6 := o6.below b8
    replace KA0 := KA0.belowAll b8
    replace KW := KW.belowAll b8
    replace KX0 := KX0.belowAll b8
    have cA00 : w8.cell? ⟨w.heap.size, 0, none⟩ = some (.slice A0 n0 c0) := KA0.cell 0
    have dA00 : ∀ o, (w8.alloc o).cell? ⟨w.heap.size, 0, none⟩ = some (.slice A0 n0 c0) := fun o => (KA0.alloc o).cell 0
    have cA01 : w8.cell? ⟨w.heap.size, 1, none⟩ = some (.slice Z0 m0 d0) := KA0.cell 1
    have dA01 : ∀ o, (w8.alloc o).cell? ⟨w.heap.size, 1, none⟩ = some (.slice Z0 m0 d0) := fun o => (KA0.alloc o).cell 1
    have cW0 : w8.cell? ⟨w4.heap.size, 0, none⟩ = some (.slice A'3 p3 e3) := KW.cell 0
    have dW0 : ∀ o, (w8.alloc o).cell? ⟨w4.heap.size, 0, none⟩ = some (.slice A'3 p3 e3) := fun o => (KW.alloc o).cell 0
    have cW1 : w8.cell? ⟨w4.heap.size, 1, none⟩ = some (.slice A'4 p4 e4) := KW.cell 1
    have dW1 : ∀ o, (w8.alloc o).cell? ⟨w4.heap.size, 1, none⟩ = some (.slice A'4 p4 e4) := fun o => (KW.alloc o).cell 1
    have cX00 : w8.cell? ⟨w6.heap.size, 0, none⟩ = some (.slice A'5 p5 e5) := KX0.cell 0
    have dX00 : ∀ o, (w8.alloc o).cell? ⟨w6.heap.size, 0, none⟩ = some (.slice A'5 p5 e5) := fun o => (KX0.alloc o).cell 0
    have cX01 : w8.cell? ⟨w6.heap.size, 1, none⟩ = some (.slice A'6 p6 e6) := KX0.cell 1
    have dX01 : ∀ o, (w8.alloc o).cell? ⟨w6.heap.size, 1, none⟩ = some (.slice A'6 p6 e6) := fun o => (KX0.alloc o).cell 1
    go_wp2_with fail
    have b9 : Below w8.heap.size w8 (w8.alloc (.cells #[(.slice A'7 p7 e7), (.slice A'8 p8 e8)] 27)) := (Below.refl _ _).alloc (Nat.le_refl _) _
    have KG := Blk.new w8 27 #[(.slice A'7 p7 e7), (.slice A'8 p8 e8)]
    have B9 := below_step B8 b9
    replace o3 := o3.below b9
    replace o4 := o4.below b9
    replace o5 := o5.below b9
    replace o6 := o6.below b9
    replace o7 := o7.below b9
    replace o8 := o8.below b9
    replace KA0 := KA0.belowAll b9
    replace KW := KW.belowAll b9
    replace KX0 := KX0.belowAll b9
    generalize w8.alloc (.cells #[(.slice A'7 p7 e7), (.slice A'8 p8 e8)] 27) = w9 at *
    clear cA00 dA00 cA01 dA01 cW0 dW0 cW1 dW1 cX00 dX00 cX01 dX01
    have cA00 : w9.cell? ⟨w.heap.size, 0, none⟩ = some (.slice A0 n0 c0) := KA0.cell 0
    have dA00 : ∀ o, (w9.alloc o).cell? ⟨w.heap.size, 0, none⟩ = some (.slice A0 n0 c0) := fun o => (KA0.alloc o).cell 0
    have cA01 : w9.cell? ⟨w.heap.size, 1, none⟩ = some (.slice Z0 m0 d0) := KA0.cell 1
    have dA01 : ∀ o, (w9.alloc o).cell? ⟨w.heap.size, 1, none⟩ = some (.slice Z0 m0 d0) := fun o => (KA0.alloc o).cell 1
    have cW0 : w9.cell? ⟨w4.heap.size, 0, none⟩ = some (.slice A'3 p3 e3) := KW.cell 0
    have dW0 : ∀ o, (w9.alloc o).cell? ⟨w4.heap.size, 0, none⟩ = some (.slice A'3 p3 e3) := fun o => (KW.alloc o).cell 0
    have cW1 : w9.cell? ⟨w4.heap.size, 1, none⟩ = some (.slice A'4 p4 e4) := KW.cell 1
    have dW1 : ∀ o, (w9.alloc o).cell? ⟨w4.heap.size, 1, none⟩ = some (.slice A'4 p4 e4) := fun o => (KW.alloc o).cell 1
    have cX00 : w9.cell? ⟨w6.heap.size, 0, none⟩ = some (.slice A'5 p5 e5) := KX0.cell 0
    have dX00 : ∀ o, (w9.alloc o).cell? ⟨w6.heap.size, 0, none⟩ = some (.slice A'5 p5 e5) := fun o => (KX0.alloc o).cell 0
    have cX01 : w9.cell? ⟨w6.heap.size, 1, none⟩ = some (.slice A'6 p6 e6) := KX0.cell 1
    have dX01 : ∀ o, (w9.alloc o).cell? ⟨w6.heap.size, 1, none⟩ = some (.slice A'6 p6 e6) := fun o => (KX0.alloc o).cell 1
    have cG0 : w9.cell? ⟨w8.heap.size, 0, none⟩ = some (.slice A'7 p7 e7) := KG.cell 0
    have dG0 : ∀ o, (w9.alloc o).cell? ⟨w8.heap.size, 0, none⟩ = some (.slice A'7 p7 e7) := fun o => (KG.alloc o).cell 0
    have cG1 : w9.cell? ⟨w8.heap.size, 1, none⟩ = some (.slice A'8 p8 e8) := KG.cell 1
    have dG1 : ∀ o, (w9.alloc o).cell? ⟨w8.heap.size, 1, none⟩ = some (.slice A'8 p8 e8) := fun o => (KG.alloc o).cell 1
    refine (eqShared_c o7.si o8.si o3.si o4.si).mono ?_
    rintro e w10 ⟨rfl, b10⟩
    clear cA00 dA00 cA01 dA01 cW0 dW0 cW1 dW1 cX00 dX00 cX01 dX01 cG0 dG0 cG1 dG1
    have B10 := below_step B9 b10
    replace o3 := o3.below b10
    replace o4 := o4.below b10
    replace o5 := o5.below b10
    replace o6 := o6.below b10
    replace o7 := o7.below b10
    replace o8 := o8.below b10
    replace KA0 := KA0.belowAll b10
    replace KW := KW.belowAll b10
    replace KX0 := KX0.belowAll b10
    replace KG := KG.belowAll b10
    have cA00 : w10.cell? ⟨w.heap.size, 0, none⟩ = some (.slice A0 n0 c0) := KA0.cell 0
    have dA00 : ∀ o, (w10.alloc o).cell? ⟨w.heap.size, 0, none⟩ = some (.slice A0 n0 c0) := fun o => (KA0.alloc o).cell 0
    have cA01 : w10.cell? ⟨w.heap.size, 1, none⟩ = some (.slice Z0 m0 d0) := KA0.cell 1
    have dA01 : ∀ o, (w10.alloc o).cell? ⟨w.heap.size, 1, none⟩ = some (.slice Z0 m0 d0) := fun o => (KA0.alloc o).cell 1
    have cW0 : w10.cell? ⟨w4.heap.size, 0, none⟩ = some (.slice A'3 p3 e3) := KW.cell 0
    have dW0 : ∀ o, (w10.alloc o).cell? ⟨w4.heap.size, 0, none⟩ = some (.slice A'3 p3 e3) := fun o => (KW.alloc o).cell 0
    have cW1 : w10.cell? ⟨w4.heap.size, 1, none⟩ = some (.slice A'4 p4 e4) := KW.cell 1
    have dW1 : ∀ o, (w10.alloc o).cell? ⟨w4.heap.size, 1, none⟩ = some (.slice A'4 p4 e4) := fun o => (KW.alloc o).cell 1
    have cX00 : w10.cell? ⟨w6.heap.size, 0, none⟩ = some (.slice A'5 p5 e5) := KX0.cell 0
    have dX00 : ∀ o, (w10.alloc o).cell? ⟨w6.heap.size, 0, none⟩ = some (.slice A'5 p5 e5) := fun o => (KX0.alloc o).cell 0
    have cX01 : w10.cell? ⟨w6.heap.size, 1, none⟩ = some (.slice A'6 p6 e6) := KX0.cell 1
    have dX01 : ∀ o, (w10.alloc o).cell? ⟨w6.heap.size, 1, none⟩ = some (.slice A'6 p6 e6) := fun o => (KX0.alloc o).cell 1
    have cG0 : w10.cell? ⟨w8.heap.size, 0, none⟩ = some (.slice A'7 p7 e7) := KG.cell 0
    have dG0 : ∀ o, (w10.alloc o).cell? ⟨w8.heap.size, 0, none⟩ = some (.slice A'7 p7 e7) := fun o => (KG.alloc o).cell 0
    have cG1 : w10.cell? ⟨w8.heap.size, 1, none⟩ = some (.slice A'8 p8 e8) := KG.cell 1
    have dG1 : ∀ o, (w10.alloc o).cell? ⟨w8.heap.size, 1, none⟩ = some (.slice A'8 p8 e8) := fun o => (KG.alloc o).cell 1
    go_wp2_with fail
    have lx := KX0.lt; have la := KA0.lt
    go_region_held3 (fun W => W.cell? ⟨w6.heap.size, 0, none⟩ = some (.slice A'5 p5 e5) ∧ W.cell? ⟨w6.heap.size, 1, none⟩ = some (.slice A'6 p6 e6) ∧ W.cell? ⟨w.heap.size, 0, none⟩ = some (.slice A0 n0 c0) ∧ W.cell? ⟨w.heap.size, 1, none⟩ = some (.slice Z0 m0 d0))
      (first | (go_keep; done) | (go_split_ands; refine ⟨?_, ?_, ?_, ?_⟩ <;> (rw [b12.cell (by have := b11.size; simp at this ⊢; omega)]; assumption)) | (go_split_ands; refine ⟨?_, ?_, ?_, ?_⟩ <;> (rw [b11.cell (by simp <;> omega)]; assumption)))
      (first | (go_at_call 14; refine (toShared_c (SI.of_args hnc0 hn0 (R0.below B10)).drew (SI.of_args gnc0 hm0 (T0.below B10)).drew).mono ?_; rintro e w11 ⟨A'9, p9, e9, A'10, p10, e10, rfl, o9, o10, ap9_10, b11⟩) | (go_at_call 17; refine (eqShared_c (o5.drew.below b11).si (o6.drew.below b11).si o9.si o10.si).mono ?_; rintro e w12 ⟨rfl, b12⟩))
    replace b11 := below_of_drew b11
    clear o9 o10 lx la ap9_10
    clear cA00 dA00 cA01 dA01 cW0 dW0 cW1 dW1 cX00 dX00 cX01 dX01 cG0 dG0 cG1 dG1
    have B11 := below_step B10 b11
    replace o3 := o3.below b11
    replace o4 := o4.below b11
    replace o5 := o5.below b11
    replace o6 := o6.below b11
    replace o7 := o7.below b11
    replace o8 := o8.below b11
    replace KA0 := KA0.belowAll b11
    replace KW := KW.belowAll b11
    replace KX0 := KX0.belowAll b11
    replace KG := KG.belowAll b11
    have B12 := below_step B11 b12
    replace o3 := o3.below b12
    replace o4 := o4.below b12
    replace o5 := o5.below b12
    replace o6 := o6.below b12
    replace o7 := o7.below b12
    replace o8 := o8.below b12
    replace KA0 := KA0.belowAll b12
    replace KW := KW.belowAll b12
    replace KX0 := KX0.belowAll b12
    replace KG := KG.belowAll b12
    have cA00 : w12.cell? ⟨w.heap.size, 0, none⟩ = some (.slice A0 n0 c0) := KA0.cell 0
    have dA00 : ∀ o, (w12.alloc o).cell? ⟨w.heap.size, 0, none⟩ = some (.slice A0 n0 c0) := fun o => (KA0.alloc o).cell 0
    have cA01 : w12.cell? ⟨w.heap.size, 1, none⟩ = some (.slice Z0 m0 d0) := KA0.cell 1
    have dA01 : ∀ o, (w12.alloc o).cell? ⟨w.heap.size, 1, none⟩ = some (.slice Z0 m0 d0) := fun o => (KA0.alloc o).cell 1
    have cW0 : w12.cell? ⟨w4.heap.size, 0, none⟩ = some (.slice A'3 p3 e3) := KW.cell 0
    have dW0 : ∀ o, (w12.alloc o).cell? ⟨w4.heap.size, 0, none⟩ = some (.slice A'3 p3 e3) := fun o => (KW.alloc o).cell 0
    have cW1 : w12.cell? ⟨w4.heap.size, 1, none⟩ = some (.slice A'4 p4 e4) := KW.cell 1
    have dW1 : ∀ o, (w12.alloc o).cell? ⟨w4.heap.size, 1, none⟩ = some (.slice A'4 p4 e4) := fun o => (KW.alloc o).cell 1
    have cX00 : w12.cell? ⟨w6.heap.size, 0, none⟩ = some (.slice A'5 p5 e5) := KX0.cell 0
    have dX00 : ∀ o, (w12.alloc o).cell? ⟨w6.heap.size, 0, none⟩ = some (.slice A'5 p5 e5) := fun o => (KX0.alloc o).cell 0
    have cX01 : w12.cell? ⟨w6.heap.size, 1, none⟩ = some (.slice A'6 p6 e6) := KX0.cell 1
    have dX01 : ∀ o, (w12.alloc o).cell? ⟨w6.heap.size, 1, none⟩ = some (.slice A'6 p6 e6) := fun o => (KX0.alloc o).cell 1
    have cG0 : w12.cell? ⟨w8.heap.size, 0, none⟩ = some (.slice A'7 p7 e7) := KG.cell 0
    have dG0 : ∀ o, (w12.alloc o).cell? ⟨w8.heap.size, 0, none⟩ = some (.slice A'7 p7 e7) := fun o => (KG.alloc o).cell 0
    have cG1 : w12.cell? ⟨w8.heap.size, 1, none⟩ = some (.slice A'8 p8 e8) := KG.cell 1
    have dG1 : ∀ o, (w12.alloc o).cell? ⟨w8.heap.size, 1, none⟩ = some (.slice A'8 p8 e8) := fun o => (KG.alloc o).cell 1
    have hb5 := o5.2
    have hb6 := o6.2
    go_wp2_with fail
    have oo := o5; have oo2 := o6
    refine (markShared_c o5 o6 ap5_6 (by omega) (by omega)).mono ?_
    rintro e w13 ⟨rfl, o', o2', g13⟩
    clear cA00 dA00 cA01 dA01 cW0 dW0 cW1 dW1 cX00 dX00 cX01 dX01 cG0 dG0 cG1 dG1
    clear o5 o6; have o5 := o'; have o6 := o2'; clear o' o2'
    have B13 := below_chg2 B12 g13 oo oo2 bl5 bl6
    replace o3 := o3.chg2 g13 ap3_5 ap3_6
    replace o4 := o4.chg2 g13 ap4_5 ap4_6
    replace o7 := o7.chg2 g13 ap5_7.symm ap6_7.symm
    replace o8 := o8.chg2 g13 ap5_8.symm ap6_8.symm
    replace KA0 := KA0.chg2 g13 oo oo2 (by decide)
    replace KW := KW.chg2 g13 oo oo2 (by decide)
    replace KX0 := KX0.chg2 g13 oo oo2 (by decide)
    replace KG := KG.chg2 g13 oo oo2 (by decide)
    clear oo oo2
    have cA00 : w13.cell? ⟨w.heap.size, 0, none⟩ = some (.slice A0 n0 c0) := KA0.cell 0
    have dA00 : ∀ o, (w13.alloc o).cell? ⟨w.heap.size, 0, none⟩ = some (.slice A0 n0 c0) := fun o => (KA0.alloc o).cell 0
    have cA01 : w13.cell? ⟨w.heap.size, 1, none⟩ = some (.slice Z0 m0 d0) := KA0.cell 1
    have dA01 : ∀ o, (w13.alloc o).cell? ⟨w.heap.size, 1, none⟩ = some (.slice Z0 m0 d0) := fun o => (KA0.alloc o).cell 1
    have cW0 : w13.cell? ⟨w4.heap.size, 0, none⟩ = some (.slice A'3 p3 e3) := KW.cell 0
    have dW0 : ∀ o, (w13.alloc o).cell? ⟨w4.heap.size, 0, none⟩ = some (.slice A'3 p3 e3) := fun o => (KW.alloc o).cell 0
    have cW1 : w13.cell? ⟨w4.heap.size, 1, none⟩ = some (.slice A'4 p4 e4) := KW.cell 1
    have dW1 : ∀ o, (w13.alloc o).cell? ⟨w4.heap.size, 1, none⟩ = some (.slice A'4 p4 e4) := fun o => (KW.alloc o).cell 1
    have cX00 : w13.cell? ⟨w6.heap.size, 0, none⟩ = some (.slice A'5 p5 e5) := KX0.cell 0
    have dX00 : ∀ o, (w13.alloc o).cell? ⟨w6.heap.size, 0, none⟩ = some (.slice A'5 p5 e5) := fun o => (KX0.alloc o).cell 0
    have cX01 : w13.cell? ⟨w6.heap.size, 1, none⟩ = some (.slice A'6 p6 e6) := KX0.cell 1
    have dX01 : ∀ o, (w13.alloc o).cell? ⟨w6.heap.size, 1, none⟩ = some (.slice A'6 p6 e6) := fun o => (KX0.alloc o).cell 1
    have cG0 : w13.cell? ⟨w8.heap.size, 0, none⟩ = some (.slice A'7 p7 e7) := KG.cell 0
    have dG0 : ∀ o, (w13.alloc o).cell? ⟨w8.heap.size, 0, none⟩ = some (.slice A'7 p7 e7) := fun o => (KG.alloc o).cell 0
    have cG1 : w13.cell? ⟨w8.heap.size, 1, none⟩ = some (.slice A'8 p8 e8) := KG.cell 1
    have dG1 : ∀ o, (w13.alloc o).cell? ⟨w8.heap.size, 1, none⟩ = some (.slice A'8 p8 e8) := fun o => (KG.alloc o).cell 1
    go_wp2_with fail
    refine (eqShared_c o7.si o8.si o3.si o4.si).mono ?_
    rintro e w14 ⟨rfl, b14⟩
    clear cA00 dA00 cA01 dA01 cW0 dW0 cW1 dW1 cX00 dX00 cX01 dX01 cG0 dG0 cG1 dG1
    have B14 := below_step B13 b14
    replace o3 := o3.below b14
    replace o4 := o4.below b14
    replace o5 := o5.below b14
    replace o6 := o6.below b14
    replace o7 := o7.below b14
    replace o8 := o8.below b14
    replace KA0 := KA0.belowAll b14
    replace KW := KW.belowAll b14
    replace KX0 := KX0.belowAll b14
    replace KG := KG.belowAll b14
    have cA00 : w14.cell? ⟨w.heap.size, 0, none⟩ = some (.slice A0 n0 c0) := KA0.cell 0
    have dA00 : ∀ o, (w14.alloc o).cell? ⟨w.heap.size, 0, none⟩ = some (.slice A0 n0 c0) := fun o => (KA0.alloc o).cell 0
    have cA01 : w14.cell? ⟨w.heap.size, 1, none⟩ = some (.slice Z0 m0 d0) := KA0.cell 1
    have dA01 : ∀ o, (w14.alloc o).cell? ⟨w.heap.size, 1, none⟩ = some (.slice Z0 m0 d0) := fun o => (KA0.alloc o).cell 1
    have cW0 : w14.cell? ⟨w4.heap.size, 0, none⟩ = some (.slice A'3 p3 e3) := KW.cell 0
    have dW0 : ∀ o, (w14.alloc o).cell? ⟨w4.heap.size, 0, none⟩ = some (.slice A'3 p3 e3) := fun o => (KW.alloc o).cell 0
    have cW1 : w14.cell? ⟨w4.heap.size, 1, none⟩ = some (.slice A'4 p4 e4) := KW.cell 1
    have dW1 : ∀ o, (w14.alloc o).cell? ⟨w4.heap.size, 1, none⟩ = some (.slice A'4 p4 e4) := fun o => (KW.alloc o).cell 1
    have cX00 : w14.cell? ⟨w6.heap.size, 0, none⟩ = some (.slice A'5 p5 e5) := KX0.cell 0
    have dX00 : ∀ o, (w14.alloc o).cell? ⟨w6.heap.size, 0, none⟩ = some (.slice A'5 p5 e5) := fun o => (KX0.alloc o).cell 0
    have cX01 : w14.cell? ⟨w6.heap.size, 1, none⟩ = some (.slice A'6 p6 e6) := KX0.cell 1
    have dX01 : ∀ o, (w14.alloc o).cell? ⟨w6.heap.size, 1, none⟩ = some (.slice A'6 p6 e6) := fun o => (KX0.alloc o).cell 1
    have cG0 : w14.cell? ⟨w8.heap.size, 0, none⟩ = some (.slice A'7 p7 e7) := KG.cell 0
    have dG0 : ∀ o, (w14.alloc o).cell? ⟨w8.heap.size, 0, none⟩ = some (.slice A'7 p7 e7) := fun o => (KG.alloc o).cell 0
    have cG1 : w14.cell? ⟨w8.heap.size, 1, none⟩ = some (.slice A'8 p8 e8) := KG.cell 1
    have dG1 : ∀ o, (w14.alloc o).cell? ⟨w8.heap.size, 1, none⟩ = some (.slice A'8 p8 e8) := fun o => (KG.alloc o).cell 1
    clear o5
    clear o6
    have hb7 := o7.2
    have hb8 := o8.2
    go_wp2_with fail
    have oo := o7; have oo2 := o8
    refine (markShared_c o7 o8 ap7_8 (by omega) (by omega)).mono ?_
    rintro e w15 ⟨rfl, o', o2', g15⟩
    clear cA00 dA00 cA01 dA01 cW0 dW0 cW1 dW1 cX00 dX00 cX01 dX01 cG0 dG0 cG1 dG1
    clear o7 o8; have o7 := o'; have o8 := o2'; clear o' o2'
    have B15 := below_chg2 B14 g15 oo oo2 bl7 bl8
    replace o3 := o3.chg2 g15 ap3_7 ap3_8
    replace o4 := o4.chg2 g15 ap4_7 ap4_8
    replace KA0 := KA0.chg2 g15 oo oo2 (by decide)
    replace KW := KW.chg2 g15 oo oo2 (by decide)
    replace KX0 := KX0.chg2 g15 oo oo2 (by decide)
    replace KG := KG.chg2 g15 oo oo2 (by decide)
    clear oo oo2
    have cA00 : w15.cell? ⟨w.heap.size, 0, none⟩ = some (.slice A0 n0 c0) := KA0.cell 0
    have dA00 : ∀ o, (w15.alloc o).cell? ⟨w.heap.size, 0, none⟩ = some (.slice A0 n0 c0) := fun o => (KA0.alloc o).cell 0
    have cA01 : w15.cell? ⟨w.heap.size, 1, none⟩ = some (.slice Z0 m0 d0) := KA0.cell 1
    have dA01 : ∀ o, (w15.alloc o).cell? ⟨w.heap.size, 1, none⟩ = some (.slice Z0 m0 d0) := fun o => (KA0.alloc o).cell 1
    have cW0 : w15.cell? ⟨w4.heap.size, 0, none⟩ = some (.slice A'3 p3 e3) := KW.cell 0
    have dW0 : ∀ o, (w15.alloc o).cell? ⟨w4.heap.size, 0, none⟩ = some (.slice A'3 p3 e3) := fun o => (KW.alloc o).cell 0
    have cW1 : w15.cell? ⟨w4.heap.size, 1, none⟩ = some (.slice A'4 p4 e4) := KW.cell 1
    have dW1 : ∀ o, (w15.alloc o).cell? ⟨w4.heap.size, 1, none⟩ = some (.slice A'4 p4 e4) := fun o => (KW.alloc o).cell 1
    have cX00 : w15.cell? ⟨w6.heap.size, 0, none⟩ = some (.slice A'5 p5 e5) := KX0.cell 0
    have dX00 : ∀ o, (w15.alloc o).cell? ⟨w6.heap.size, 0, none⟩ = some (.slice A'5 p5 e5) := fun o => (KX0.alloc o).cell 0
    have cX01 : w15.cell? ⟨w6.heap.size, 1, none⟩ = some (.slice A'6 p6 e6) := KX0.cell 1
    have dX01 : ∀ o, (w15.alloc o).cell? ⟨w6.heap.size, 1, none⟩ = some (.slice A'6 p6 e6) := fun o => (KX0.alloc o).cell 1
    have cG0 : w15.cell? ⟨w8.heap.size, 0, none⟩ = some (.slice A'7 p7 e7) := KG.cell 0
    have dG0 : ∀ o, (w15.alloc o).cell? ⟨w8.heap.size, 0, none⟩ = some (.slice A'7 p7 e7) := fun o => (KG.alloc o).cell 0
    have cG1 : w15.cell? ⟨w8.heap.size, 1, none⟩ = some (.slice A'8 p8 e8) := KG.cell 1
    have dG1 : ∀ o, (w15.alloc o).cell? ⟨w8.heap.size, 1, none⟩ = some (.slice A'8 p8 e8) := fun o => (KG.alloc o).cell 1
    go_wp2_with fail
    refine (heldShared_c o7.si o8.si (by omega) (by omega)).mono ?_
    rintro e w16 ⟨rfl, b16⟩
    clear cA00 dA00 cA01 dA01 cW0 dW0 cW1 dW1 cX00 dX00 cX01 dX01 cG0 dG0 cG1 dG1
    have B16 := below_step B15 b16
    replace o3 := o3.below b16
    replace o4 := o4.below b16
    replace o7 := o7.below b16
    replace o8 := o8.below b16
    replace KA0 := KA0.belowAll b16
    replace KW := KW.belowAll b16
    replace KX0 := KX0.belowAll b16
    replace KG := KG.belowAll b16
    have cA00 : w16.cell? ⟨w.heap.size, 0, none⟩ = some (.slice A0 n0 c0) := KA0.cell 0
    have dA00 : ∀ o, (w16.alloc o).cell? ⟨w.heap.size, 0, none⟩ = some (.slice A0 n0 c0) := fun o => (KA0.alloc o).cell 0
    have cA01 : w16.cell? ⟨w.heap.size, 1, none⟩ = some (.slice Z0 m0 d0) := KA0.cell 1
    have dA01 : ∀ o, (w16.alloc o).cell? ⟨w.heap.size, 1, none⟩ = some (.slice Z0 m0 d0) := fun o => (KA0.alloc o).cell 1
    have cW0 : w16.cell? ⟨w4.heap.size, 0, none⟩ = some (.slice A'3 p3 e3) := KW.cell 0
    have dW0 : ∀ o, (w16.alloc o).cell? ⟨w4.heap.size, 0, none⟩ = some (.slice A'3 p3 e3) := fun o => (KW.alloc o).cell 0
    have cW1 : w16.cell? ⟨w4.heap.size, 1, none⟩ = some (.slice A'4 p4 e4) := KW.cell 1
    have dW1 : ∀ o, (w16.alloc o).cell? ⟨w4.heap.size, 1, none⟩ = some (.slice A'4 p4 e4) := fun o => (KW.alloc o).cell 1
    have cX00 : w16.cell? ⟨w6.heap.size, 0, none⟩ = some (.slice A'5 p5 e5) := KX0.cell 0
    have dX00 : ∀ o, (w16.alloc o).cell? ⟨w6.heap.size, 0, none⟩ = some (.slice A'5 p5 e5) := fun o => (KX0.alloc o).cell 0
    have cX01 : w16.cell? ⟨w6.heap.size, 1, none⟩ = some (.slice A'6 p6 e6) := KX0.cell 1
    have dX01 : ∀ o, (w16.alloc o).cell? ⟨w6.heap.size, 1, none⟩ = some (.slice A'6 p6 e6) := fun o => (KX0.alloc o).cell 1
    have cG0 : w16.cell? ⟨w8.heap.size, 0, none⟩ = some (.slice A'7 p7 e7) := KG.cell 0
    have dG0 : ∀ o, (w16.alloc o).cell? ⟨w8.heap.size, 0, none⟩ = some (.slice A'7 p7 e7) := fun o => (KG.alloc o).cell 0
    have cG1 : w16.cell? ⟨w8.heap.size, 1, none⟩ = some (.slice A'8 p8 e8) := KG.cell 1
    have dG1 : ∀ o, (w16.alloc o).cell? ⟨w8.heap.size, 1, none⟩ = some (.slice A'8 p8 e8) := fun o => (KG.alloc o).cell 1
    go_wp2_with fail
    refine (toShared_c (SI.of_args hnc0 hn0 (R0.below B16)) (SI.of_args gnc0 hm0 (T0.below B16))).mono ?_
    rintro e w17 ⟨A'11, p11, e11, A'12, p12, e12, rfl, o11, o12, ap11_12, b17⟩
    have bl11 : w.heap.size ≤ w16.heap.size := B16.size
    have bl12 : w.heap.size ≤ w16.heap.size := B16.size
    clear cA00 dA00 cA01 dA01 cW0 dW0 cW1 dW1 cX00 dX00 cX01 dX01 cG0 dG0 cG1 dG1
    have B17 := below_step B16 b17
    have ap3_11 := OI.apart o3 o11
    have ap4_11 := OI.apart o4 o11
    have ap7_11 := OI.apart o7 o11
    have ap8_11 := OI.apart o8 o11
    have ap3_12 := OI.apart o3 o12
    have ap4_12 := OI.apart o4 o12
    have ap7_12 := OI.apart o7 o12
    have ap8_12 := OI.apart o8 o12
    replace o3 := o3.below b17
    replace o4 := o4.below b17
    replace o7 := o7.below b17
    replace o8 := o8.below b17
    replace KA0 := KA0.belowAll b17
    replace KW := KW.belowAll b17
    replace KX0 := KX0.belowAll b17
    replace KG := KG.belowAll b17
    have cA00 : w17.cell? ⟨w.heap.size, 0, none⟩ = some (.slice A0 n0 c0) := KA0.cell 0
    have dA00 : ∀ o, (w17.alloc o).cell? ⟨w.heap.size, 0, none⟩ = some (.slice A0 n0 c0) := fun o => (KA0.alloc o).cell 0
    have cA01 : w17.cell? ⟨w.heap.size, 1, none⟩ = some (.slice Z0 m0 d0) := KA0.cell 1
    have dA01 : ∀ o, (w17.alloc o).cell? ⟨w.heap.size, 1, none⟩ = some (.slice Z0 m0 d0) := fun o => (KA0.alloc o).cell 1
    have cW0 : w17.cell? ⟨w4.heap.size, 0, none⟩ = some (.slice A'3 p3 e3) := KW.cell 0
    have dW0 : ∀ o, (w17.alloc o).cell? ⟨w4.heap.size, 0, none⟩ = some (.slice A'3 p3 e3) := fun o => (KW.alloc o).cell 0
    have cW1 : w17.cell? ⟨w4.heap.size, 1, none⟩ = some (.slice A'4 p4 e4) := KW.cell 1
    have dW1 : ∀ o, (w17.alloc o).cell? ⟨w4.heap.size, 1, none⟩ = some (.slice A'4 p4 e4) := fun o => (KW.alloc o).cell 1
    have cX00 : w17.cell? ⟨w6.heap.size, 0, none⟩ = some (.slice A'5 p5 e5) := KX0.cell 0
    have dX00 : ∀ o, (w17.alloc o).cell? ⟨w6.heap.size, 0, none⟩ = some (.slice A'5 p5 e5) := fun o => (KX0.alloc o).cell 0
    have cX01 : w17.cell? ⟨w6.heap.size, 1, none⟩ = some (.slice A'6 p6 e6) := KX0.cell 1
    have dX01 : ∀ o, (w17.alloc o).cell? ⟨w6.heap.size, 1, none⟩ = some (.slice A'6 p6 e6) := fun o => (KX0.alloc o).cell 1
    have cG0 : w17.cell? ⟨w8.heap.size, 0, none⟩ = some (.slice A'7 p7 e7) := KG.cell 0
    have dG0 : ∀ o, (w17.alloc o).cell? ⟨w8.heap.size, 0, none⟩ = some (.slice A'7 p7 e7) := fun o => (KG.alloc o).cell 0
    have cG1 : w17.cell? ⟨w8.heap.size, 1, none⟩ = some (.slice A'8 p8 e8) := KG.cell 1
    have dG1 : ∀ o, (w17.alloc o).cell? ⟨w8.heap.size, 1, none⟩ = some (.slice A'8 p8 e8) := fun o => (KG.alloc o).cell 1
    go_wp2_with fail
    refine (impl_TakeShared_c (x := x1) o11.si o12.si (hT.below B17)).mono ?_
    rintro e w18 ⟨A'13, p13, e13, A'14, p14, e14, rfl, o13, o14, ap13_14, b18⟩
    have bl13 : w.heap.size ≤ w17.heap.size := B17.size
    have bl14 : w.heap.size ≤ w17.heap.size := B17.size
    clear cA00 dA00 cA01 dA01 cW0 dW0 cW1 dW1 cX00 dX00 cX01 dX01 cG0 dG0 cG1 dG1
    have B18 := below_step B17 b18
    have ap3_13 := OI.apart o3 o13
    have ap4_13 := OI.apart o4 o13
    have ap7_13 := OI.apart o7 o13
    have ap8_13 := OI.apart o8 o13
    have ap11_13 := OI.apart o11 o13
    have ap12_13 := OI.apart o12 o13
    have ap3_14 := OI.apart o3 o14
    have ap4_14 := OI.apart o4 o14
    have ap7_14 := OI.apart o7 o14
    have ap8_14 := OI.apart o8 o14
    have ap11_14 := OI.apart o11 o14
    have ap12_14 := OI.apart o12 o14
    replace o3 := o3.below b18
    replace o4 := o4.below b18
    replace o7 := o7.below b18
    replace o8 := o8.below b18
    replace o11 := o11.below b18
    replace o12 := o12.below b18
    replace KA0 := KA0.belowAll b18
    replace KW := KW.belowAll b18
    replace KX0 := KX0.belowAll b18
    replace KG := KG.belowAll b18
    have cA00 : w18.cell? ⟨w.heap.size, 0, none⟩ = some (.slice A0 n0 c0) := KA0.cell 0
    have dA00 : ∀ o, (w18.alloc o).cell? ⟨w.heap.size, 0, none⟩ = some (.slice A0 n0 c0) := fun o => (KA0.alloc o).cell 0
    have cA01 : w18.cell? ⟨w.heap.size, 1, none⟩ = some (.slice Z0 m0 d0) := KA0.cell 1
    have dA01 : ∀ o, (w18.alloc o).cell? ⟨w.heap.size, 1, none⟩ = some (.slice Z0 m0 d0) := fun o => (KA0.alloc o).cell 1
    have cW0 : w18.cell? ⟨w4.heap.size, 0, none⟩ = some (.slice A'3 p3 e3) := KW.cell 0
    have dW0 : ∀ o, (w18.alloc o).cell? ⟨w4.heap.size, 0, none⟩ = some (.slice A'3 p3 e3) := fun o => (KW.alloc o).cell 0
    have cW1 : w18.cell? ⟨w4.heap.size, 1, none⟩ = some (.slice A'4 p4 e4) := KW.cell 1
    have dW1 : ∀ o, (w18.alloc o).cell? ⟨w4.heap.size, 1, none⟩ = some (.slice A'4 p4 e4) := fun o => (KW.alloc o).cell 1
    have cX00 : w18.cell? ⟨w6.heap.size, 0, none⟩ = some (.slice A'5 p5 e5) := KX0.cell 0
    have dX00 : ∀ o, (w18.alloc o).cell? ⟨w6.heap.size, 0, none⟩ = some (.slice A'5 p5 e5) := fun o => (KX0.alloc o).cell 0
    have cX01 : w18.cell? ⟨w6.heap.size, 1, none⟩ = some (.slice A'6 p6 e6) := KX0.cell 1
    have dX01 : ∀ o, (w18.alloc o).cell? ⟨w6.heap.size, 1, none⟩ = some (.slice A'6 p6 e6) := fun o => (KX0.alloc o).cell 1
    have cG0 : w18.cell? ⟨w8.heap.size, 0, none⟩ = some (.slice A'7 p7 e7) := KG.cell 0
    have dG0 : ∀ o, (w18.alloc o).cell? ⟨w8.heap.size, 0, none⟩ = some (.slice A'7 p7 e7) := fun o => (KG.alloc o).cell 0
    have cG1 : w18.cell? ⟨w8.heap.size, 1, none⟩ = some (.slice A'8 p8 e8) := KG.cell 1
    have dG1 : ∀ o, (w18.alloc o).cell? ⟨w8.heap.size, 1, none⟩ = some (.slice A'8 p8 e8) := fun o => (KG.alloc o).cell 1
    clear o11
    clear o12
    go_wp2_with fail
    have b19 : Below w18.heap.size w18 (w18.alloc (.cells #[(.slice A'13 p13 e13), (.slice A'14 p14 e14)] 27)) := (Below.refl _ _).alloc (Nat.le_refl _) _
    have KH := Blk.new w18 27 #[(.slice A'13 p13 e13), (.slice A'14 p14 e14)]
    have B19 := below_step B18 b19
    replace o3 := o3.below b19
    replace o4 := o4.below b19
    replace o7 := o7.below b19
    replace o8 := o8.below b19
    replace o13 := o13.below b19
    replace o14 := o14.below b19
    replace KA0 := KA0.belowAll b19
    replace KW := KW.belowAll b19
    replace KX0 := KX0.belowAll b19
    replace KG := KG.belowAll b19
    generalize w18.alloc (.cells #[(.slice A'13 p13 e13), (.slice A'14 p14 e14)] 27) = w19 at *
    clear cA00 dA00 cA01 dA01 cW0 dW0 cW1 dW1 cX00 dX00 cX01 dX01 cG0 dG0 cG1 dG1
    have cA00 : w19.cell? ⟨w.heap.size, 0, none⟩ = some (.slice A0 n0 c0) := KA0.cell 0
    have dA00 : ∀ o, (w19.alloc o).cell? ⟨w.heap.size, 0, none⟩ = some (.slice A0 n0 c0) := fun o => (KA0.alloc o).cell 0
    have cA01 : w19.cell? ⟨w.heap.size, 1, none⟩ = some (.slice Z0 m0 d0) := KA0.cell 1
    have dA01 : ∀ o, (w19.alloc o).cell? ⟨w.heap.size, 1, none⟩ = some (.slice Z0 m0 d0) := fun o => (KA0.alloc o).cell 1
    have cW0 : w19.cell? ⟨w4.heap.size, 0, none⟩ = some (.slice A'3 p3 e3) := KW.cell 0
    have dW0 : ∀ o, (w19.alloc o).cell? ⟨w4.heap.size, 0, none⟩ = some (.slice A'3 p3 e3) := fun o => (KW.alloc o).cell 0
    have cW1 : w19.cell? ⟨w4.heap.size, 1, none⟩ = some (.slice A'4 p4 e4) := KW.cell 1
    have dW1 : ∀ o, (w19.alloc o).cell? ⟨w4.heap.size, 1, none⟩ = some (.slice A'4 p4 e4) := fun o => (KW.alloc o).cell 1
    have cX00 : w19.cell? ⟨w6.heap.size, 0, none⟩ = some (.slice A'5 p5 e5) := KX0.cell 0
    have dX00 : ∀ o, (w19.alloc o).cell? ⟨w6.heap.size, 0, none⟩ = some (.slice A'5 p5 e5) := fun o => (KX0.alloc o).cell 0
    have cX01 : w19.cell? ⟨w6.heap.size, 1, none⟩ = some (.slice A'6 p6 e6) := KX0.cell 1
    have dX01 : ∀ o, (w19.alloc o).cell? ⟨w6.heap.size, 1, none⟩ = some (.slice A'6 p6 e6) := fun o => (KX0.alloc o).cell 1
    have cG0 : w19.cell? ⟨w8.heap.size, 0, none⟩ = some (.slice A'7 p7 e7) := KG.cell 0
    have dG0 : ∀ o, (w19.alloc o).cell? ⟨w8.heap.size, 0, none⟩ = some (.slice A'7 p7 e7) := fun o => (KG.alloc o).cell 0
    have cG1 : w19.cell? ⟨w8.heap.size, 1, none⟩ = some (.slice A'8 p8 e8) := KG.cell 1
    have dG1 : ∀ o, (w19.alloc o).cell? ⟨w8.heap.size, 1, none⟩ = some (.slice A'8 p8 e8) := fun o => (KG.alloc o).cell 1
    have cH0 : w19.cell? ⟨w18.heap.size, 0, none⟩ = some (.slice A'13 p13 e13) := KH.cell 0
    have dH0 : ∀ o, (w19.alloc o).cell? ⟨w18.heap.size, 0, none⟩ = some (.slice A'13 p13 e13) := fun o => (KH.alloc o).cell 0
    have cH1 : w19.cell? ⟨w18.heap.size, 1, none⟩ = some (.slice A'14 p14 e14) := KH.cell 1
    have dH1 : ∀ o, (w19.alloc o).cell? ⟨w18.heap.size, 1, none⟩ = some (.slice A'14 p14 e14) := fun o => (KH.alloc o).cell 1
    refine (eqShared_c o13.si o14.si o3.si o4.si).mono ?_
    rintro e w20 ⟨rfl, b20⟩
    clear cA00 dA00 cA01 dA01 cW0 dW0 cW1 dW1 cX00 dX00 cX01 dX01 cG0 dG0 cG1 dG1 cH0 dH0 cH1 dH1
    have B20 := below_step B19 b20
    replace o3 := o3.below b20
    replace o4 := o4.below b20
    replace o7 := o7.below b20
    replace o8 := o8.below b20
    replace o13 := o13.below b20
    replace o14 := o14.below b20
    replace KA0 := KA0.belowAll b20
    replace KW := KW.belowAll b20
    replace KX0 := KX0.belowAll b20
    replace KG := KG.belowAll b20
    replace KH := KH.belowAll b20
    have cA00 : w20.cell? ⟨w.heap.size, 0, none⟩ = some (.slice A0 n0 c0) := KA0.cell 0
    have dA00 : ∀ o, (w20.alloc o).cell? ⟨w.heap.size, 0, none⟩ = some (.slice A0 n0 c0) := fun o => (KA0.alloc o).cell 0
    have cA01 : w20.cell? ⟨w.heap.size, 1, none⟩ = some (.slice Z0 m0 d0) := KA0.cell 1
    have dA01 : ∀ o, (w20.alloc o).cell? ⟨w.heap.size, 1, none⟩ = some (.slice Z0 m0 d0) := fun o => (KA0.alloc o).cell 1
    have cW0 : w20.cell? ⟨w4.heap.size, 0, none⟩ = some (.slice A'3 p3 e3) := KW.cell 0
    have dW0 : ∀ o, (w20.alloc o).cell? ⟨w4.heap.size, 0, none⟩ = some (.slice A'3 p3 e3) := fun o => (KW.alloc o).cell 0
    have cW1 : w20.cell? ⟨w4.heap.size, 1, none⟩ = some (.slice A'4 p4 e4) := KW.cell 1
    have dW1 : ∀ o, (w20.alloc o).cell? ⟨w4.heap.size, 1, none⟩ = some (.slice A'4 p4 e4) := fun o => (KW.alloc o).cell 1
    have cX00 : w20.cell? ⟨w6.heap.size, 0, none⟩ = some (.slice A'5 p5 e5) := KX0.cell 0
    have dX00 : ∀ o, (w20.alloc o).cell? ⟨w6.heap.size, 0, none⟩ = some (.slice A'5 p5 e5) := fun o => (KX0.alloc o).cell 0
    have cX01 : w20.cell? ⟨w6.heap.size, 1, none⟩ = some (.slice A'6 p6 e6) := KX0.cell 1
    have dX01 : ∀ o, (w20.alloc o).cell? ⟨w6.heap.size, 1, none⟩ = some (.slice A'6 p6 e6) := fun o => (KX0.alloc o).cell 1
    have cG0 : w20.cell? ⟨w8.heap.size, 0, none⟩ = some (.slice A'7 p7 e7) := KG.cell 0
    have dG0 : ∀ o, (w20.alloc o).cell? ⟨w8.heap.size, 0, none⟩ = some (.slice A'7 p7 e7) := fun o => (KG.alloc o).cell 0
    have cG1 : w20.cell? ⟨w8.heap.size, 1, none⟩ = some (.slice A'8 p8 e8) := KG.cell 1
    have dG1 : ∀ o, (w20.alloc o).cell? ⟨w8.heap.size, 1, none⟩ = some (.slice A'8 p8 e8) := fun o => (KG.alloc o).cell 1
    have cH0 : w20.cell? ⟨w18.heap.size, 0, none⟩ = some (.slice A'13 p13 e13) := KH.cell 0
    have dH0 : ∀ o, (w20.alloc o).cell? ⟨w18.heap.size, 0, none⟩ = some (.slice A'13 p13 e13) := fun o => (KH.alloc o).cell 0
    have cH1 : w20.cell? ⟨w18.heap.size, 1, none⟩ = some (.slice A'14 p14 e14) := KH.cell 1
    have dH1 : ∀ o, (w20.alloc o).cell? ⟨w18.heap.size, 1, none⟩ = some (.slice A'14 p14 e14) := fun o => (KH.alloc o).cell 1
    go_wp2_with fail
    refine (heldShared_c o7.si o8.si (by omega) (by omega)).mono ?_
    rintro e w21 ⟨rfl, b21⟩
    clear cA00 dA00 cA01 dA01 cW0 dW0 cW1 dW1 cX00 dX00 cX01 dX01 cG0 dG0 cG1 dG1 cH0 dH0 cH1 dH1
    have B21 := below_step B20 b21
    replace o3 := o3.below b21
    replace o4 := o4.below b21
    replace o7 := o7.below b21
    replace o8 := o8.below b21
    replace o13 := o13.below b21
    replace o14 := o14.below b21
    replace KA0 := KA0.belowAll b21
    replace KW := KW.belowAll b21
    replace KX0 := KX0.belowAll b21
    replace KG := KG.belowAll b21
    replace KH := KH.belowAll b21
    have cA00 : w21.cell? ⟨w.heap.size, 0, none⟩ = some (.slice A0 n0 c0) := KA0.cell 0
    have dA00 : ∀ o, (w21.alloc o).cell? ⟨w.heap.size, 0, none⟩ = some (.slice A0 n0 c0) := fun o => (KA0.alloc o).cell 0
    have cA01 : w21.cell? ⟨w.heap.size, 1, none⟩ = some (.slice Z0 m0 d0) := KA0.cell 1
    have dA01 : ∀ o, (w21.alloc o).cell? ⟨w.heap.size, 1, none⟩ = some (.slice Z0 m0 d0) := fun o => (KA0.alloc o).cell 1
    have cW0 : w21.cell? ⟨w4.heap.size, 0, none⟩ = some (.slice A'3 p3 e3) := KW.cell 0
    have dW0 : ∀ o, (w21.alloc o).cell? ⟨w4.heap.size, 0, none⟩ = some (.slice A'3 p3 e3) := fun o => (KW.alloc o).cell 0
    have cW1 : w21.cell? ⟨w4.heap.size, 1, none⟩ = some (.slice A'4 p4 e4) := KW.cell 1
    have dW1 : ∀ o, (w21.alloc o).cell? ⟨w4.heap.size, 1, none⟩ = some (.slice A'4 p4 e4) := fun o => (KW.alloc o).cell 1
    have cX00 : w21.cell? ⟨w6.heap.size, 0, none⟩ = some (.slice A'5 p5 e5) := KX0.cell 0
    have dX00 : ∀ o, (w21.alloc o).cell? ⟨w6.heap.size, 0, none⟩ = some (.slice A'5 p5 e5) := fun o => (KX0.alloc o).cell 0
    have cX01 : w21.cell? ⟨w6.heap.size, 1, none⟩ = some (.slice A'6 p6 e6) := KX0.cell 1
    have dX01 : ∀ o, (w21.alloc o).cell? ⟨w6.heap.size, 1, none⟩ = some (.slice A'6 p6 e6) := fun o => (KX0.alloc o).cell 1
    have cG0 : w21.cell? ⟨w8.heap.size, 0, none⟩ = some (.slice A'7 p7 e7) := KG.cell 0
    have dG0 : ∀ o, (w21.alloc o).cell? ⟨w8.heap.size, 0, none⟩ = some (.slice A'7 p7 e7) := fun o => (KG.alloc o).cell 0
    have cG1 : w21.cell? ⟨w8.heap.size, 1, none⟩ = some (.slice A'8 p8 e8) := KG.cell 1
    have dG1 : ∀ o, (w21.alloc o).cell? ⟨w8.heap.size, 1, none⟩ = some (.slice A'8 p8 e8) := fun o => (KG.alloc o).cell 1
    have cH0 : w21.cell? ⟨w18.heap.size, 0, none⟩ = some (.slice A'13 p13 e13) := KH.cell 0
    have dH0 : ∀ o, (w21.alloc o).cell? ⟨w18.heap.size, 0, none⟩ = some (.slice A'13 p13 e13) := fun o => (KH.alloc o).cell 0
    have cH1 : w21.cell? ⟨w18.heap.size, 1, none⟩ = some (.slice A'14 p14 e14) := KH.cell 1
    have dH1 : ∀ o, (w21.alloc o).cell? ⟨w18.heap.size, 1, none⟩ = some (.slice A'14 p14 e14) := fun o => (KH.alloc o).cell 1
    go_wp2_with fail
    go_ret
    exact ⟨rfl, B21⟩
  · clear hL0 a0
    have b1 : Below w.heap.size w (w.alloc (.cells #[.slice A0 n0 c0, .slice Z0 m0 d0] 24)) := ((Below.refl _ _).alloc (by simp <;> omega) _)
    have KA0 := Blk.new w 24 #[(.slice A0 n0 c0), (.slice Z0 m0 d0)]
    go_enter Tryd.func5, Tryd.ntmps5
    go_wp2_with fail
    generalize (w.alloc (.cells #[.slice A0 n0 c0, .slice Z0 m0 d0] 24)) = w1 at *
    have B1 := b1
    have cA00 : w1.cell? ⟨w.heap.size, 0, none⟩ = some (.slice A0 n0 c0) := KA0.cell 0
    have dA00 : ∀ o, (w1.alloc o).cell? ⟨w.heap.size, 0, none⟩ = some (.slice A0 n0 c0) := fun o => (KA0.alloc o).cell 0
    have cA01 : w1.cell? ⟨w.heap.size, 1, none⟩ = some (.slice Z0 m0 d0) := KA0.cell 1
    have dA01 : ∀ o, (w1.alloc o).cell? ⟨w.heap.size, 1, none⟩ = some (.slice Z0 m0 d0) := fun o => (KA0.alloc o).cell 1
    refine (szShared_c (by omega) (by omega) (by omega) (by omega)).mono ?_
    rintro e w2 ⟨rfl, b2⟩
    clear cA00 dA00 cA01 dA01
    have B2 := below_step B1 b2
    replace KA0 := KA0.belowAll b2
    have cA00 : w2.cell? ⟨w.heap.size, 0, none⟩ = some (.slice A0 n0 c0) := KA0.cell 0
    have dA00 : ∀ o, (w2.alloc o).cell? ⟨w.heap.size, 0, none⟩ = some (.slice A0 n0 c0) := fun o => (KA0.alloc o).cell 0
    have cA01 : w2.cell? ⟨w.heap.size, 1, none⟩ = some (.slice Z0 m0 d0) := KA0.cell 1
    have dA01 : ∀ o, (w2.alloc o).cell? ⟨w.heap.size, 1, none⟩ = some (.slice Z0 m0 d0) := fun o => (KA0.alloc o).cell 1
    rw [← HL0.out]
    go_wp2_with fail
    go_ret
    exact ⟨rfl, B2⟩

theorem door_met (os : Os) (args : Array Value) : laidMetH Tryd.prog Rows.fnExactTakeSharedRow.laid ((World.doorLaid Tryd.prog 24 os).forCall (fun _ _ => 0) ⟨#[], args, []⟩).memory :=
  laidMetH_of_parts3 (fuel := 8) (laidMet_of_run' 8 (by kernel_rfl) (by kernel_rfl)) (by kernel_rfl) (by kernel_rfl)
set_option maxRecDepth 100000 in
theorem lifted (os : Os) (started : os.Started) (H : Type) (enc : TypeId × Value → H) :
    ReturnsInHanded {} Tryd.checked os 5 .any (fun w args => (Rows.fnExactTakeSharedSpec.pre enc Tryd.prog Tryd.f5 [] false w args ∧ laidMetH Tryd.prog Rows.fnExactTakeSharedRow.laid w) ∧ sizedMet enc Tryd.prog Tryd.f5 (OpenSpec.ofChange Rows.fnExactTakeSharedSpec) false w args)
      (Rows.fnExactTakeSharedSpec.post enc Tryd.prog Tryd.f5 false true false false) := by
  refine returnsInHanded_of_change_and (C := Tryd.checked) (X := fun w _ => laidMetH Tryd.prog Rows.fnExactTakeSharedRow.laid w) (fun _ _ _ hh h => h.of_heap hh) own started (by kernel_rfl) Tryd.func5
    (ChangeSpec.witness_shaped (enc := enc) (C := Tryd.checked) (os := os) (X := fun w _ => laidMetH Tryd.prog Rows.fnExactTakeSharedRow.laid w) false (World.doorLaid Tryd.prog 24 os) #[.agg #[.slice none 0 0, .slice none 0 0], .int .i64 0] 8 rfl (World.shaped_of_RefB (by kernel_rfl) (by kernel_rfl)) (by kernel_rfl) (by kernel_rfl) (by kernel_rfl) (door_met os _)) ?_
  intro W base args ds gs before hval0 hW _ _ hL _
  have hval : ∀ (j : Nat) t v, Tryd.f5.params[j]? = some t → args[j]? = some v → Value.okWide Tryd.prog W .any base t v := hval0
  have hW' := hW
  obtain ⟨p, q, hA0, hV, rfl, hfz, hnd⟩ := hW
  have hA : DataW.TrodAll enc Tryd.prog W 0 (fun _ => true) true Tryd.f5.params.toList args.toList ds p := hA0
  rw [Tryd.params5] at hA hval
  obtain ⟨v0, vs0, d0, ds0, p0, q0, hargs, rfl, rfl, h0, r0⟩ := trodAll_cons hA
  obtain ⟨v1, vs1, d1, ds1, p1, q1, rfl, rfl, rfl, h1, r1⟩ := trodAll_cons r0
  obtain ⟨rfl, rfl, rfl⟩ := trodAll_nil r1
  obtain rfl : args = #[v0, v1] := by cases args; simp_all
  obtain ⟨rfl, rfl⟩ := trodVars_none hV
  have k0 := h0
  have lt0 : ∀ x ∈ p0, x.block < W.heap.size := by obtain ⟨m, hm⟩ := k0; exact DataW.trod_lt m _ _ _ hm
  obtain ⟨A0, n0, c0, xs0, B0, m0, d0, ys0, rfl, ⟨hnc0, hmx0, R0⟩, ⟨gnc0, gmx0, T0⟩⟩ := open_SharedA (hval 0 24 v0 rfl rfl) h0
  have k1 := h1
  have lt1 : ∀ x ∈ p1, x.block < W.heap.size := by obtain ⟨m, hm⟩ := k1; exact DataW.trod_lt m _ _ _ hm
  obtain ⟨x1, rfl, rfl, rfl, wx1⟩ := open_int Tryd.underlying3 (hval 1 3 v1 rfl rfl) h1
  clear hA0 hval0
  have hT : Tab W := tab_of_laidH hL (by kernel_rfl) rfl
  refine (walk A0 n0 c0 xs0 B0 m0 d0 ys0 x1 W hnc0 hmx0 R0 gnc0 gmx0 T0 wx1 hT).mono fun e W' ⟨he, bel⟩ => ?_
  subst he
  exact ⟨_, rfl, _, _, _, [], _, [], hW', trodAll_mk1 (shut_bool Tryd.underlying4 _), (trodAll_cons_mk (Below.trod laidOut (by kernel_rfl) (of_decide_eq_true (by kernel_rfl)) k0 bel lt0) (trodAll_cons_mk (Below.trod laidOut (by kernel_rfl) (of_decide_eq_true (by kernel_rfl)) k1 bel lt1) trodAll_mk0)), rfl, bel.frame _, fun h => by cases h⟩
theorem row_holds : Rows.FnExactTakeSharedSaid :=
  OpenClaim.holds_of_wide 5 Tryd.f5 rfl rfl rfl rfl rfl rfl rfl ⟨rfl, rfl, rfl, rfl, rfl⟩ rfl rfl rfl rfl rfl (by kernel_rfl) Tryd.func5 (by kernel_rfl)
    (of_decide_eq_true (by kernel_rfl)) (by unfold Func.isWrapper; first | (rw [if_pos (by decide +kernel)]; kernel_rfl) | (rw [if_neg (by decide +kernel)]; exact ⟨rfl, rfl⟩))
    (fun os started H enc _ => lifted os started H enc)
theorem proved : Rows.FnExactTakeSharedCardSaid :=
  Claim7.holds_tied_plain_at .later [] [.data, .data] true (true, "05a08bfe29a0c28e6e014570d56fa0359cf688acda83bdb85be7a3739bc03165") false
    row_holds (fun _ h => by cases h) (by kernel_rfl) (fun _ h => by cases h) fnExactTakeShared_row_tie rfl ⟨rfl, rfl⟩ (by kernel_rfl) rfl
    (fun f fn hf hfn => by
      obtain rfl : f = 5 := Option.some.inj ((show Tryd.prog.funcNamed "loop.example/historychecker/laws.FnExactTakeShared" = some 5 by kernel_rfl).symm.trans hf) |>.symm
      obtain rfl : fn = Tryd.f5 := (Option.some.inj (Tryd.func5.symm.trans hfn)).symm
      exact ⟨by kernel_rfl, fun j t ht => by
        rw [Tryd.params5] at ht
        have hm : t ∈ [24, 3] := by simpa using Array.mem_of_getElem? ht
        have hall : ([24, 3].all fun u => !Tryd.prog.wantsStandIn u) = true := by kernel_rfl
        exact (show Tryd.prog.wantsStandIn t = false by simpa using List.all_eq_true.1 hall t hm)⟩)
    (by kernel_rfl)
end Go.Proofs.YtcoienlblhbkpaaDoor.exactTakeShared
