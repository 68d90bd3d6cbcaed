/- FnExactSharedValid: for all arguments the program's SharedValid returns what the reference's returns, and leaves its arguments as they are; its result shares no memory with them or with another result. -/
import Derived.Test.YtiocpkkmkoedmaaShared10
import Derived.Test.YtiocpkkmkoedmaaOpenSh
import Derived.Test.YtiocpkkmkoedmaaOpen
import Derived.Deep.RegionHeld3
namespace Go.Proofs.Ytiocpkkmkoedmaa.exactSharedValid
open Go.ChangeShapes Go.WideShapes Go.ChangeAt Go.RowKit

set_option linter.unusedSimpArgs false
set_option maxRecDepth 8000 in
set_option maxHeartbeats 16000000 in
theorem walk (A0 : Option Addr) (n0 c0 : Nat) (xs0 : List Int) (Z0 : Option Addr) (m0 d0 : Nat) (ys0 : List Int) (w : World)
    (hnc0 : n0 ≤ c0) (hmx0 : c0 ≤ maxLen) (R0 : RI w A0 n0 xs0) (gnc0 : m0 ≤ d0) (gmx0 : d0 ≤ maxLen) (T0 : RI w Z0 m0 ys0) :
    Calls Try.prog 6 #[.agg #[.slice A0 n0 c0, .slice Z0 m0 d0]] w fun e w' => e = .returned (.bool true) ∧ Below w.heap.size w w' := by
  have a0 : ∀ (a b : Nat), (0 : Int) ≤ (a : Int) + (b : Int) := fun a b => by omega
  obtain ⟨L0, hL0⟩ : ∃ L : Int, L = szR 1048576 ((n0 : Int) + m0) := ⟨_, rfl⟩
  have l0b := szR_le 1048576 ((n0 : Int) + m0) (by omega) (by omega)
  rw [← hL0] at l0b
  have HL0 := hide hL0
  by_cases l0 : 0 ≤ L0
  · have z0 := szR_ok (hL0 ▸ l0)
    have hn0 : n0 ≤ 1048576 := by omega
    have hm0 : m0 ≤ 1048576 := by omega
    have e0 : L0 = 1048576 - ((n0 : Int) + m0) := by rw [hL0]; exact z0.2
    have hE0 : L0 ≤ 1048576 := by omega
    clear z0 e0 hL0
    clear a0
    have b1 : Below w.heap.size w (w.alloc (.cells #[.slice A0 n0 c0, .slice Z0 m0 d0] 35)) := ((Below.refl _ _).alloc (by simp <;> omega) _)
    have KA0 := Blk.new w 35 #[(.slice A0 n0 c0), (.slice Z0 m0 d0)]
    go_enter Try.func6, Try.ntmps6
    go_wp2_with fail
    generalize (w.alloc (.cells #[.slice A0 n0 c0, .slice Z0 m0 d0] 35)) = w1 at *
    have B1 := b1
    have cA00 : w1.cell? ⟨w.heap.size, 0, none⟩ = some (.slice A0 n0 c0) := KA0.cell 0
    have dA00 : ∀ o, (w1.alloc o).cell? ⟨w.heap.size, 0, none⟩ = some (.slice A0 n0 c0) := fun o => (KA0.alloc o).cell 0
    have cA01 : w1.cell? ⟨w.heap.size, 1, none⟩ = some (.slice Z0 m0 d0) := KA0.cell 1
    have dA01 : ∀ o, (w1.alloc o).cell? ⟨w.heap.size, 1, none⟩ = some (.slice Z0 m0 d0) := fun o => (KA0.alloc o).cell 1
    refine (szShared_c (by omega) (by omega) (by omega) (by omega)).mono ?_
    rintro e w2 ⟨rfl, b2⟩
    clear cA00 dA00 cA01 dA01
    have B2 := below_step B1 b2
    replace KA0 := KA0.belowAll b2
    have cA00 : w2.cell? ⟨w.heap.size, 0, none⟩ = some (.slice A0 n0 c0) := KA0.cell 0
    have dA00 : ∀ o, (w2.alloc o).cell? ⟨w.heap.size, 0, none⟩ = some (.slice A0 n0 c0) := fun o => (KA0.alloc o).cell 0
    have cA01 : w2.cell? ⟨w.heap.size, 1, none⟩ = some (.slice Z0 m0 d0) := KA0.cell 1
    have dA01 : ∀ o, (w2.alloc o).cell? ⟨w.heap.size, 1, none⟩ = some (.slice Z0 m0 d0) := fun o => (KA0.alloc o).cell 1
    rw [← HL0.out]
    go_wp2_with fail
    refine (toShared_c (SI.of_args hnc0 hn0 (R0.below B2)) (SI.of_args gnc0 hm0 (T0.below B2))).mono ?_
    rintro e w3 ⟨A'1, p1, e1, A'2, p2, e2, rfl, o1, o2, ap1_2, b3⟩
    have bl1 : w.heap.size ≤ w2.heap.size := B2.size
    have bl2 : w.heap.size ≤ w2.heap.size := B2.size
    clear cA00 dA00 cA01 dA01
    have B3 := below_step B2 b3
    replace KA0 := KA0.belowAll b3
    have cA00 : w3.cell? ⟨w.heap.size, 0, none⟩ = some (.slice A0 n0 c0) := KA0.cell 0
    have dA00 : ∀ o, (w3.alloc o).cell? ⟨w.heap.size, 0, none⟩ = some (.slice A0 n0 c0) := fun o => (KA0.alloc o).cell 0
    have cA01 : w3.cell? ⟨w.heap.size, 1, none⟩ = some (.slice Z0 m0 d0) := KA0.cell 1
    have dA01 : ∀ o, (w3.alloc o).cell? ⟨w.heap.size, 1, none⟩ = some (.slice Z0 m0 d0) := fun o => (KA0.alloc o).cell 1
    go_wp2_with fail
    refine (spec_SharedValid_c o1.si o2.si).mono ?_
    rintro e w4 ⟨rfl, b4⟩
    clear cA00 dA00 cA01 dA01
    have B4 := below_step B3 b4
    replace o1 := o1.below b4
    replace o2 := o2.below b4
    replace KA0 := KA0.belowAll b4
    have cA00 : w4.cell? ⟨w.heap.size, 0, none⟩ = some (.slice A0 n0 c0) := KA0.cell 0
    have dA00 : ∀ o, (w4.alloc o).cell? ⟨w.heap.size, 0, none⟩ = some (.slice A0 n0 c0) := fun o => (KA0.alloc o).cell 0
    have cA01 : w4.cell? ⟨w.heap.size, 1, none⟩ = some (.slice Z0 m0 d0) := KA0.cell 1
    have dA01 : ∀ o, (w4.alloc o).cell? ⟨w.heap.size, 1, none⟩ = some (.slice Z0 m0 d0) := fun o => (KA0.alloc o).cell 1
    clear o1
    clear o2
    go_wp2_with fail
    refine (toShared_c (SI.of_args hnc0 hn0 (R0.below B4)) (SI.of_args gnc0 hm0 (T0.below B4))).mono ?_
    rintro e w5 ⟨A'3, p3, e3, A'4, p4, e4, rfl, o3, o4, ap3_4, b5⟩
    have bl3 : w.heap.size ≤ w4.heap.size := B4.size
    have bl4 : w.heap.size ≤ w4.heap.size := B4.size
    clear cA00 dA00 cA01 dA01
    have B5 := below_step B4 b5
    replace KA0 := KA0.belowAll b5
    have cA00 : w5.cell? ⟨w.heap.size, 0, none⟩ = some (.slice A0 n0 c0) := KA0.cell 0
    have dA00 : ∀ o, (w5.alloc o).cell? ⟨w.heap.size, 0, none⟩ = some (.slice A0 n0 c0) := fun o => (KA0.alloc o).cell 0
    have cA01 : w5.cell? ⟨w.heap.size, 1, none⟩ = some (.slice Z0 m0 d0) := KA0.cell 1
    have dA01 : ∀ o, (w5.alloc o).cell? ⟨w.heap.size, 1, none⟩ = some (.slice Z0 m0 d0) := fun o => (KA0.alloc o).cell 1
    go_wp2_with fail
    have b6 : Below w5.heap.size w5 (w5.alloc (.cells #[(.slice A'3 p3 e3), (.slice A'4 p4 e4)] 38)) := (Below.refl _ _).alloc (Nat.le_refl _) _
    have KX0 := Blk.new w5 38 #[(.slice A'3 p3 e3), (.slice A'4 p4 e4)]
    have B6 := below_step B5 b6
    replace o3 := o3.below b6
    replace o4 := o4.below b6
    replace KA0 := KA0.belowAll b6
    generalize w5.alloc (.cells #[(.slice A'3 p3 e3), (.slice A'4 p4 e4)] 38) = w6 at *
    clear cA00 dA00 cA01 dA01
    have cA00 : w6.cell? ⟨w.heap.size, 0, none⟩ = some (.slice A0 n0 c0) := KA0.cell 0
    have dA00 : ∀ o, (w6.alloc o).cell? ⟨w.heap.size, 0, none⟩ = some (.slice A0 n0 c0) := fun o => (KA0.alloc o).cell 0
    have cA01 : w6.cell? ⟨w.heap.size, 1, none⟩ = some (.slice Z0 m0 d0) := KA0.cell 1
    have dA01 : ∀ o, (w6.alloc o).cell? ⟨w.heap.size, 1, none⟩ = some (.slice Z0 m0 d0) := fun o => (KA0.alloc o).cell 1
    have cX00 : w6.cell? ⟨w5.heap.size, 0, none⟩ = some (.slice A'3 p3 e3) := KX0.cell 0
    have dX00 : ∀ o, (w6.alloc o).cell? ⟨w5.heap.size, 0, none⟩ = some (.slice A'3 p3 e3) := fun o => (KX0.alloc o).cell 0
    have cX01 : w6.cell? ⟨w5.heap.size, 1, none⟩ = some (.slice A'4 p4 e4) := KX0.cell 1
    have dX01 : ∀ o, (w6.alloc o).cell? ⟨w5.heap.size, 1, none⟩ = some (.slice A'4 p4 e4) := fun o => (KX0.alloc o).cell 1
    refine (impl_SharedValid_c o3.si o4.si).mono ?_
    rintro e w7 ⟨rfl, b7⟩
    clear cA00 dA00 cA01 dA01 cX00 dX00 cX01 dX01
    have B7 := below_step B6 b7
    replace o3 := o3.below b7
    replace o4 := o4.below b7
    replace KA0 := KA0.belowAll b7
    replace KX0 := KX0.belowAll b7
    have cA00 : w7.cell? ⟨w.heap.size, 0, none⟩ = some (.slice A0 n0 c0) := KA0.cell 0
    have dA00 : ∀ o, (w7.alloc o).cell? ⟨w.heap.size, 0, none⟩ = some (.slice A0 n0 c0) := fun o => (KA0.alloc o).cell 0
    have cA01 : w7.cell? ⟨w.heap.size, 1, none⟩ = some (.slice Z0 m0 d0) := KA0.cell 1
    have dA01 : ∀ o, (w7.alloc o).cell? ⟨w.heap.size, 1, none⟩ = some (.slice Z0 m0 d0) := fun o => (KA0.alloc o).cell 1
    have cX00 : w7.cell? ⟨w5.heap.size, 0, none⟩ = some (.slice A'3 p3 e3) := KX0.cell 0
    have dX00 : ∀ o, (w7.alloc o).cell? ⟨w5.heap.size, 0, none⟩ = some (.slice A'3 p3 e3) := fun o => (KX0.alloc o).cell 0
    have cX01 : w7.cell? ⟨w5.heap.size, 1, none⟩ = some (.slice A'4 p4 e4) := KX0.cell 1
    have dX01 : ∀ o, (w7.alloc o).cell? ⟨w5.heap.size, 1, none⟩ = some (.slice A'4 p4 e4) := fun o => (KX0.alloc o).cell 1
    go_wp2_with fail
    have lx := KX0.lt; have la := KA0.lt
    go_region_held3 (fun W => W.cell? ⟨w5.heap.size, 0, none⟩ = some (.slice A'3 p3 e3) ∧ W.cell? ⟨w5.heap.size, 1, none⟩ = some (.slice A'4 p4 e4) ∧ W.cell? ⟨w.heap.size, 0, none⟩ = some (.slice A0 n0 c0) ∧ W.cell? ⟨w.heap.size, 1, none⟩ = some (.slice Z0 m0 d0))
      (first | (go_keep; done) | (go_split_ands; refine ⟨?_, ?_, ?_, ?_⟩ <;> (rw [b9.cell (by have := b8.size; simp at this ⊢; omega)]; assumption)) | (go_split_ands; refine ⟨?_, ?_, ?_, ?_⟩ <;> (rw [b8.cell (by simp <;> omega)]; assumption)))
      (first | (go_at_call 19; refine (toShared_c (SI.of_args hnc0 hn0 (R0.below B7)).drew (SI.of_args gnc0 hm0 (T0.below B7)).drew).mono ?_; rintro e w8 ⟨A'5, p5, e5, A'6, p6, e6, rfl, o5, o6, ap5_6, b8⟩) | (go_at_call 21; refine (eqShared_c (o3.drew.below b8).si (o4.drew.below b8).si o5.si o6.si).mono ?_; rintro e w9 ⟨rfl, b9⟩))
    replace b8 := below_of_drew b8
    clear o5 o6 lx la ap5_6
    clear cA00 dA00 cA01 dA01 cX00 dX00 cX01 dX01
    have B8 := below_step B7 b8
    replace o3 := o3.below b8
    replace o4 := o4.below b8
    replace KA0 := KA0.belowAll b8
    replace KX0 := KX0.belowAll b8
    have B9 := below_step B8 b9
    replace o3 := o3.below b9
    replace o4 := o4.below b9
    replace KA0 := KA0.belowAll b9
    replace KX0 := KX0.belowAll b9
    have cA00 : w9.cell? ⟨w.heap.size, 0, none⟩ = some (.slice A0 n0 c0) := KA0.cell 0
    have dA00 : ∀ o, (w9.alloc o).cell? ⟨w.heap.size, 0, none⟩ = some (.slice A0 n0 c0) := fun o => (KA0.alloc o).cell 0
    have cA01 : w9.cell? ⟨w.heap.size, 1, none⟩ = some (.slice Z0 m0 d0) := KA0.cell 1
    have dA01 : ∀ o, (w9.alloc o).cell? ⟨w.heap.size, 1, none⟩ = some (.slice Z0 m0 d0) := fun o => (KA0.alloc o).cell 1
    have cX00 : w9.cell? ⟨w5.heap.size, 0, none⟩ = some (.slice A'3 p3 e3) := KX0.cell 0
    have dX00 : ∀ o, (w9.alloc o).cell? ⟨w5.heap.size, 0, none⟩ = some (.slice A'3 p3 e3) := fun o => (KX0.alloc o).cell 0
    have cX01 : w9.cell? ⟨w5.heap.size, 1, none⟩ = some (.slice A'4 p4 e4) := KX0.cell 1
    have dX01 : ∀ o, (w9.alloc o).cell? ⟨w5.heap.size, 1, none⟩ = some (.slice A'4 p4 e4) := fun o => (KX0.alloc o).cell 1
    go_wp2_with fail
    go_ret
    exact ⟨rfl, B9⟩
  · clear hL0 a0
    have b1 : Below w.heap.size w (w.alloc (.cells #[.slice A0 n0 c0, .slice Z0 m0 d0] 35)) := ((Below.refl _ _).alloc (by simp <;> omega) _)
    have KA0 := Blk.new w 35 #[(.slice A0 n0 c0), (.slice Z0 m0 d0)]
    go_enter Try.func6, Try.ntmps6
    go_wp2_with fail
    generalize (w.alloc (.cells #[.slice A0 n0 c0, .slice Z0 m0 d0] 35)) = w1 at *
    have B1 := b1
    have cA00 : w1.cell? ⟨w.heap.size, 0, none⟩ = some (.slice A0 n0 c0) := KA0.cell 0
    have dA00 : ∀ o, (w1.alloc o).cell? ⟨w.heap.size, 0, none⟩ = some (.slice A0 n0 c0) := fun o => (KA0.alloc o).cell 0
    have cA01 : w1.cell? ⟨w.heap.size, 1, none⟩ = some (.slice Z0 m0 d0) := KA0.cell 1
    have dA01 : ∀ o, (w1.alloc o).cell? ⟨w.heap.size, 1, none⟩ = some (.slice Z0 m0 d0) := fun o => (KA0.alloc o).cell 1
    refine (szShared_c (by omega) (by omega) (by omega) (by omega)).mono ?_
    rintro e w2 ⟨rfl, b2⟩
    clear cA00 dA00 cA01 dA01
    have B2 := below_step B1 b2
    replace KA0 := KA0.belowAll b2
    have cA00 : w2.cell? ⟨w.heap.size, 0, none⟩ = some (.slice A0 n0 c0) := KA0.cell 0
    have dA00 : ∀ o, (w2.alloc o).cell? ⟨w.heap.size, 0, none⟩ = some (.slice A0 n0 c0) := fun o => (KA0.alloc o).cell 0
    have cA01 : w2.cell? ⟨w.heap.size, 1, none⟩ = some (.slice Z0 m0 d0) := KA0.cell 1
    have dA01 : ∀ o, (w2.alloc o).cell? ⟨w.heap.size, 1, none⟩ = some (.slice Z0 m0 d0) := fun o => (KA0.alloc o).cell 1
    rw [← HL0.out]
    go_wp2_with fail
    go_ret
    exact ⟨rfl, B2⟩

set_option maxRecDepth 100000 in
theorem lifted (os : Os) (started : os.Started) (H : Type) (enc : TypeId × Value → H) :
    ReturnsInHanded {} Try.checked os 6 .any (Rows.fnExactSharedValidSpec.pre6 enc Try.prog Try.f6 Rows.fnExactSharedValidRow.domain false) (Rows.fnExactSharedValidSpec.post enc Try.prog Try.f6 false true false false) := by
  refine returnsInHanded_of_change (C := Try.checked) own started (by kernel_rfl) Try.func6
    (ChangeSpec.witness6 (enc := enc) (C := Try.checked) false ⟨#[], #[.agg #[.slice none 0 0, .slice none 0 0]], []⟩ 8 (by kernel_rfl) (by kernel_rfl) (by kernel_rfl) (by kernel_rfl)) ?_
  intro W base args ds gs before hval0 hW hcnd _
  have hval : ∀ (j : Nat) t v, Try.f6.params[j]? = some t → args[j]? = some v → Value.okWide Try.prog W .any base t v := hval0
  have hW' := hW
  obtain ⟨p, q, hA0, hV, rfl, hfz, hnd⟩ := hW
  have hA : DataW.TrodAll enc Try.prog W 0 (fun _ => true) true Try.f6.params.toList args.toList ds p := hA0
  rw [Try.params6] at hA hval
  obtain ⟨v0, vs0, d0, ds0, p0, q0, hargs, rfl, rfl, h0, r0⟩ := trodAll_cons hA
  obtain ⟨rfl, rfl, rfl⟩ := trodAll_nil r0
  obtain rfl : args = #[v0] := by cases args; simp_all
  obtain ⟨rfl, rfl⟩ := trodVars_none hV
  have k0 := h0
  have lt0 : ∀ x ∈ p0, x.block < W.heap.size := by obtain ⟨m, hm⟩ := k0; exact DataW.trod_lt m _ _ _ hm
  obtain ⟨A0, n0, c0, xs0, B0, m0, d0, ys0, rfl, ⟨hnc0, hmx0, R0⟩, ⟨gnc0, gmx0, T0⟩⟩ := open_SharedA (hval 0 35 v0 rfl rfl) h0
  clear hA0 hval0
  refine (walk A0 n0 c0 xs0 B0 m0 d0 ys0 W hnc0 hmx0 R0 gnc0 gmx0 T0).mono fun e W' ⟨he, bel⟩ => ?_
  subst he
  exact ⟨_, rfl, _, _, _, [], _, [], hW', trodAll_mk1 (shut_bool Try.underlying4 _), (trodAll_cons_mk (Below.trod laidOut (by kernel_rfl) (of_decide_eq_true (by kernel_rfl)) k0 bel lt0) trodAll_mk0), rfl, bel.frame _, fun h => by cases h⟩

theorem proved : Rows.FnExactSharedValidSaid :=
  OpenClaim.holds_of_wide 6 Try.f6 rfl rfl rfl rfl rfl rfl rfl ⟨rfl, rfl, rfl, rfl, rfl⟩ rfl rfl rfl rfl rfl (by kernel_rfl) Try.func6 (by kernel_rfl)
    (of_decide_eq_true (by kernel_rfl)) (by unfold Func.isWrapper; first | (rw [if_pos (by decide +kernel)]; kernel_rfl) | (rw [if_neg (by decide +kernel)]; exact ⟨rfl, rfl⟩))
    (fun os started H enc _ => lifted os started H enc)
end Go.Proofs.Ytiocpkkmkoedmaa.exactSharedValid
