/- FnExactClockStep: for all arguments the program's ClockStep returns what the reference's returns, and leaves its arguments as they are; its result shares no memory.  -/
import Derived.Test.YtbedmkcnelbhkaaClockJ
import Derived.Test.YtbedmkcnelbhkaaOpen
namespace Go.Proofs.Ytbedmkcnelbhkaa.exactClockStep
open Go.ChangeShapes Go.WideShapes Go.ChangeAt Go.RowKit

set_option maxHeartbeats 4000000 in
theorem walk (A0 : Option Addr) (n0 c0 : Nat) (xs0 : List Int) (x1 : Int) (w : World)
    (hnc0 : n0 ≤ c0) (_hmx0 : c0 ≤ maxLen) (R0 : RI w A0 n0 xs0) (_wx1 : (Lit.int .i64 x1).wf = true) :
    Calls Try.prog 6 #[.slice A0 n0 c0, .int .i64 x1] w fun e w' => e = .returned (.bool true) ∧ Below w.heap.size w w' := by
  by_cases hn0 : n0 ≤ 1048576
  · skip
    go_enter Try.func6, Try.ntmps6
    go_wp2_with fail
    refine (toIntS_c ⟨_, _, rfl, hnc0, hn0, (R0.below (Below.refl _ _))⟩).mono ?_
    rintro e w1 ⟨v1, rfl, o1, b1⟩
    have bl1 : w.heap.size ≤ w.heap.size := Nat.le_refl _
    have B1 := below_step (Below.refl _ _) b1
    go_wp2_with fail
    refine (spec_ClockStep_c (at_ := x1) o1.si).mono ?_
    rintro e w2 ⟨v2, m2, rfl, o2, b2⟩
    have bl2 : w.heap.size ≤ w1.heap.size := B1.size
    have B2 := below_step B1 b2
    have ap1_2 := OI.apart o1 o2
    replace o1 := o1.below b2
    clear o1
    go_wp2_with fail
    refine (toIntS_c ⟨_, _, rfl, hnc0, hn0, (R0.below B2)⟩).mono ?_
    rintro e w3 ⟨v3, rfl, o3, b3⟩
    have bl3 : w.heap.size ≤ w2.heap.size := B2.size
    have B3 := below_step B2 b3
    have ap2_3 := OI.apart o2 o3
    replace o2 := o2.below b3
    go_wp2_with fail
    refine (impl_ClockStep_c (at_ := x1) o3.si).mono ?_
    rintro e w4 ⟨v4, m4, rfl, o4, b4⟩
    have bl4 : w.heap.size ≤ w3.heap.size := B3.size
    have B4 := below_step B3 b4
    have ap2_4 := OI.apart o2 o4
    have ap3_4 := OI.apart o3 o4
    replace o2 := o2.below b4
    replace o3 := o3.below b4
    go_wp2_with fail
    refine (eqIntS_c o4.si o2.si).mono ?_
    rintro e w5 ⟨rfl, b5⟩
    have B5 := below_step B4 b5
    replace o2 := o2.below b5
    replace o3 := o3.below b5
    replace o4 := o4.below b5
    go_wp2_with fail
    refine (toIntS_c ⟨_, _, rfl, hnc0, hn0, (R0.below B5)⟩).mono ?_
    rintro e w6 ⟨v5, rfl, o5, b6⟩
    have bl5 : w.heap.size ≤ w5.heap.size := B5.size
    have B6 := below_step B5 b6
    have ap2_5 := OI.apart o2 o5
    have ap3_5 := OI.apart o3 o5
    have ap4_5 := OI.apart o4 o5
    replace o2 := o2.below b6
    replace o3 := o3.below b6
    replace o4 := o4.below b6
    go_wp2_with fail
    refine (eqIntS_c o3.si o5.si).mono ?_
    rintro e w7 ⟨rfl, b7⟩
    have B7 := below_step B6 b7
    replace o2 := o2.below b7
    replace o3 := o3.below b7
    replace o4 := o4.below b7
    replace o5 := o5.below b7
    clear o5
    have hb3 := o3.2
    go_wp2_with fail
    have oo3 := o3
    refine (markIntS_c o3 (by omega) (by omega)).mono ?_
    rintro e w8 ⟨rfl, o3', g8⟩
    clear o3; have o3 := o3'; clear o3'
    have B8 := B7.grown g8 B7.size (oo3.grown_le bl3)
    replace o2 := o2.grown g8 ap2_3
    replace o4 := o4.grown g8 ap3_4.symm
    go_wp2_with fail
    refine (eqIntS_c o4.si o2.si).mono ?_
    rintro e w9 ⟨rfl, b9⟩
    have B9 := below_step B8 b9
    replace o2 := o2.below b9
    replace o3 := o3.below b9
    replace o4 := o4.below b9
    clear o3
    have hb4 := o4.2
    go_wp2_with fail
    have oo4 := o4
    refine (markIntS_c o4 (by omega) (by omega)).mono ?_
    rintro e w10 ⟨rfl, o4', g10⟩
    clear o4; have o4 := o4'; clear o4'
    have B10 := B9.grown g10 B9.size (oo4.grown_le bl4)
    replace o2 := o2.grown g10 ap2_4
    go_wp2_with fail
    refine (heldIntS_c o4.si (by omega) (by omega)).mono ?_
    rintro e w11 ⟨rfl, b11⟩
    have B11 := below_step B10 b11
    replace o2 := o2.below b11
    replace o4 := o4.below b11
    go_wp2_with fail
    refine (toIntS_c ⟨_, _, rfl, hnc0, hn0, (R0.below B11)⟩).mono ?_
    rintro e w12 ⟨v6, rfl, o6, b12⟩
    have bl6 : w.heap.size ≤ w11.heap.size := B11.size
    have B12 := below_step B11 b12
    have ap2_6 := OI.apart o2 o6
    have ap4_6 := OI.apart o4 o6
    replace o2 := o2.below b12
    replace o4 := o4.below b12
    go_wp2_with fail
    refine (impl_ClockStep_c (at_ := x1) o6.si).mono ?_
    rintro e w13 ⟨v7, m7, rfl, o7, b13⟩
    have bl7 : w.heap.size ≤ w12.heap.size := B12.size
    have B13 := below_step B12 b13
    have ap2_7 := OI.apart o2 o7
    have ap4_7 := OI.apart o4 o7
    have ap6_7 := OI.apart o6 o7
    replace o2 := o2.below b13
    replace o4 := o4.below b13
    replace o6 := o6.below b13
    clear o6
    go_wp2_with fail
    refine (eqIntS_c o7.si o2.si).mono ?_
    rintro e w14 ⟨rfl, b14⟩
    have B14 := below_step B13 b14
    replace o2 := o2.below b14
    replace o4 := o4.below b14
    replace o7 := o7.below b14
    go_wp2_with fail
    refine (heldIntS_c o4.si (by omega) (by omega)).mono ?_
    rintro e w15 ⟨rfl, b15⟩
    have B15 := below_step B14 b15
    replace o2 := o2.below b15
    replace o4 := o4.below b15
    replace o7 := o7.below b15
    go_wp2_with fail
    go_ret
    exact ⟨rfl, B15⟩
  · go_enter Try.func6, Try.ntmps6
    go_wp2_with fail
    go_ret
    exact ⟨rfl, Below.refl _ _⟩

set_option maxRecDepth 100000 in
theorem lifted (os : Os) (started : os.Started) (H : Type) (enc : TypeId × Value → H) :
    ReturnsInHanded {} Try.checked os 6 .any (Rows.fnExactClockStepSpec.pre6 enc Try.prog Try.f6 Rows.fnExactClockStepRow.domain false) (Rows.fnExactClockStepSpec.post enc Try.prog Try.f6 false true false false) := by
  refine returnsInHanded_of_change (C := Try.checked) own started (by kernel_rfl) Try.func6
    (ChangeSpec.witness6 (enc := enc) (C := Try.checked) false ⟨#[], #[.slice none 0 0, .int .i64 0], []⟩ 8 (by kernel_rfl) (by kernel_rfl) (by kernel_rfl) (by kernel_rfl)) ?_
  intro W base args ds gs before hval0 hW hcnd _
  have hval : ∀ (j : Nat) t v, Try.f6.params[j]? = some t → args[j]? = some v → Value.okWide Try.prog W .any base t v := hval0
  have hW' := hW
  obtain ⟨p, q, hA0, hV, rfl, hfz, hnd⟩ := hW
  have hA : DataW.TrodAll enc Try.prog W 0 (fun _ => true) true Try.f6.params.toList args.toList ds p := hA0
  rw [Try.params6] at hA hval
  obtain ⟨v0, vs0, d0, ds0, p0, q0, hargs, rfl, rfl, h0, r0⟩ := trodAll_cons hA
  obtain ⟨v1, vs1, d1, ds1, p1, q1, rfl, rfl, rfl, h1, r1⟩ := trodAll_cons r0
  obtain ⟨rfl, rfl, rfl⟩ := trodAll_nil r1
  obtain rfl : args = #[v0, v1] := by cases args; simp_all
  obtain ⟨rfl, rfl⟩ := trodVars_none hV
  have k0 := h0
  have lt0 : ∀ x ∈ p0, x.block < W.heap.size := by obtain ⟨m, hm⟩ := k0; exact DataW.trod_lt m _ _ _ hm
  obtain ⟨A0, n0, c0, xs0, rfl, hnc0, hmx0, R0⟩ := open_intsA (hval 0 22 v0 rfl rfl) h0
  have k1 := h1
  have lt1 : ∀ x ∈ p1, x.block < W.heap.size := by obtain ⟨m, hm⟩ := k1; exact DataW.trod_lt m _ _ _ hm
  obtain ⟨x1, rfl, rfl, rfl, wx1⟩ := open_int Try.underlying3 (hval 1 3 v1 rfl rfl) h1
  clear hA0 hval0
  refine (walk A0 n0 c0 xs0 x1 W hnc0 hmx0 R0 wx1).mono fun e W' ⟨he, bel⟩ => ?_
  subst he
  exact ⟨_, rfl, _, _, _, [], _, [], hW', trodAll_mk1 (shut_bool Try.underlying4 _), (trodAll_cons_mk (Below.trod laidOut (by kernel_rfl) (of_decide_eq_true (by kernel_rfl)) k0 bel lt0) (trodAll_cons_mk (Below.trod laidOut (by kernel_rfl) (of_decide_eq_true (by kernel_rfl)) k1 bel lt1) trodAll_mk0)), rfl, bel.frame _, fun h => by cases h⟩

theorem proved : Rows.FnExactClockStepSaid :=
  OpenClaim.holds_of_wide 6 Try.f6 rfl rfl rfl rfl rfl rfl rfl ⟨rfl, rfl, rfl, rfl, rfl⟩ rfl rfl rfl rfl rfl (by kernel_rfl) Try.func6 (by kernel_rfl)
    (of_decide_eq_true (by kernel_rfl)) (by unfold Func.isWrapper; first | (rw [if_pos (by decide +kernel)]; kernel_rfl) | (rw [if_neg (by decide +kernel)]; exact ⟨rfl, rfl⟩))
    (fun os started H enc _ => lifted os started H enc)
end Go.Proofs.Ytbedmkcnelbhkaa.exactClockStep
