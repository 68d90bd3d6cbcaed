/- FnExactClockJoin: for all arguments the program's ClockJoin returns what the reference's returns, and leaves its arguments as they are; its result shares no memory.  -/
import Derived.Test.YtbedmkcnelbhkaaClockJ2
import Derived.Test.YtbedmkcnelbhkaaOpen
namespace Go.Proofs.Ytbedmkcnelbhkaa.exactClockJoin
open Go.ChangeShapes Go.WideShapes Go.ChangeAt Go.RowKit

set_option maxHeartbeats 4000000 in
theorem walk (A0 : Option Addr) (n0 c0 : Nat) (xs0 : List Int) (A1 : Option Addr) (n1 c1 : Nat) (xs1 : List Int) (w : World)
    (hnc0 : n0 ≤ c0) (_hmx0 : c0 ≤ maxLen) (R0 : RI w A0 n0 xs0) (hnc1 : n1 ≤ c1) (_hmx1 : c1 ≤ maxLen) (R1 : RI w A1 n1 xs1) :
    Calls Try.prog 7 #[.slice A0 n0 c0, .slice A1 n1 c1] w fun e w' => e = .returned (.bool true) ∧ Below w.heap.size w w' := by
  by_cases hn0 : n0 ≤ 1048576
  · skip
    by_cases hn1 : n1 ≤ 1048576
    · skip
      go_enter Try.func7, Try.ntmps7
      go_wp2_with fail
      refine (toIntS_c ⟨_, _, rfl, hnc0, hn0, (R0.below (Below.refl _ _))⟩).mono ?_
      rintro e w1 ⟨v1, rfl, o1, b1⟩
      have bl1 : w.heap.size ≤ w.heap.size := Nat.le_refl _
      have B1 := below_step (Below.refl _ _) b1
      go_wp2_with fail
      refine (toIntS_c ⟨_, _, rfl, hnc1, hn1, (R1.below B1)⟩).mono ?_
      rintro e w2 ⟨v2, rfl, o2, b2⟩
      have bl2 : w.heap.size ≤ w1.heap.size := B1.size
      have B2 := below_step B1 b2
      have ap1_2 := OI.apart o1 o2
      replace o1 := o1.below b2
      go_wp2_with fail
      refine (spec_ClockJoin_c o1.si o2.si).mono ?_
      rintro e w3 ⟨v3, m3, rfl, o3, b3⟩
      have bl3 : w.heap.size ≤ w2.heap.size := B2.size
      have B3 := below_step B2 b3
      have ap1_3 := OI.apart o1 o3
      have ap2_3 := OI.apart o2 o3
      replace o1 := o1.below b3
      replace o2 := o2.below b3
      clear o1
      clear o2
      go_wp2_with fail
      refine (toIntS_c ⟨_, _, rfl, hnc0, hn0, (R0.below B3)⟩).mono ?_
      rintro e w4 ⟨v4, rfl, o4, b4⟩
      have bl4 : w.heap.size ≤ w3.heap.size := B3.size
      have B4 := below_step B3 b4
      have ap3_4 := OI.apart o3 o4
      replace o3 := o3.below b4
      go_wp2_with fail
      refine (toIntS_c ⟨_, _, rfl, hnc1, hn1, (R1.below B4)⟩).mono ?_
      rintro e w5 ⟨v5, rfl, o5, b5⟩
      have bl5 : w.heap.size ≤ w4.heap.size := B4.size
      have B5 := below_step B4 b5
      have ap3_5 := OI.apart o3 o5
      have ap4_5 := OI.apart o4 o5
      replace o3 := o3.below b5
      replace o4 := o4.below b5
      go_wp2_with fail
      refine (impl_ClockJoin_c o4.si o5.si).mono ?_
      rintro e w6 ⟨v6, m6, rfl, o6, b6⟩
      have bl6 : w.heap.size ≤ w5.heap.size := B5.size
      have B6 := below_step B5 b6
      have ap3_6 := OI.apart o3 o6
      have ap4_6 := OI.apart o4 o6
      have ap5_6 := OI.apart o5 o6
      replace o3 := o3.below b6
      replace o4 := o4.below b6
      replace o5 := o5.below b6
      go_wp2_with fail
      refine (eqIntS_c o6.si o3.si).mono ?_
      rintro e w7 ⟨rfl, b7⟩
      have B7 := below_step B6 b7
      replace o3 := o3.below b7
      replace o4 := o4.below b7
      replace o5 := o5.below b7
      replace o6 := o6.below b7
      go_wp2_with fail
      refine (toIntS_c ⟨_, _, rfl, hnc0, hn0, (R0.below B7)⟩).mono ?_
      rintro e w8 ⟨v7, rfl, o7, b8⟩
      have bl7 : w.heap.size ≤ w7.heap.size := B7.size
      have B8 := below_step B7 b8
      have ap3_7 := OI.apart o3 o7
      have ap4_7 := OI.apart o4 o7
      have ap5_7 := OI.apart o5 o7
      have ap6_7 := OI.apart o6 o7
      replace o3 := o3.below b8
      replace o4 := o4.below b8
      replace o5 := o5.below b8
      replace o6 := o6.below b8
      go_wp2_with fail
      refine (eqIntS_c o4.si o7.si).mono ?_
      rintro e w9 ⟨rfl, b9⟩
      have B9 := below_step B8 b9
      replace o3 := o3.below b9
      replace o4 := o4.below b9
      replace o5 := o5.below b9
      replace o6 := o6.below b9
      replace o7 := o7.below b9
      clear o7
      go_wp2_with fail
      refine (toIntS_c ⟨_, _, rfl, hnc1, hn1, (R1.below B9)⟩).mono ?_
      rintro e w10 ⟨v8, rfl, o8, b10⟩
      have bl8 : w.heap.size ≤ w9.heap.size := B9.size
      have B10 := below_step B9 b10
      have ap3_8 := OI.apart o3 o8
      have ap4_8 := OI.apart o4 o8
      have ap5_8 := OI.apart o5 o8
      have ap6_8 := OI.apart o6 o8
      replace o3 := o3.below b10
      replace o4 := o4.below b10
      replace o5 := o5.below b10
      replace o6 := o6.below b10
      go_wp2_with fail
      refine (eqIntS_c o5.si o8.si).mono ?_
      rintro e w11 ⟨rfl, b11⟩
      have B11 := below_step B10 b11
      replace o3 := o3.below b11
      replace o4 := o4.below b11
      replace o5 := o5.below b11
      replace o6 := o6.below b11
      replace o8 := o8.below b11
      clear o8
      have hb4 := o4.2
      go_wp2_with fail
      have oo4 := o4
      refine (markIntS_c o4 (by omega) (by omega)).mono ?_
      rintro e w12 ⟨rfl, o4', g12⟩
      clear o4; have o4 := o4'; clear o4'
      have B12 := B11.grown g12 B11.size (oo4.grown_le bl4)
      replace o3 := o3.grown g12 ap3_4
      replace o5 := o5.grown g12 ap4_5.symm
      replace o6 := o6.grown g12 ap4_6.symm
      have hb5 := o5.2
      go_wp2_with fail
      have oo5 := o5
      refine (markIntS_c o5 (by omega) (by omega)).mono ?_
      rintro e w13 ⟨rfl, o5', g13⟩
      clear o5; have o5 := o5'; clear o5'
      have B13 := B12.grown g13 B12.size (oo5.grown_le bl5)
      replace o3 := o3.grown g13 ap3_5
      replace o4 := o4.grown g13 ap4_5
      replace o6 := o6.grown g13 ap5_6.symm
      go_wp2_with fail
      refine (eqIntS_c o6.si o3.si).mono ?_
      rintro e w14 ⟨rfl, b14⟩
      have B14 := below_step B13 b14
      replace o3 := o3.below b14
      replace o4 := o4.below b14
      replace o5 := o5.below b14
      replace o6 := o6.below b14
      clear o4
      clear o5
      have hb6 := o6.2
      go_wp2_with fail
      have oo6 := o6
      refine (markIntS_c o6 (by omega) (by omega)).mono ?_
      rintro e w15 ⟨rfl, o6', g15⟩
      clear o6; have o6 := o6'; clear o6'
      have B15 := B14.grown g15 B14.size (oo6.grown_le bl6)
      replace o3 := o3.grown g15 ap3_6
      go_wp2_with fail
      refine (heldIntS_c o6.si (by omega) (by omega)).mono ?_
      rintro e w16 ⟨rfl, b16⟩
      have B16 := below_step B15 b16
      replace o3 := o3.below b16
      replace o6 := o6.below b16
      go_wp2_with fail
      refine (toIntS_c ⟨_, _, rfl, hnc0, hn0, (R0.below B16)⟩).mono ?_
      rintro e w17 ⟨v9, rfl, o9, b17⟩
      have bl9 : w.heap.size ≤ w16.heap.size := B16.size
      have B17 := below_step B16 b17
      have ap3_9 := OI.apart o3 o9
      have ap6_9 := OI.apart o6 o9
      replace o3 := o3.below b17
      replace o6 := o6.below b17
      go_wp2_with fail
      refine (toIntS_c ⟨_, _, rfl, hnc1, hn1, (R1.below B17)⟩).mono ?_
      rintro e w18 ⟨v10, rfl, o10, b18⟩
      have bl10 : w.heap.size ≤ w17.heap.size := B17.size
      have B18 := below_step B17 b18
      have ap3_10 := OI.apart o3 o10
      have ap6_10 := OI.apart o6 o10
      have ap9_10 := OI.apart o9 o10
      replace o3 := o3.below b18
      replace o6 := o6.below b18
      replace o9 := o9.below b18
      go_wp2_with fail
      refine (impl_ClockJoin_c o9.si o10.si).mono ?_
      rintro e w19 ⟨v11, m11, rfl, o11, b19⟩
      have bl11 : w.heap.size ≤ w18.heap.size := B18.size
      have B19 := below_step B18 b19
      have ap3_11 := OI.apart o3 o11
      have ap6_11 := OI.apart o6 o11
      have ap9_11 := OI.apart o9 o11
      have ap10_11 := OI.apart o10 o11
      replace o3 := o3.below b19
      replace o6 := o6.below b19
      replace o9 := o9.below b19
      replace o10 := o10.below b19
      clear o9
      clear o10
      go_wp2_with fail
      refine (eqIntS_c o11.si o3.si).mono ?_
      rintro e w20 ⟨rfl, b20⟩
      have B20 := below_step B19 b20
      replace o3 := o3.below b20
      replace o6 := o6.below b20
      replace o11 := o11.below b20
      go_wp2_with fail
      refine (heldIntS_c o6.si (by omega) (by omega)).mono ?_
      rintro e w21 ⟨rfl, b21⟩
      have B21 := below_step B20 b21
      replace o3 := o3.below b21
      replace o6 := o6.below b21
      replace o11 := o11.below b21
      go_wp2_with fail
      go_ret
      exact ⟨rfl, B21⟩
    · go_enter Try.func7, Try.ntmps7
      go_wp2_with fail
      go_ret
      exact ⟨rfl, Below.refl _ _⟩
  · go_enter Try.func7, Try.ntmps7
    go_wp2_with fail
    go_ret
    exact ⟨rfl, Below.refl _ _⟩

set_option maxRecDepth 100000 in
theorem lifted (os : Os) (started : os.Started) (H : Type) (enc : TypeId × Value → H) :
    ReturnsInHanded {} Try.checked os 7 .any (Rows.fnExactClockJoinSpec.pre6 enc Try.prog Try.f7 Rows.fnExactClockJoinRow.domain false) (Rows.fnExactClockJoinSpec.post enc Try.prog Try.f7 false true false false) := by
  refine returnsInHanded_of_change (C := Try.checked) own started (by kernel_rfl) Try.func7
    (ChangeSpec.witness6 (enc := enc) (C := Try.checked) false ⟨#[], #[.slice none 0 0, .slice none 0 0], []⟩ 8 (by kernel_rfl) (by kernel_rfl) (by kernel_rfl) (by kernel_rfl)) ?_
  intro W base args ds gs before hval0 hW hcnd _
  have hval : ∀ (j : Nat) t v, Try.f7.params[j]? = some t → args[j]? = some v → Value.okWide Try.prog W .any base t v := hval0
  have hW' := hW
  obtain ⟨p, q, hA0, hV, rfl, hfz, hnd⟩ := hW
  have hA : DataW.TrodAll enc Try.prog W 0 (fun _ => true) true Try.f7.params.toList args.toList ds p := hA0
  rw [Try.params7] at hA hval
  obtain ⟨v0, vs0, d0, ds0, p0, q0, hargs, rfl, rfl, h0, r0⟩ := trodAll_cons hA
  obtain ⟨v1, vs1, d1, ds1, p1, q1, rfl, rfl, rfl, h1, r1⟩ := trodAll_cons r0
  obtain ⟨rfl, rfl, rfl⟩ := trodAll_nil r1
  obtain rfl : args = #[v0, v1] := by cases args; simp_all
  obtain ⟨rfl, rfl⟩ := trodVars_none hV
  have k0 := h0
  have lt0 : ∀ x ∈ p0, x.block < W.heap.size := by obtain ⟨m, hm⟩ := k0; exact DataW.trod_lt m _ _ _ hm
  obtain ⟨A0, n0, c0, xs0, rfl, hnc0, hmx0, R0⟩ := open_intsA (hval 0 22 v0 rfl rfl) h0
  have k1 := h1
  have lt1 : ∀ x ∈ p1, x.block < W.heap.size := by obtain ⟨m, hm⟩ := k1; exact DataW.trod_lt m _ _ _ hm
  obtain ⟨A1, n1, c1, xs1, rfl, hnc1, hmx1, R1⟩ := open_intsA (hval 1 22 v1 rfl rfl) h1
  clear hA0 hval0
  refine (walk A0 n0 c0 xs0 A1 n1 c1 xs1 W hnc0 hmx0 R0 hnc1 hmx1 R1).mono fun e W' ⟨he, bel⟩ => ?_
  subst he
  exact ⟨_, rfl, _, _, _, [], _, [], hW', trodAll_mk1 (shut_bool Try.underlying4 _), (trodAll_cons_mk (Below.trod laidOut (by kernel_rfl) (of_decide_eq_true (by kernel_rfl)) k0 bel lt0) (trodAll_cons_mk (Below.trod laidOut (by kernel_rfl) (of_decide_eq_true (by kernel_rfl)) k1 bel lt1) trodAll_mk0)), rfl, bel.frame _, fun h => by cases h⟩

theorem proved : Rows.FnExactClockJoinSaid :=
  OpenClaim.holds_of_wide 7 Try.f7 rfl rfl rfl rfl rfl rfl rfl ⟨rfl, rfl, rfl, rfl, rfl⟩ rfl rfl rfl rfl rfl (by kernel_rfl) Try.func7 (by kernel_rfl)
    (of_decide_eq_true (by kernel_rfl)) (by unfold Func.isWrapper; first | (rw [if_pos (by decide +kernel)]; kernel_rfl) | (rw [if_neg (by decide +kernel)]; exact ⟨rfl, rfl⟩))
    (fun os started H enc _ => lifted os started H enc)
end Go.Proofs.Ytbedmkcnelbhkaa.exactClockJoin
