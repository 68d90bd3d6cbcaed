/- FnExactClockBefore: for all arguments the program's ClockBefore returns what the reference's returns, and leaves its arguments as they are; its result shares no memory.  -/
import Derived.Test.YtbedmkcnelbhkaaClockB
import Derived.Test.YtbedmkcnelbhkaaOpen
namespace Go.Proofs.Ytbedmkcnelbhkaa.exactClockBefore
open Go.ChangeShapes Go.WideShapes Go.ChangeAt Go.RowKit

set_option maxHeartbeats 4000000 in
theorem walk (A0 : Option Addr) (n0 c0 : Nat) (xs0 : List Int) (A1 : Option Addr) (n1 c1 : Nat) (xs1 : List Int) (w : World)
    (hnc0 : n0 ≤ c0) (_hmx0 : c0 ≤ maxLen) (R0 : RI w A0 n0 xs0) (hnc1 : n1 ≤ c1) (_hmx1 : c1 ≤ maxLen) (R1 : RI w A1 n1 xs1) :
    Calls Try.prog 4 #[.slice A0 n0 c0, .slice A1 n1 c1] w fun e w' => e = .returned (.bool true) ∧ Below w.heap.size w w' := by
  by_cases hn0 : n0 ≤ 1048576
  · skip
    by_cases hn1 : n1 ≤ 1048576
    · skip
      go_enter Try.func4, Try.ntmps4
      go_wp2_with fail
      refine (toIntS_c ⟨_, _, rfl, hnc0, hn0, (R0.below (Below.refl _ _))⟩).mono ?_
      rintro e w1 ⟨v1, rfl, o1, b1⟩
      have bl1 : w.heap.size ≤ w.heap.size := Nat.le_refl _
      have B1 := below_step (Below.refl _ _) b1
      go_wp2_with fail
      refine (toIntS_c ⟨_, _, rfl, hnc1, hn1, (R1.below B1)⟩).mono ?_
      rintro e w2 ⟨v2, rfl, o2, b2⟩
      have bl2 : w.heap.size ≤ w1.heap.size := B1.size
      have B2 := below_step B1 b2
      have ap1_2 := OI.apart o1 o2
      replace o1 := o1.below b2
      go_wp2_with fail
      refine (spec_ClockBefore_c o1.si o2.si).mono ?_
      rintro e w3 ⟨rfl, b3⟩
      have B3 := below_step B2 b3
      replace o1 := o1.below b3
      replace o2 := o2.below b3
      clear o1
      clear o2
      go_wp2_with fail
      refine (toIntS_c ⟨_, _, rfl, hnc0, hn0, (R0.below B3)⟩).mono ?_
      rintro e w4 ⟨v3, rfl, o3, b4⟩
      have bl3 : w.heap.size ≤ w3.heap.size := B3.size
      have B4 := below_step B3 b4
      go_wp2_with fail
      refine (toIntS_c ⟨_, _, rfl, hnc1, hn1, (R1.below B4)⟩).mono ?_
      rintro e w5 ⟨v4, rfl, o4, b5⟩
      have bl4 : w.heap.size ≤ w4.heap.size := B4.size
      have B5 := below_step B4 b5
      have ap3_4 := OI.apart o3 o4
      replace o3 := o3.below b5
      go_wp2_with fail
      refine (impl_ClockBefore_c o3.si o4.si).mono ?_
      rintro e w6 ⟨rfl, b6⟩
      have B6 := below_step B5 b6
      replace o3 := o3.below b6
      replace o4 := o4.below b6
      go_wp2_with fail
      refine (toIntS_c ⟨_, _, rfl, hnc0, hn0, (R0.below B6)⟩).mono ?_
      rintro e w7 ⟨v5, rfl, o5, b7⟩
      have bl5 : w.heap.size ≤ w6.heap.size := B6.size
      have B7 := below_step B6 b7
      have ap3_5 := OI.apart o3 o5
      have ap4_5 := OI.apart o4 o5
      replace o3 := o3.below b7
      replace o4 := o4.below b7
      go_wp2_with fail
      refine (eqIntS_c o3.si o5.si).mono ?_
      rintro e w8 ⟨rfl, b8⟩
      have B8 := below_step B7 b8
      replace o3 := o3.below b8
      replace o4 := o4.below b8
      replace o5 := o5.below b8
      clear o5
      go_wp2_with fail
      refine (toIntS_c ⟨_, _, rfl, hnc1, hn1, (R1.below B8)⟩).mono ?_
      rintro e w9 ⟨v6, rfl, o6, b9⟩
      have bl6 : w.heap.size ≤ w8.heap.size := B8.size
      have B9 := below_step B8 b9
      have ap3_6 := OI.apart o3 o6
      have ap4_6 := OI.apart o4 o6
      replace o3 := o3.below b9
      replace o4 := o4.below b9
      go_wp2_with fail
      refine (eqIntS_c o4.si o6.si).mono ?_
      rintro e w10 ⟨rfl, b10⟩
      have B10 := below_step B9 b10
      replace o3 := o3.below b10
      replace o4 := o4.below b10
      replace o6 := o6.below b10
      clear o6
      go_wp2_with fail
      go_ret
      exact ⟨rfl, B10⟩
    · go_enter Try.func4, Try.ntmps4
      go_wp2_with fail
      go_ret
      exact ⟨rfl, Below.refl _ _⟩
  · go_enter Try.func4, Try.ntmps4
    go_wp2_with fail
    go_ret
    exact ⟨rfl, Below.refl _ _⟩

set_option maxRecDepth 100000 in
theorem lifted (os : Os) (started : os.Started) (H : Type) (enc : TypeId × Value → H) :
    ReturnsInHanded {} Try.checked os 4 .any (Rows.fnExactClockBeforeSpec.pre6 enc Try.prog Try.f4 Rows.fnExactClockBeforeRow.domain false) (Rows.fnExactClockBeforeSpec.post enc Try.prog Try.f4 false true false false) := by
  refine returnsInHanded_of_change (C := Try.checked) own started (by kernel_rfl) Try.func4
    (ChangeSpec.witness6 (enc := enc) (C := Try.checked) false ⟨#[], #[.slice none 0 0, .slice none 0 0], []⟩ 8 (by kernel_rfl) (by kernel_rfl) (by kernel_rfl) (by kernel_rfl)) ?_
  intro W base args ds gs before hval0 hW hcnd _
  have hval : ∀ (j : Nat) t v, Try.f4.params[j]? = some t → args[j]? = some v → Value.okWide Try.prog W .any base t v := hval0
  have hW' := hW
  obtain ⟨p, q, hA0, hV, rfl, hfz, hnd⟩ := hW
  have hA : DataW.TrodAll enc Try.prog W 0 (fun _ => true) true Try.f4.params.toList args.toList ds p := hA0
  rw [Try.params4] at hA hval
  obtain ⟨v0, vs0, d0, ds0, p0, q0, hargs, rfl, rfl, h0, r0⟩ := trodAll_cons hA
  obtain ⟨v1, vs1, d1, ds1, p1, q1, rfl, rfl, rfl, h1, r1⟩ := trodAll_cons r0
  obtain ⟨rfl, rfl, rfl⟩ := trodAll_nil r1
  obtain rfl : args = #[v0, v1] := by cases args; simp_all
  obtain ⟨rfl, rfl⟩ := trodVars_none hV
  have k0 := h0
  have lt0 : ∀ x ∈ p0, x.block < W.heap.size := by obtain ⟨m, hm⟩ := k0; exact DataW.trod_lt m _ _ _ hm
  obtain ⟨A0, n0, c0, xs0, rfl, hnc0, hmx0, R0⟩ := open_intsA (hval 0 22 v0 rfl rfl) h0
  have k1 := h1
  have lt1 : ∀ x ∈ p1, x.block < W.heap.size := by obtain ⟨m, hm⟩ := k1; exact DataW.trod_lt m _ _ _ hm
  obtain ⟨A1, n1, c1, xs1, rfl, hnc1, hmx1, R1⟩ := open_intsA (hval 1 22 v1 rfl rfl) h1
  clear hA0 hval0
  refine (walk A0 n0 c0 xs0 A1 n1 c1 xs1 W hnc0 hmx0 R0 hnc1 hmx1 R1).mono fun e W' ⟨he, bel⟩ => ?_
  subst he
  exact ⟨_, rfl, _, _, _, [], _, [], hW', trodAll_mk1 (shut_bool Try.underlying4 _), (trodAll_cons_mk (Below.trod laidOut (by kernel_rfl) (of_decide_eq_true (by kernel_rfl)) k0 bel lt0) (trodAll_cons_mk (Below.trod laidOut (by kernel_rfl) (of_decide_eq_true (by kernel_rfl)) k1 bel lt1) trodAll_mk0)), rfl, bel.frame _, fun h => by cases h⟩

theorem proved : Rows.FnExactClockBeforeSaid :=
  OpenClaim.holds_of_wide 4 Try.f4 rfl rfl rfl rfl rfl rfl rfl ⟨rfl, rfl, rfl, rfl, rfl⟩ rfl rfl rfl rfl rfl (by kernel_rfl) Try.func4 (by kernel_rfl)
    (of_decide_eq_true (by kernel_rfl)) (by unfold Func.isWrapper; first | (rw [if_pos (by decide +kernel)]; kernel_rfl) | (rw [if_neg (by decide +kernel)]; exact ⟨rfl, rfl⟩))
    (fun os started H enc _ => lifted os started H enc)
end Go.Proofs.Ytbedmkcnelbhkaa.exactClockBefore
