/- FnExactClockValid: for all arguments the program's ClockValid returns what the reference's returns, and leaves its arguments as they are; its result shares no memory.  -/
import Derived.Test.YtbedmkcnelbhkaaClock
import Derived.Test.YtbedmkcnelbhkaaOpen
namespace Go.Proofs.Ytbedmkcnelbhkaa.exactClockValid
open Go.ChangeShapes Go.WideShapes Go.ChangeAt Go.RowKit

set_option maxHeartbeats 4000000 in
theorem walk (A0 : Option Addr) (n0 c0 : Nat) (xs0 : List Int) (w : World)
    (hnc0 : n0 ≤ c0) (_hmx0 : c0 ≤ maxLen) (R0 : RI w A0 n0 xs0) :
    Calls Try.prog 3 #[.slice A0 n0 c0] w fun e w' => e = .returned (.bool true) ∧ Below w.heap.size w w' := by
  by_cases hn0 : n0 ≤ 1048576
  · skip
    go_enter Try.func3, Try.ntmps3
    go_wp2_with fail
    refine (toIntS_c ⟨_, _, rfl, hnc0, hn0, (R0.below (Below.refl _ _))⟩).mono ?_
    rintro e w1 ⟨v1, rfl, o1, b1⟩
    have bl1 : w.heap.size ≤ w.heap.size := Nat.le_refl _
    have B1 := below_step (Below.refl _ _) b1
    go_wp2_with fail
    refine (spec_ClockValid_c o1.si).mono ?_
    rintro e w' ⟨rfl, rfl⟩
    clear o1
    go_wp2_with fail
    refine (toIntS_c ⟨_, _, rfl, hnc0, hn0, (R0.below B1)⟩).mono ?_
    rintro e w2 ⟨v2, rfl, o2, b2⟩
    have bl2 : w.heap.size ≤ w1.heap.size := B1.size
    have B2 := below_step B1 b2
    go_wp2_with fail
    refine (impl_ClockValid_c o2.si).mono ?_
    rintro e w3 ⟨rfl, b3⟩
    have B3 := below_step B2 b3
    replace o2 := o2.below b3
    go_wp2_with fail
    refine (toIntS_c ⟨_, _, rfl, hnc0, hn0, (R0.below B3)⟩).mono ?_
    rintro e w4 ⟨v3, rfl, o3, b4⟩
    have bl3 : w.heap.size ≤ w3.heap.size := B3.size
    have B4 := below_step B3 b4
    have ap2_3 := OI.apart o2 o3
    replace o2 := o2.below b4
    go_wp2_with fail
    refine (eqIntS_c o2.si o3.si).mono ?_
    rintro e w5 ⟨rfl, b5⟩
    have B5 := below_step B4 b5
    replace o2 := o2.below b5
    replace o3 := o3.below b5
    clear o3
    go_wp2_with fail
    go_ret
    exact ⟨rfl, B5⟩
  · go_enter Try.func3, Try.ntmps3
    go_wp2_with fail
    go_ret
    exact ⟨rfl, Below.refl _ _⟩

set_option maxRecDepth 100000 in
theorem lifted (os : Os) (started : os.Started) (H : Type) (enc : TypeId × Value → H) :
    ReturnsInHanded {} Try.checked os 3 .any (Rows.fnExactClockValidSpec.pre6 enc Try.prog Try.f3 Rows.fnExactClockValidRow.domain false) (Rows.fnExactClockValidSpec.post enc Try.prog Try.f3 false true false false) := by
  refine returnsInHanded_of_change (C := Try.checked) own started (by kernel_rfl) Try.func3
    (ChangeSpec.witness6 (enc := enc) (C := Try.checked) false ⟨#[], #[.slice none 0 0], []⟩ 8 (by kernel_rfl) (by kernel_rfl) (by kernel_rfl) (by kernel_rfl)) ?_
  intro W base args ds gs before hval0 hW hcnd _
  have hval : ∀ (j : Nat) t v, Try.f3.params[j]? = some t → args[j]? = some v → Value.okWide Try.prog W .any base t v := hval0
  have hW' := hW
  obtain ⟨p, q, hA0, hV, rfl, hfz, hnd⟩ := hW
  have hA : DataW.TrodAll enc Try.prog W 0 (fun _ => true) true Try.f3.params.toList args.toList ds p := hA0
  rw [Try.params3] at hA hval
  obtain ⟨v0, vs0, d0, ds0, p0, q0, hargs, rfl, rfl, h0, r0⟩ := trodAll_cons hA
  obtain ⟨rfl, rfl, rfl⟩ := trodAll_nil r0
  obtain rfl : args = #[v0] := by cases args; simp_all
  obtain ⟨rfl, rfl⟩ := trodVars_none hV
  have k0 := h0
  have lt0 : ∀ x ∈ p0, x.block < W.heap.size := by obtain ⟨m, hm⟩ := k0; exact DataW.trod_lt m _ _ _ hm
  obtain ⟨A0, n0, c0, xs0, rfl, hnc0, hmx0, R0⟩ := open_intsA (hval 0 22 v0 rfl rfl) h0
  clear hA0 hval0
  refine (walk A0 n0 c0 xs0 W hnc0 hmx0 R0).mono fun e W' ⟨he, bel⟩ => ?_
  subst he
  exact ⟨_, rfl, _, _, _, [], _, [], hW', trodAll_mk1 (shut_bool Try.underlying4 _), (trodAll_cons_mk (Below.trod laidOut (by kernel_rfl) (of_decide_eq_true (by kernel_rfl)) k0 bel lt0) trodAll_mk0), rfl, bel.frame _, fun h => by cases h⟩

theorem proved : Rows.FnExactClockValidSaid :=
  OpenClaim.holds_of_wide 3 Try.f3 rfl rfl rfl rfl rfl rfl rfl ⟨rfl, rfl, rfl, rfl, rfl⟩ rfl rfl rfl rfl rfl (by kernel_rfl) Try.func3 (by kernel_rfl)
    (of_decide_eq_true (by kernel_rfl)) (by unfold Func.isWrapper; first | (rw [if_pos (by decide +kernel)]; kernel_rfl) | (rw [if_neg (by decide +kernel)]; exact ⟨rfl, rfl⟩))
    (fun os started H enc _ => lifted os started H enc)
end Go.Proofs.Ytbedmkcnelbhkaa.exactClockValid
