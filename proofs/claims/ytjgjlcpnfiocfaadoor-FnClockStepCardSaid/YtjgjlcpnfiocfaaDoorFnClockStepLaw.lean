/- FnClockStep: a clock is before its stepped one, and not behind it. The card ties the listed variables to the program's text; the law's road does not look into them. -/
import Derived.Deep.RegionHeld3
import Derived.Test.YtjgjlcpnfiocfaaDoorOpenD
import Derived.Test.YtjgjlcpnfiocfaaDoorDraws
import Derived.Test.YtjgjlcpnfiocfaaDoorSame
import Derived.Test.YtjgjlcpnfiocfaaDoorClockP
namespace Go.Proofs.YtjgjlcpnfiocfaaDoor.fnClockStep
open Go.ChangeShapes Go.WideShapes Go.ChangeAt Go.RowKit

set_option maxRecDepth 100000 in
set_option maxHeartbeats 16000000 in
theorem walk (A : Option Addr) (n c : Nat) (w : World) (hnc : n ≤ c) (hmx : c ≤ maxLen) (hb : BY w w.heap.size A n) :
    Calls Tryd.prog 8 #[.slice A n c] w fun e w' => e = .returned (.bool true) ∧ Below w.heap.size w w' := by
  by_cases hn : n ≤ 1048576
  · go_enter Tryd.func8, Tryd.ntmps8
    go_wp2_with fail
    refine (DrawClockStep_c hnc hmx hb).mono ?_
    rintro e w1 ⟨u, k, xs, x, rfl, o1, x0, x1, b1⟩
    have B1 := b1
    obtain ⟨p, hp⟩ : ∃ p, stepOk xs x = p := ⟨_, rfl⟩
    have P := hide hp; clear hp
    go_wp2_with fail
    refine (impl_ClockStep_c (at_ := x) o1.si).mono ?_
    rintro e w2 ⟨v, m, rfl, o2, b2⟩
    have B2 := below_step B1 b2
    replace o1 := o1.below b2
    rw [P.out]
    go_wp2_with fail
    refine (spec_ClockStep_c (at_ := x) o1.si).mono ?_
    rintro e w3 ⟨v', m', rfl, o3, b3⟩
    have B3 := below_step B2 b3
    replace o1 := o1.below b3
    replace o2 := o2.below b3
    rw [P.out]
    go_wp2_with fail
    refine (sameInts_c o2.si o3.si).mono ?_
    rintro e w4 ⟨rfl, b4⟩
    have B4 := below_step B3 b4
    replace o1 := o1.below b4
    replace o2 := o2.below b4
    replace o3 := o3.below b4
    rw [decide_eq_true rfl]
    cases p
    · cases hc : clockB xs
      · have hs : stepL xs x = [] := by simp [stepL, hc]
        have hm : m = 0 := by have := o2.len; rw [hs] at this; simpa using this.symm
        subst hm
        clear hs
        obtain ⟨A2, c2, rfl⟩ := o2.shape
        obtain ⟨r, hr⟩ : ∃ r, decide (stepL xs x = xs) = r := ⟨_, rfl⟩
        have R := hide hr; clear hr hc
        go_wp2_with fail
        refine (sameInts_c o2.si o1.si).mono ?_
        rintro e w5 ⟨rfl, b5⟩
        have B5 := below_step B4 b5
        replace o1 := o1.below b5
        replace o2 := o2.below b5
        replace o3 := o3.below b5
        rw [R.out]
        cases r
        all_goals
          go_wp2_with fail
          refine (alive_c).mono ?_
          rintro e w6 ⟨rfl, b6⟩
          have B6 := below_step B5 b6
          replace o1 := o1.below b6
          replace o2 := o2.below b6
          replace o3 := o3.below b6
          go_wp2_with fail
          go_ret
          exact ⟨rfl, B6⟩
      · have hs : stepL xs x = xs := by simp [stepL, hc, P.out]
        have HS := hide hs; clear hs hc
        go_wp2_with fail
        refine (sameInts_c o2.si o1.si).mono ?_
        rintro e w5 ⟨rfl, b5⟩
        have B5 := below_step B4 b5
        replace o1 := o1.below b5
        replace o2 := o2.below b5
        replace o3 := o3.below b5
        rw [decide_eq_true HS.out]
        go_wp2_with fail
        refine (alive_c).mono ?_
        rintro e w6 ⟨rfl, b6⟩
        have B6 := below_step B5 b6
        replace o1 := o1.below b6
        replace o2 := o2.below b6
        replace o3 := o3.below b6
        go_wp2_with fail
        go_ret
        exact ⟨rfl, B6⟩
    · obtain ⟨l1, l2, j, z, hj, hj4, hz, hz1, z0, z1, hl2, hl1⟩ := step_law P.out
      subst hj
      have L1 := hide l1; have L2 := hide l2; clear l1 l2
      have e4 : m = 4 := by rw [← o2.len, hl2]
      have e5 : k = 4 := by rw [← o1.len, hl1]
      subst e4; subst e5; clear hl1 hl2
      obtain ⟨A1, c1, rfl, _, _, R1⟩ := o1.si
      obtain ⟨A2, c2, rfl, _, _, R2⟩ := o2.si
      obtain ⟨q1, f1, y1, rfl, hq1, hy1, hcy1⟩ := R1.at_ hj4
      obtain ⟨q2, f2, y2, rfl, hq2, hy2, hcy2⟩ := R2.at_ hj4
      rw [hz] at hy1; injection hy1 with hy1; subst hy1
      rw [hz1] at hy2; injection hy2 with hy2; subst hy2
      have j0 : (0 : Int) ≤ j := by omega
      have j4 : (j : Int) < 4 := by omega
      have wz : IntKind.i64.wrap (z + 1) = z + 1 := by rw [IntKind.wrap_i64]; omega
      clear hz hz1 R1 R2 x0 x1
      go_wp2_with fail
      go_region_held3 (fun W => W.cell? ⟨q2, f2 + j, none⟩ = some (.int .i64 (z + 1)) ∧ W.cell? ⟨q1, f1 + j, none⟩ = some (.int .i64 z))
        (first | (go_keep; done) | (go_split_ands; refine ⟨?_, ?_⟩ <;> (first | (rw [by2.cell (by have := by1.size; simp at *; omega)]; assumption) | (rw [by1.cell (by first | exact hq1 | exact hq2)]; assumption))))
        (first | ((with_reducible refine (impl_ClockBefore_c o1.drew.si o2.drew.si).mono ?_); rintro e y1 ⟨rfl, by1⟩; rw [L1.out]) | ((with_reducible refine (impl_ClockBefore_c (o2.drew.below by1).si (o1.drew.below by1).si).mono ?_); rintro e y2 ⟨rfl, by2⟩; rw [L2.out]))
      replace by1 := below_of_drew by1
      have BF := below_step (below_step B4 by1) by2
      go_wp2_with fail
      go_ret
      exact ⟨rfl, BF⟩
  · go_enter Tryd.func8, Tryd.ntmps8
    go_wp2_with fail
    go_ret
    exact ⟨rfl, Below.refl _ _⟩

theorem door_met (os : Os) (args : Array Value) : laidMetH Tryd.prog Rows.fnClockStepRow.laid ((World.doorLaid Tryd.prog 24 os).forCall (fun _ _ => 0) ⟨#[], args, []⟩).memory :=
  laidMetH_of_parts3 (fuel := 8) (laidMet_of_run' 8 (by kernel_rfl) (by kernel_rfl)) (by kernel_rfl) (by kernel_rfl)
set_option maxRecDepth 100000 in
theorem lifted (os : Os) (started : os.Started) (H : Type) (enc : TypeId × Value → H) :
    ReturnsInHanded {} Tryd.checked os 8 .any (fun w args => (Rows.fnClockStepSpec.pre enc Tryd.prog Tryd.f8 [] false w args ∧ laidMetH Tryd.prog Rows.fnClockStepRow.laid w) ∧ sizedMet enc Tryd.prog Tryd.f8 (OpenSpec.ofChange Rows.fnClockStepSpec) false w args)
      (Rows.fnClockStepSpec.post enc Tryd.prog Tryd.f8 false true false false) := by
  refine returnsInHanded_of_change_and (C := Tryd.checked) (X := fun w _ => laidMetH Tryd.prog Rows.fnClockStepRow.laid w) (fun _ _ _ hh h => h.of_heap hh) own started (by kernel_rfl) Tryd.func8
    (ChangeSpec.witness_shaped (enc := enc) (C := Tryd.checked) (os := os) (X := fun w _ => laidMetH Tryd.prog Rows.fnClockStepRow.laid w) false (World.doorLaid Tryd.prog 24 os) #[.slice none 0 0] 8 rfl (World.shaped_of_RefB (by kernel_rfl) (by kernel_rfl)) (by kernel_rfl) (by kernel_rfl) (by kernel_rfl) (door_met os _)) ?_
  intro W base args ds gs before hval0 hW _ _ _ _
  have hval : ∀ (j : Nat) t v, Tryd.f8.params[j]? = some t → args[j]? = some v → Value.okWide Tryd.prog W .any base t v := hval0
  have hW' := hW
  obtain ⟨p, q, hA0, hV, rfl, hfz, hnd⟩ := hW
  have hA : DataW.TrodAll enc Tryd.prog W 0 (fun _ => true) true Tryd.f8.params.toList args.toList ds p := hA0
  rw [Tryd.params8] at hA hval
  obtain ⟨v0, vs0, d0, ds0, p0, q0, hargs, rfl, rfl, h0, r0⟩ := trodAll_cons hA
  obtain ⟨rfl, rfl, rfl⟩ := trodAll_nil r0
  obtain rfl : args = #[v0] := by cases args; simp_all
  obtain ⟨rfl, rfl⟩ := trodVars_none hV
  have k0 := h0
  have lt0 : ∀ x ∈ p0, x.block < W.heap.size := by obtain ⟨m, hm⟩ := k0; exact DataW.trod_lt m _ _ _ hm
  obtain ⟨A0, n0, c0, rfl, hnc0, hmx0, R0⟩ := open_bytesA (hval 0 22 v0 rfl rfl) h0
  clear hA0 hval0
  refine (walk A0 n0 c0 W hnc0 hmx0 R0).mono fun e W' ⟨he, bel⟩ => ?_
  subst he
  exact ⟨_, rfl, _, _, _, [], _, [], hW', trodAll_mk1 (shut_bool Tryd.underlying4 _), (trodAll_cons_mk (Below.trod laidOut (by kernel_rfl) (of_decide_eq_true (by kernel_rfl)) k0 bel lt0) trodAll_mk0), rfl, bel.frame _, fun h => by cases h⟩
theorem row_holds : Rows.FnClockStepSaid :=
  OpenClaim.holds_of_wide 8 Tryd.f8 rfl rfl rfl rfl rfl rfl rfl ⟨rfl, rfl, rfl, rfl, rfl⟩ rfl rfl rfl rfl rfl (by kernel_rfl) Tryd.func8 (by kernel_rfl)
    (of_decide_eq_true (by kernel_rfl)) (by unfold Func.isWrapper; first | (rw [if_pos (by decide +kernel)]; kernel_rfl) | (rw [if_neg (by decide +kernel)]; exact ⟨rfl, rfl⟩))
    (fun os started H enc _ => lifted os started H enc)
theorem proved : Rows.FnClockStepCardSaid :=
  Claim7.holds_tied_plain_at .later [] [.data, .data, .data] true (true, "f2c1c1767bf673cc075bf186ddbc47504e5f3e3506e78108f3e747c99c658025") false
    row_holds (fun _ h => by cases h) (by kernel_rfl) (fun _ h => by cases h) fnClockStep_row_tie rfl ⟨rfl, rfl⟩ (by kernel_rfl) rfl
    (fun f fn hf hfn => by
      obtain rfl : f = 8 := Option.some.inj ((show Tryd.prog.funcNamed "loop.example/historychecker/laws.FnClockStep" = some 8 by kernel_rfl).symm.trans hf) |>.symm
      obtain rfl : fn = Tryd.f8 := (Option.some.inj (Tryd.func8.symm.trans hfn)).symm
      exact ⟨by kernel_rfl, fun j t ht => by
        rw [Tryd.params8] at ht
        have hm : t ∈ [22] := by simpa using Array.mem_of_getElem? ht
        have hall : ([22].all fun u => !Tryd.prog.wantsStandIn u) = true := by kernel_rfl
        exact (show Tryd.prog.wantsStandIn t = false by simpa using List.all_eq_true.1 hall t hm)⟩)
    (by kernel_rfl)
end Go.Proofs.YtjgjlcpnfiocfaaDoor.fnClockStep
