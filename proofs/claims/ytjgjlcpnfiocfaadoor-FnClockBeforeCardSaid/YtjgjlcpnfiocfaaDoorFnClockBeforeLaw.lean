/- FnClockBefore: a clock is before itself; if each of two is before the other one, they are equal. The card ties the listed variables to the program's text; the law's road does not look into them. -/
import Derived.Test.YtjgjlcpnfiocfaaDoorOpenD
import Derived.Test.YtjgjlcpnfiocfaaDoorDraws
import Derived.Test.YtjgjlcpnfiocfaaDoorSame
namespace Go.Proofs.YtjgjlcpnfiocfaaDoor.fnClockBefore
open Go.ChangeShapes Go.WideShapes Go.ChangeAt Go.RowKit

theorem leAll_refl : ∀ xs : List Int, leAll xs xs = true := by
  intro xs; induction xs with
  | nil => rfl
  | cons a xs ih => simp [leAll, ih]
theorem before_self (xs : List Int) : beforeB xs xs = clockB xs := by unfold beforeB; rw [leAll_refl]; simp
theorem leAll_anti : ∀ xs ys : List Int, xs.length = ys.length → leAll xs ys = true → leAll ys xs = true → xs = ys := by
  intro xs; induction xs with
  | nil => intro ys h _ _; cases ys with
    | nil => rfl
    | cons b ys => simp at h
  | cons a xs ih => intro ys h h1 h2; cases ys with
    | nil => simp at h
    | cons b ys =>
      simp only [leAll, Bool.and_eq_true, decide_eq_true_eq] at h1 h2
      have := ih ys (by simpa using h) h1.2 h2.2
      rw [this]; congr 1; omega
theorem before_anti {xs ys : List Int} (h1 : beforeB xs ys = true) (h2 : beforeB ys xs = true) : xs = ys := by
  simp only [beforeB, Bool.and_eq_true] at h1 h2
  exact leAll_anti xs ys (by rw [((clockB_iff _).1 h1.1.1).1, ((clockB_iff _).1 h1.1.2).1]) h1.2 h2.2

set_option maxRecDepth 100000 in
set_option maxHeartbeats 16000000 in
theorem walk (A : Option Addr) (n c : Nat) (w : World) (hnc : n ≤ c) (hmx : c ≤ maxLen) (hb : BY w w.heap.size A n) :
    Calls Tryd.prog 7 #[.slice A n c] w fun e w' => e = .returned (.bool true) ∧ Below w.heap.size w w' := by
  by_cases hn : n ≤ 1048576
  · go_enter Tryd.func7, Tryd.ntmps7
    go_wp2_with fail
    refine (DrawClockBefore_c hnc hmx hb).mono ?_
    rintro e w1 ⟨u, k, xs, v, m, ys, rfl, o1, o2, b1⟩
    have B1 := b1
    obtain ⟨p, hp⟩ : ∃ p, beforeB xs ys = p := ⟨_, rfl⟩
    obtain ⟨q, hq⟩ : ∃ p, beforeB ys xs = p := ⟨_, rfl⟩
    obtain ⟨r, hr⟩ : ∃ p, clockB xs = p := ⟨_, rfl⟩
    have P := hide hp; have Q := hide hq; have R := hide hr; clear hp hq hr
    go_wp2_with fail
    refine (impl_ClockBefore_c o1.si o2.si).mono ?_
    rintro e w2 ⟨rfl, b2⟩
    have B2 := below_step B1 b2
    replace o1 := o1.below b2
    replace o2 := o2.below b2
    rw [P.out]
    go_wp2_with fail
    refine (spec_ClockBefore_c o1.si o2.si).mono ?_
    rintro e w3 ⟨rfl, b3⟩
    have B3 := below_step B2 b3
    replace o1 := o1.below b3
    replace o2 := o2.below b3
    rw [P.out]
    cases p
    · go_wp2_with fail
      refine (impl_ClockBefore_c o1.si o1.si).mono ?_
      rintro e w4 ⟨rfl, b4⟩
      have B4 := below_step B3 b4
      replace o1 := o1.below b4
      replace o2 := o2.below b4
      rw [before_self, R.out]
      go_wp2_with fail
      refine (impl_ClockValid_c o1.si).mono ?_
      rintro e w5 ⟨rfl, b5⟩
      have B5 := below_step B4 b5
      replace o1 := o1.below b5
      replace o2 := o2.below b5
      rw [R.out]
      cases r <;> skip
      all_goals
        go_wp2_with fail
        refine (alive_c).mono ?_
        rintro e w6 ⟨rfl, b6⟩
        have B6 := below_step B5 b6
        replace o1 := o1.below b6
        replace o2 := o2.below b6
        go_wp2_with fail
        go_ret
        exact ⟨rfl, B6⟩
    · go_wp2_with fail
      refine (impl_ClockBefore_c o1.si o1.si).mono ?_
      rintro e w4 ⟨rfl, b4⟩
      have B4 := below_step B3 b4
      replace o1 := o1.below b4
      replace o2 := o2.below b4
      rw [before_self, R.out]
      go_wp2_with fail
      refine (impl_ClockValid_c o1.si).mono ?_
      rintro e w5 ⟨rfl, b5⟩
      have B5 := below_step B4 b5
      replace o1 := o1.below b5
      replace o2 := o2.below b5
      rw [R.out]
      cases q
      · cases r
        all_goals
          go_wp2_with fail
          refine (impl_ClockBefore_c o2.si o1.si).mono ?_
          rintro e w6 ⟨rfl, b6⟩
          have B6 := below_step B5 b6
          replace o1 := o1.below b6
          replace o2 := o2.below b6
          rw [Q.out]
          go_wp2_with fail
          refine (alive_c).mono ?_
          rintro e w7 ⟨rfl, b7⟩
          have B7 := below_step B6 b7
          replace o1 := o1.below b7
          replace o2 := o2.below b7
          go_wp2_with fail
          go_ret
          exact ⟨rfl, B7⟩
      · cases r
        all_goals
          go_wp2_with fail
          refine (impl_ClockBefore_c o2.si o1.si).mono ?_
          rintro e w6 ⟨rfl, b6⟩
          have B6 := below_step B5 b6
          replace o1 := o1.below b6
          replace o2 := o2.below b6
          rw [Q.out]
          go_wp2_with fail
          refine (sameInts_c o1.si o2.si).mono ?_
          rintro e w7 ⟨rfl, b7⟩
          have B7 := below_step B6 b7
          replace o1 := o1.below b7
          replace o2 := o2.below b7
          rw [decide_eq_true (before_anti P.out Q.out)]
          go_wp2_with fail
          refine (alive_c).mono ?_
          rintro e w8 ⟨rfl, b8⟩
          have B8 := below_step B7 b8
          replace o1 := o1.below b8
          replace o2 := o2.below b8
          go_wp2_with fail
          go_ret
          exact ⟨rfl, B8⟩
  · go_enter Tryd.func7, Tryd.ntmps7
    go_wp2_with fail
    go_ret
    exact ⟨rfl, Below.refl _ _⟩

theorem door_met (os : Os) (args : Array Value) : laidMetH Tryd.prog Rows.fnClockBeforeRow.laid ((World.doorLaid Tryd.prog 24 os).forCall (fun _ _ => 0) ⟨#[], args, []⟩).memory :=
  laidMetH_of_parts3 (fuel := 8) (laidMet_of_run' 8 (by kernel_rfl) (by kernel_rfl)) (by kernel_rfl) (by kernel_rfl)
set_option maxRecDepth 100000 in
theorem lifted (os : Os) (started : os.Started) (H : Type) (enc : TypeId × Value → H) :
    ReturnsInHanded {} Tryd.checked os 7 .any (fun w args => (Rows.fnClockBeforeSpec.pre enc Tryd.prog Tryd.f7 [] false w args ∧ laidMetH Tryd.prog Rows.fnClockBeforeRow.laid w) ∧ sizedMet enc Tryd.prog Tryd.f7 (OpenSpec.ofChange Rows.fnClockBeforeSpec) false w args)
      (Rows.fnClockBeforeSpec.post enc Tryd.prog Tryd.f7 false true false false) := by
  refine returnsInHanded_of_change_and (C := Tryd.checked) (X := fun w _ => laidMetH Tryd.prog Rows.fnClockBeforeRow.laid w) (fun _ _ _ hh h => h.of_heap hh) own started (by kernel_rfl) Tryd.func7
    (ChangeSpec.witness_shaped (enc := enc) (C := Tryd.checked) (os := os) (X := fun w _ => laidMetH Tryd.prog Rows.fnClockBeforeRow.laid w) false (World.doorLaid Tryd.prog 24 os) #[.slice none 0 0] 8 rfl (World.shaped_of_RefB (by kernel_rfl) (by kernel_rfl)) (by kernel_rfl) (by kernel_rfl) (by kernel_rfl) (door_met os _)) ?_
  intro W base args ds gs before hval0 hW _ _ _ _
  have hval : ∀ (j : Nat) t v, Tryd.f7.params[j]? = some t → args[j]? = some v → Value.okWide Tryd.prog W .any base t v := hval0
  have hW' := hW
  obtain ⟨p, q, hA0, hV, rfl, hfz, hnd⟩ := hW
  have hA : DataW.TrodAll enc Tryd.prog W 0 (fun _ => true) true Tryd.f7.params.toList args.toList ds p := hA0
  rw [Tryd.params7] at hA hval
  obtain ⟨v0, vs0, d0, ds0, p0, q0, hargs, rfl, rfl, h0, r0⟩ := trodAll_cons hA
  obtain ⟨rfl, rfl, rfl⟩ := trodAll_nil r0
  obtain rfl : args = #[v0] := by cases args; simp_all
  obtain ⟨rfl, rfl⟩ := trodVars_none hV
  have k0 := h0
  have lt0 : ∀ x ∈ p0, x.block < W.heap.size := by obtain ⟨m, hm⟩ := k0; exact DataW.trod_lt m _ _ _ hm
  obtain ⟨A0, n0, c0, rfl, hnc0, hmx0, R0⟩ := open_bytesA (hval 0 22 v0 rfl rfl) h0
  clear hA0 hval0
  refine (walk A0 n0 c0 W hnc0 hmx0 R0).mono fun e W' ⟨he, bel⟩ => ?_
  subst he
  exact ⟨_, rfl, _, _, _, [], _, [], hW', trodAll_mk1 (shut_bool Tryd.underlying4 _), (trodAll_cons_mk (Below.trod laidOut (by kernel_rfl) (of_decide_eq_true (by kernel_rfl)) k0 bel lt0) trodAll_mk0), rfl, bel.frame _, fun h => by cases h⟩
theorem row_holds : Rows.FnClockBeforeSaid :=
  OpenClaim.holds_of_wide 7 Tryd.f7 rfl rfl rfl rfl rfl rfl rfl ⟨rfl, rfl, rfl, rfl, rfl⟩ rfl rfl rfl rfl rfl (by kernel_rfl) Tryd.func7 (by kernel_rfl)
    (of_decide_eq_true (by kernel_rfl)) (by unfold Func.isWrapper; first | (rw [if_pos (by decide +kernel)]; kernel_rfl) | (rw [if_neg (by decide +kernel)]; exact ⟨rfl, rfl⟩))
    (fun os started H enc _ => lifted os started H enc)
theorem proved : Rows.FnClockBeforeCardSaid :=
  Claim7.holds_tied_plain_at .later [] [.data, .data, .data] true (true, "f2c1c1767bf673cc075bf186ddbc47504e5f3e3506e78108f3e747c99c658025") false
    row_holds (fun _ h => by cases h) (by kernel_rfl) (fun _ h => by cases h) fnClockBefore_row_tie rfl ⟨rfl, rfl⟩ (by kernel_rfl) rfl
    (fun f fn hf hfn => by
      obtain rfl : f = 7 := Option.some.inj ((show Tryd.prog.funcNamed "loop.example/historychecker/laws.FnClockBefore" = some 7 by kernel_rfl).symm.trans hf) |>.symm
      obtain rfl : fn = Tryd.f7 := (Option.some.inj (Tryd.func7.symm.trans hfn)).symm
      exact ⟨by kernel_rfl, fun j t ht => by
        rw [Tryd.params7] at ht
        have hm : t ∈ [22] := by simpa using Array.mem_of_getElem? ht
        have hall : ([22].all fun u => !Tryd.prog.wantsStandIn u) = true := by kernel_rfl
        exact (show Tryd.prog.wantsStandIn t = false by simpa using List.all_eq_true.1 hall t hm)⟩)
    (by kernel_rfl)
end Go.Proofs.YtjgjlcpnfiocfaaDoor.fnClockBefore
