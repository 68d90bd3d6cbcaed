/- FnMayDeliver: what may be delivered is next; once it was delivered it may not be again. The card ties the listed variables to the program's text; the law's road does not look into them. -/
import Derived.Test.YtcoienlblhbkpaaDoorOpenB
import Derived.Test.YtcoienlblhbkpaaDoorDrawM
import Derived.Test.YtcoienlblhbkpaaDoorMayP
import Derived.Test.YtcoienlblhbkpaaDoorHeld
namespace Go.Proofs.YtcoienlblhbkpaaDoor.fnMayDeliver
open Go.ChangeShapes Go.WideShapes Go.ChangeAt Go.RowKit

set_option maxRecDepth 100000 in
set_option maxHeartbeats 16000000 in
theorem walk (A : Option Addr) (n c : Nat) (w : World) (hnc : n ≤ c) (hmx : c ≤ maxLen) (hb : BY w w.heap.size A n) :
    Calls Tryd.prog 8 #[.slice A n c] w fun e w' => e = .returned (.bool true) ∧ Below w.heap.size w w' := by
  by_cases hn : n ≤ 1048576
  · go_enter Tryd.func8, Tryd.ntmps8
    go_wp2_with fail
    refine (DrawMayDeliver_c hnc hmx hb).mono ?_
    rintro e w1 ⟨A1, k1, c1, xs, f, A2, k2, c2, ys, rfl, o1, o2, b1⟩
    obtain ⟨p, hp⟩ : ∃ p, mayB xs f ys = p := ⟨_, rfl⟩
    have P := hide hp; clear hp
    have K := Blk.new w1 44 #[.int .i64 f, .slice A2 k2 c2]
    have b2 := beB0 w1 (.cells #[.int .i64 f, .slice A2 k2 c2] 44)
    have B2 := below_step b1 b2
    replace o1 := (o1.below b2).si
    replace o2 := (o2.below b2).si
    clear b1 b2
    go_wp2_with fail
    generalize w1.alloc (.cells #[.int .i64 f, .slice A2 k2 c2] 44) = w2 at *
    refine (impl_MayDeliver_c o1 o2).mono ?_
    rintro e w3 ⟨rfl, BZ⟩
    rw [P.out]
    obtain ⟨c0, c1'⟩ := K.held2 BZ
    go_wp2_with fail
    refine (spec_MayDeliver_c (o1.below BZ) (o2.below BZ)).mono ?_
    rintro e w4 ⟨rfl, b4⟩
    replace BZ := below_step BZ b4
    rw [P.out]
    clear c0 c1'
    obtain ⟨c0, c1'⟩ := K.held2 BZ
    cases p
    · go_wp2_with fail
      refine (alive_c).mono ?_
      rintro e w5 ⟨rfl, b5⟩
      go_wp2_with fail
      go_ret
      exact ⟨rfl, below_step B2 (below_step BZ b5)⟩
    · obtain ⟨l1, l2, l3⟩ := may_law P.out
      have L1 := hide l1; have L2 := hide l2; have L3 := hide l3
      clear l1 l2 l3
      go_wp2_with fail
      refine (impl_ClockStep_c (o1.below BZ)).mono ?_
      rintro e w5 ⟨v5, k5, rfl, o5, b5⟩
      replace BZ := below_step BZ b5
      replace o5 := o5.si
      obtain ⟨A5, c5, rfl⟩ := o5.shape
      rw [L1.out]
      clear c0 c1'
      obtain ⟨c0, c1'⟩ := K.held2 BZ
      go_wp2_with fail
      refine (impl_MayDeliver_c o5 (o2.below BZ)).mono ?_
      rintro e w6 ⟨rfl, b6⟩
      replace BZ := below_step BZ b6
      rw [L2.out]
      clear c0 c1'
      obtain ⟨c0, c1'⟩ := K.held2 BZ
      go_wp2_with fail
      refine (impl_ClockBefore_c (o2.below BZ) (o5.below b6)).mono ?_
      rintro e w7 ⟨rfl, b7⟩
      replace BZ := below_step BZ b7
      rw [L3.out]
      go_wp2_with fail
      go_ret
      exact ⟨rfl, below_step B2 BZ⟩
  · go_enter Tryd.func8, Tryd.ntmps8
    go_wp2_with fail
    go_ret
    exact ⟨rfl, Below.refl _ _⟩

theorem door_met (os : Os) (args : Array Value) : laidMetH Tryd.prog Rows.fnMayDeliverRow.laid ((World.doorLaid Tryd.prog 24 os).forCall (fun _ _ => 0) ⟨#[], args, []⟩).memory :=
  laidMetH_of_parts3 (fuel := 8) (laidMet_of_run' 8 (by kernel_rfl) (by kernel_rfl)) (by kernel_rfl) (by kernel_rfl)
set_option maxRecDepth 100000 in
theorem lifted (os : Os) (started : os.Started) (H : Type) (enc : TypeId × Value → H) :
    ReturnsInHanded {} Tryd.checked os 8 .any (fun w args => (Rows.fnMayDeliverSpec.pre enc Tryd.prog Tryd.f8 [] false w args ∧ laidMetH Tryd.prog Rows.fnMayDeliverRow.laid w) ∧ sizedMet enc Tryd.prog Tryd.f8 (OpenSpec.ofChange Rows.fnMayDeliverSpec) false w args)
      (Rows.fnMayDeliverSpec.post enc Tryd.prog Tryd.f8 false true false false) := by
  refine returnsInHanded_of_change_and (C := Tryd.checked) (X := fun w _ => laidMetH Tryd.prog Rows.fnMayDeliverRow.laid w) (fun _ _ _ hh h => h.of_heap hh) own started (by kernel_rfl) Tryd.func8
    (ChangeSpec.witness_shaped (enc := enc) (C := Tryd.checked) (os := os) (X := fun w _ => laidMetH Tryd.prog Rows.fnMayDeliverRow.laid w) false (World.doorLaid Tryd.prog 24 os) #[.slice none 0 0] 8 rfl (World.shaped_of_RefB (by kernel_rfl) (by kernel_rfl)) (by kernel_rfl) (by kernel_rfl) (by kernel_rfl) (door_met os _)) ?_
  intro W base args ds gs before hval0 hW _ _ _ _
  have hval : ∀ (j : Nat) t v, Tryd.f8.params[j]? = some t → args[j]? = some v → Value.okWide Tryd.prog W .any base t v := hval0
  have hW' := hW
  obtain ⟨p, q, hA0, hV, rfl, hfz, hnd⟩ := hW
  have hA : DataW.TrodAll enc Tryd.prog W 0 (fun _ => true) true Tryd.f8.params.toList args.toList ds p := hA0
  rw [Tryd.params8] at hA hval
  obtain ⟨v0, vs0, d0, ds0, p0, q0, hargs, rfl, rfl, h0, r0⟩ := trodAll_cons hA
  obtain ⟨rfl, rfl, rfl⟩ := trodAll_nil r0
  obtain rfl : args = #[v0] := by cases args; simp_all
  obtain ⟨rfl, rfl⟩ := trodVars_none hV
  have k0 := h0
  have lt0 : ∀ x ∈ p0, x.block < W.heap.size := by obtain ⟨m, hm⟩ := k0; exact DataW.trod_lt m _ _ _ hm
  obtain ⟨A0, n0, c0, rfl, hnc0, hmx0, R0⟩ := open_bytesA (hval 0 38 v0 rfl rfl) h0
  clear hA0 hval0
  refine (walk A0 n0 c0 W hnc0 hmx0 R0).mono fun e W' ⟨he, bel⟩ => ?_
  subst he
  exact ⟨_, rfl, _, _, _, [], _, [], hW', trodAll_mk1 (shut_bool Tryd.underlying4 _), (trodAll_cons_mk (Below.trod laidOut (by kernel_rfl) (of_decide_eq_true (by kernel_rfl)) k0 bel lt0) trodAll_mk0), rfl, bel.frame _, fun h => by cases h⟩
theorem row_holds : Rows.FnMayDeliverSaid :=
  OpenClaim.holds_of_wide 8 Tryd.f8 rfl rfl rfl rfl rfl rfl rfl ⟨rfl, rfl, rfl, rfl, rfl⟩ rfl rfl rfl rfl rfl (by kernel_rfl) Tryd.func8 (by kernel_rfl)
    (of_decide_eq_true (by kernel_rfl)) (by unfold Func.isWrapper; first | (rw [if_pos (by decide +kernel)]; kernel_rfl) | (rw [if_neg (by decide +kernel)]; exact ⟨rfl, rfl⟩))
    (fun os started H enc _ => lifted os started H enc)
theorem proved : Rows.FnMayDeliverCardSaid :=
  Claim7.holds_tied_plain_at .later [] [.data, .data, .data] true (true, "05a08bfe29a0c28e6e014570d56fa0359cf688acda83bdb85be7a3739bc03165") false
    row_holds (fun _ h => by cases h) (by kernel_rfl) (fun _ h => by cases h) fnMayDeliver_row_tie rfl ⟨rfl, rfl⟩ (by kernel_rfl) rfl
    (fun f fn hf hfn => by
      obtain rfl : f = 8 := Option.some.inj ((show Tryd.prog.funcNamed "loop.example/historychecker/laws.FnMayDeliver" = some 8 by kernel_rfl).symm.trans hf) |>.symm
      obtain rfl : fn = Tryd.f8 := (Option.some.inj (Tryd.func8.symm.trans hfn)).symm
      exact ⟨by kernel_rfl, fun j t ht => by
        rw [Tryd.params8] at ht
        have hm : t ∈ [38] := by simpa using Array.mem_of_getElem? ht
        have hall : ([38].all fun u => !Tryd.prog.wantsStandIn u) = true := by kernel_rfl
        exact (show Tryd.prog.wantsStandIn t = false by simpa using List.all_eq_true.1 hall t hm)⟩)
    (by kernel_rfl)
end Go.Proofs.YtcoienlblhbkpaaDoor.fnMayDeliver
