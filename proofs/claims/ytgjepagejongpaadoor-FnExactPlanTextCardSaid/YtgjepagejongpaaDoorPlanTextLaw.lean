/- FnExactPlanText: for all arguments the program's PlanText returns what the reference's returns, and leaves its argument as it is. The card ties the listed variables to the program's text; the law's road does not look into them. -/
import Derived.Test.YtgjepagejongpaaDoorPlS
import Derived.Test.YtgjepagejongpaaDoorPlI
import Derived.Test.YtgjepagejongpaaDoorDrs3
import Derived.Test.YtgjepagejongpaaDoorOpenDr
import Derived.Test.YtgjepagejongpaaDoorCards
import Derived.Test.YtgjepagejongpaaDoorTie
import Derived.Test.YtgjepagejongpaaDoorOpen
import Derived.ProofKit
import Derived.OpenShut
import Derived.ShutString
import Derived.ChangeOld
import Derived.LaidMore
import Derived.Stop.Joined
import Derived.SevenTiedAt
namespace Go.Proofs.YtgjepagejongpaaDoor.exactPlanText
open Go.ChangeShapes Go.WideShapes Go.ChangeAt Go.RowKit

theorem szP_ok {ms : Ds} {n : Nat} (hl : ms.length = n) (h : ¬ szDS 1048576 ms < 0) : n ≤ 1048576 ∧ SmallD ms := by
  unfold szDS at h
  split at h
  · omega
  · have := szDL_ok ms (1048576 - ms.length) (by omega) (by omega)
    exact ⟨by omega, fun m hm => by have := this.1 m hm; omega⟩
set_option maxHeartbeats 16000000 in
theorem walk (A0 : Option Addr) (n0 c0 : Nat) (ms0 : Ds) (w : World) (hnc0 : n0 ≤ c0) (hmx0 : c0 ≤ maxLen) (R0 : RDs w A0 n0 ms0) :
    Calls Tryd.prog 3 #[.slice A0 n0 c0] w fun e w' => e = .returned (.bool true) ∧ Below w.heap.size w w' := by
  obtain ⟨z, hz⟩ : ∃ z, szDS 1048576 ms0 = z := ⟨_, rfl⟩
  have HZ := hide hz
  by_cases h0 : z < 0
  · clear hz
    go_enter Tryd.func3, Tryd.ntmps3
    go_wp2_with fail
    refine (szDraftS_c R0 (by omega) (by omega) (by omega)).mono ?_
    rintro e w1 ⟨rfl, b1⟩
    rw [HZ.out]
    go_wp2_with fail
    go_ret
    exact ⟨rfl, b1⟩
  · obtain ⟨hn, hsm⟩ := szP_ok R0.1 (by rw [hz]; exact h0)
    have HS := hide hsm
    clear hz hsm
    go_enter Tryd.func3, Tryd.ntmps3
    go_wp2_with fail
    refine (szDraftS_c R0 (by omega) (by omega) (by omega)).mono ?_
    rintro e w1 ⟨rfl, B1⟩
    rw [HZ.out]
    go_wp2_with fail
    refine (toDraftS_c (R0.below B1) hn HS.out).mono ?_
    rintro e w2 ⟨rfl, R2, b2⟩
    have B2 := below_step B1 b2
    go_wp2_with fail
    refine (spec_PlanText_c R2 hn HS.out).mono ?_
    rintro e w3 ⟨rfl, b3⟩
    have B3 := below_step B2 b3
    clear R2
    go_wp2_with fail
    refine (toDraftS_c (R0.below B3) hn HS.out).mono ?_
    rintro e w4 ⟨rfl, R4, b4⟩
    have B4 := below_step B3 b4
    go_wp2_with fail
    refine (impl_PlanText_c R4 hn HS.out).mono ?_
    rintro e w5 ⟨rfl, b5⟩
    have B5 := below_step B4 b5
    have s5 := R4.below b5
    clear R4
    go_wp2_with fail
    refine (toDraftS_c (R0.below B5) hn HS.out).mono ?_
    rintro e w6 ⟨rfl, R6, b6⟩
    have B6 := below_step B5 b6
    go_wp2_with fail
    refine (eqDraftS_c (s5.below b6) R6 hn HS.out).mono ?_
    rintro e w7 ⟨rfl, b7⟩
    go_wp2_with fail
    go_ret
    exact ⟨rfl, below_step B6 b7⟩

theorem door_met (os : Os) (args : Array Value) : laidMetH Tryd.prog Rows.fnExactPlanTextRow.laid ((World.doorLaid Tryd.prog 72 os).forCall (fun _ _ => 0) ⟨#[], args, []⟩).memory :=
  laidMetH_of_parts3 (fuel := 8) (laidMet_of_run' 8 (by kernel_rfl) (by kernel_rfl)) (by kernel_rfl) (by kernel_rfl)
set_option maxRecDepth 100000 in
theorem lifted (os : Os) (started : os.Started) (H : Type) (enc : TypeId × Value → H) :
    ReturnsInHanded {} Tryd.checked os 3 .any (fun w args => (Rows.fnExactPlanTextSpec.pre enc Tryd.prog Tryd.f3 [] false w args ∧ laidMetH Tryd.prog Rows.fnExactPlanTextRow.laid w) ∧ sizedMet enc Tryd.prog Tryd.f3 (OpenSpec.ofChange Rows.fnExactPlanTextSpec) false w args)
      (Rows.fnExactPlanTextSpec.post enc Tryd.prog Tryd.f3 false true false false) := by
  refine returnsInHanded_of_change_and (C := Tryd.checked) (X := fun w _ => laidMetH Tryd.prog Rows.fnExactPlanTextRow.laid w) (fun _ _ _ hh h => h.of_heap hh) own started (by kernel_rfl) Tryd.func3
    (ChangeSpec.witness_shaped (enc := enc) (C := Tryd.checked) (os := os) (X := fun w _ => laidMetH Tryd.prog Rows.fnExactPlanTextRow.laid w) false (World.doorLaid Tryd.prog 72 os) #[.slice none 0 0] 8 rfl (World.shaped_of_RefB (by kernel_rfl) (by kernel_rfl)) (by kernel_rfl) (by kernel_rfl) (by kernel_rfl) (door_met os _)) ?_
  intro W base args ds gs before hval0 hW _ _ _ _
  have hval : ∀ (j : Nat) t v, Tryd.f3.params[j]? = some t → args[j]? = some v → Value.okWide Tryd.prog W .any base t v := hval0
  have hW' := hW
  obtain ⟨p, q, hA0, hV, rfl, hfz, hnd⟩ := hW
  have hA : DataW.TrodAll enc Tryd.prog W 0 (fun _ => true) true Tryd.f3.params.toList args.toList ds p := hA0
  rw [Tryd.params3] at hA hval
  obtain ⟨v0, vs0, d0, ds0, p0, q0, hargs, rfl, rfl, h0, r0⟩ := trodAll_cons hA
  obtain ⟨rfl, rfl, rfl⟩ := trodAll_nil r0
  obtain rfl : args = #[v0] := by cases args; simp_all
  obtain ⟨rfl, rfl⟩ := trodVars_none hV
  have k0 := h0
  have lt0 : ∀ x ∈ p0, x.block < W.heap.size := by obtain ⟨m, hm⟩ := k0; exact DataW.trod_lt m _ _ _ hm
  obtain ⟨A0, n0, c0, ms0, rfl, hnc0, hmx0, R0⟩ := open_DraftsA (hval 0 22 v0 rfl rfl) h0
  clear hA0 hval0
  refine (walk A0 n0 c0 ms0 W hnc0 hmx0 R0).mono fun e W' ⟨he, bel⟩ => ?_
  subst he
  exact ⟨_, rfl, _, _, _, [], _, [], hW', trodAll_mk1 (shut_bool Tryd.underlying4 _), (trodAll_cons_mk (Below.trod laidOut (by kernel_rfl) (of_decide_eq_true (by kernel_rfl)) k0 bel lt0) trodAll_mk0), rfl, bel.frame _, fun h => by cases h⟩
theorem row_holds : Rows.FnExactPlanTextSaid :=
  OpenClaim.holds_of_wide 3 Tryd.f3 rfl rfl rfl rfl rfl rfl rfl ⟨rfl, rfl, rfl, rfl, rfl⟩ rfl rfl rfl rfl rfl (by kernel_rfl) Tryd.func3 (by kernel_rfl)
    (of_decide_eq_true (by kernel_rfl)) (by unfold Func.isWrapper; first | (rw [if_pos (by decide +kernel)]; kernel_rfl) | (rw [if_neg (by decide +kernel)]; exact ⟨rfl, rfl⟩))
    (fun os started H enc _ => lifted os started H enc)
theorem proved : Rows.FnExactPlanTextCardSaid :=
  Claim7.holds_tied_plain_at .later [] [.data, .data, .data] true (true, "b0ff640215a7162a57b543e5b07098b5e2ce909d6a3b82cfe98195c34e37d9be") true
    row_holds (fun _ h => by cases h) (by kernel_rfl) (fun _ h => by cases h) fnExactPlanText_row_tie rfl ⟨rfl, rfl⟩ (by kernel_rfl) rfl
    (fun f fn hf hfn => by
      obtain rfl : f = 3 := Option.some.inj ((show Tryd.prog.funcNamed "loop.example/historychecker/laws.FnExactPlanText" = some 3 by kernel_rfl).symm.trans hf) |>.symm
      obtain rfl : fn = Tryd.f3 := (Option.some.inj (Tryd.func3.symm.trans hfn)).symm
      exact ⟨by kernel_rfl, fun j t ht => by
        rw [Tryd.params3] at ht
        have hm : t ∈ [22] := by simpa using Array.mem_of_getElem? ht
        have hall : ([22].all fun u => !Tryd.prog.wantsStandIn u) = true := by kernel_rfl
        exact (show Tryd.prog.wantsStandIn t = false by simpa using List.all_eq_true.1 hall t hm)⟩)
    (by kernel_rfl)

end Go.Proofs.YtgjepagejongpaaDoor.exactPlanText
