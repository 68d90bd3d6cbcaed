/- FnReadPlan: both sides agree; an accepted text is the text of its plan, and with a space behind it is refused. The card ties the listed variables to the program's text. -/
import Derived.Test.YtefopnkicllpeaaDoorRdN
import Derived.Test.YtefopnkicllpeaaDoorSpY
import Derived.ProofKit
import Derived.OpenShut
import Derived.ShutString
import Derived.ChangeOld
import Derived.ChangeMaps5
import Derived.LaidMore
import Derived.Lay
import Derived.Stop.Joined
import Derived.SevenTiedAt
import Derived.BigQuiet
namespace Go.Proofs.YtefopnkicllpeaaDoor.fnReadPlan
open Go.ChangeShapes Go.WideShapes Go.ChangeAt Go.RowKit

theorem planT_inj {p q : Ds} (h : planB p = true) (h' : planB q = true) (hs : planT p = planT q) : p = q := by
  by_cases hn : planT p = []
  · rw [planT_nil h hn, planT_nil h' (hs ▸ hn)]
  · have e1 := rd_plan h rfl hn
    have e2 := rd_plan h' hs.symm hn
    rw [e1] at e2
    injection e2 with e2; injection e2
theorem small_plan {p : Ds} (h : planB p = true) : SmallD p := fun d hd => by have := (draftB_partsT ((planB_parts h).2 d hd)).1; omega
set_option maxRecDepth 100000 in
set_option maxHeartbeats 8000000 in
theorem walk (A : Option Addr) (n c : Nat) (w : World) (hnc : n ≤ c) (hmx : c ≤ maxLen) (hb : BY w w.heap.size A n) (hV : LibV w) :
    Calls Tryd.prog 4 #[.slice A n c] w fun e w' => e = .returned (.bool true) ∧ Below w.heap.size w w' := by
  by_cases hn : n ≤ 1048576
  · have HV := hide hV; clear hV
    go_enter Tryd.func4, Tryd.ntmps4
    go_wp2_with fail
    refine (DrawReadPlan_c hnc hmx hb).mono ?_
    rintro e w1 ⟨s, rfl, hlen, b1⟩
    have HL := hide hlen
    go_wp2_with fail
    refine (impl_ReadPlan_c (by omega) (HV.out.below b1)).mono ?_
    rintro e w2 ⟨b2, (⟨p, A3, m, c3, es, hp, hps, rfl, hmc, O3', hsay⟩ | ⟨hno, rfl⟩)⟩
    · have B2 := below_step b1 b2
      obtain ⟨A', c', hvv, _, R2⟩ := O3'.rds hsay
      injection hvv with hv1 _ hv3
      subst hv1; subst hv3
      clear O3' hsay b1 b2
      go_wp2_with fail
      refine (spec_ReadPlan_c (by omega)).mono ?_
      rintro e w3 ⟨b3, (⟨q, A4, n', c4, hq, hqs, rfl, hnc', hn4, R3⟩ | ⟨hno, g, rfl⟩)⟩
      · obtain rfl := planT_inj hp hq (hps.trans hqs.symm)
        have S3 := R2.below b3
        have B3 := below_step B2 b3
        obtain rfl : m = n' := R2.1.symm.trans R3.1
        have HP := hide hp; have HPS := hide hps
        have BB := hide B3
        clear hp hps hq hqs R2 B2 b3
        have s1 := fun W : World => run_string_add_sum (P := Tryd.prog) (w := W) (str s) ⟨#[32]⟩ (by rw [str_size]; show _ + 1 ≤ _; omega)
        have hcat : str s ++ ⟨#[32]⟩ = str (s ++ [32]) := by rw [← str_add]; rfl
        go_wp2_with fail
        refine (impl_ReadPlan_c (by rw [List.length_append]; simp; omega) (HV.out.below BB.out)).mono ?_
        rintro e w4 ⟨b4, (⟨q, A5, m5, c5, es5, hq, hqs, rfl, _, _, _⟩ | ⟨_, rfl⟩)⟩
        · exact absurd hqs (plan_no_space hq)
        · have S4 := S3.below b4
          have R4 := R3.below b4
          have B4 := below_step B3 b4
          clear S3 R3 b4 B3 BB s1 hcat
          go_wp2_with fail
          refine (impl_PlanText_c S4 (by omega) (small_plan HP.out)).mono ?_
          rintro e w5 ⟨rfl, b5⟩
          rw [HPS.out]
          have R5 := R4.below b5
          have B5 := below_step B4 b5
          go_wp2_with fail
          refine (impl_PlanText_c R5 (by omega) (small_plan HP.out)).mono ?_
          rintro e w6 ⟨rfl, b6⟩
          rw [HPS.out]
          go_wp2_with fail
          go_ret
          exact ⟨rfl, below_step B5 b6⟩
      · exact absurd hps (hno p hp)
    · go_wp2_with fail
      refine (spec_ReadPlan_c (by omega)).mono ?_
      rintro e w3 ⟨b3, (⟨q, A4, n', c4, hq, hqs, rfl, hnc', hn4, R3⟩ | ⟨hno', g, rfl⟩)⟩
      · exact absurd hqs (hno q hq)
      · have B3 := below_step (below_step b1 b2) b3
        clear b1 b2 b3
        go_wp2_with fail
        refine (alive_c).mono ?_
        rintro e w5 ⟨rfl, b5⟩
        go_wp2_with fail
        go_ret
        exact ⟨rfl, below_step B3 b5⟩
  · go_enter Tryd.func4, Tryd.ntmps4
    go_wp2_with fail
    go_ret
    exact ⟨rfl, Below.refl _ _⟩

set_option maxRecDepth 100000 in
theorem lifted (os : Os) (started : os.Started) (H : Type) (enc : TypeId × Value → H) :
    ReturnsInHanded {} Tryd.checked os 4 .any (fun w args => (Rows.fnReadPlanSpec.pre enc Tryd.prog Tryd.f4 [] false w args ∧ laidMetH Tryd.prog Rows.fnReadPlanRow.laid w) ∧ sizedMet enc Tryd.prog Tryd.f4 (OpenSpec.ofChange Rows.fnReadPlanSpec) false w args)
      (Rows.fnReadPlanSpec.post enc Tryd.prog Tryd.f4 false true false false) := by
  refine returns_and_shaped (C := Tryd.checked) (X := fun w _ => laidMetH Tryd.prog Rows.fnReadPlanRow.laid w) (fun _ _ _ hh h => h.of_heap hh) own started (by kernel_rfl) Tryd.func4
    (ChangeSpec.witness_shaped (enc := enc) (C := Tryd.checked) (os := os) (X := fun w _ => laidMetH Tryd.prog Rows.fnReadPlanRow.laid w) false (World.laidAll Tryd.prog os Rows.fnReadPlanRow.laid) #[.slice none 0 0] 8 (World.laidAll_os _ _ _) (World.shaped_of_ZipB (by kernel_rfl) (by kernel_rfl)) (by kernel_rfl) (by kernel_rfl) (by kernel_rfl) (by rw [MakeChecks.laidMetH_plain _ _ _ (by kernel_rfl)]; exact laidMet_laidAll _ (by kernel_rfl) (by kernel_rfl))) ?_
  intro W base args ds gs before hval0 hW hL hsh
  have hval : ∀ (j : Nat) t v, Tryd.f4.params[j]? = some t → args[j]? = some v → Value.okWide Tryd.prog W .any base t v := hval0
  have hW' := hW
  obtain ⟨p, q, hA0, hV, rfl, hfz, hnd⟩ := hW
  have hA : DataW.TrodAll enc Tryd.prog W 0 (fun _ => true) true Tryd.f4.params.toList args.toList ds p := hA0
  rw [Tryd.params4] at hA hval
  obtain ⟨v0, vs0, d0, ds0, p0, q0, hargs, rfl, rfl, h0, r0⟩ := trodAll_cons hA
  obtain ⟨rfl, rfl, rfl⟩ := trodAll_nil r0
  obtain rfl : args = #[v0] := by cases args; simp_all
  obtain ⟨rfl, rfl⟩ := trodVars_none hV
  have k0 := h0
  have lt0 : ∀ x ∈ p0, x.block < W.heap.size := by obtain ⟨m, hm⟩ := k0; exact DataW.trod_lt m _ _ _ hm
  obtain ⟨A0, n0, c0, rfl, hnc0, hmx0, R0⟩ := open_bytesA (hval 0 28 v0 rfl rfl) h0
  clear hA0 hval0
  have hT : LibV W := libV_of hsh hL (by kernel_rfl) rfl rfl
  refine (walk A0 n0 c0 W hnc0 hmx0 R0 hT).mono fun e W' ⟨he, bel⟩ => ?_
  subst he
  exact ⟨_, rfl, _, _, _, [], _, [], hW', trodAll_mk1 (shut_bool Tryd.underlying4 _), (trodAll_cons_mk (Below.trod laidOut (by kernel_rfl) (of_decide_eq_true (by kernel_rfl)) k0 bel lt0) trodAll_mk0), rfl, bel.frame _, fun h => by cases h⟩
theorem row_holds : Rows.FnReadPlanSaid :=
  OpenClaim.holds_of_wide 4 Tryd.f4 rfl rfl rfl rfl rfl rfl rfl ⟨rfl, rfl, rfl, rfl, rfl⟩ rfl rfl rfl rfl rfl (by kernel_rfl) Tryd.func4 (by kernel_rfl)
    (of_decide_eq_true (by kernel_rfl)) (by unfold Func.isWrapper; first | (rw [if_pos (by decide +kernel)]; kernel_rfl) | (rw [if_neg (by decide +kernel)]; exact ⟨rfl, rfl⟩))
    (fun os started H enc _ => lifted os started H enc)
theorem proved : Rows.FnReadPlanCardSaid :=
  Claim7.holds_tied_plain_at .later [] [.data, .data, .data, .data, .sentinel, .sentinel, .pinned] true (true, "9a6dbd738c50d5d03bbe1b644f46545995e92737086977a0fec1e8a67b5f0af3") true
    row_holds (fun _ h => by cases h) (by kernel_rfl) (fun _ h => by cases h) fnReadPlan_row_tie rfl ⟨rfl, rfl⟩ (by kernel_rfl) rfl
    (fun f fn hf hfn => by
      obtain rfl : f = 4 := Option.some.inj ((show Tryd.prog.funcNamed "loop.example/historychecker/laws.FnReadPlan" = some 4 by kernel_rfl).symm.trans hf) |>.symm
      obtain rfl : fn = Tryd.f4 := (Option.some.inj (Tryd.func4.symm.trans hfn)).symm
      exact ⟨by kernel_rfl, fun j t ht => by
        rw [Tryd.params4] at ht
        have hm : t ∈ [28] := by simpa using Array.mem_of_getElem? ht
        have hall : ([28].all fun u => !Tryd.prog.wantsStandIn u) = true := by kernel_rfl
        exact (show Tryd.prog.wantsStandIn t = false by simpa using List.all_eq_true.1 hall t hm)⟩)
    (by kernel_rfl)

end Go.Proofs.YtefopnkicllpeaaDoor.fnReadPlan
