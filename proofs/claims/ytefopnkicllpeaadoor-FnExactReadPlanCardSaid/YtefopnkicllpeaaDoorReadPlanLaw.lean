/- FnExactReadPlan: for all arguments the program's ReadPlan returns what the reference's returns. The card ties the listed variables to the program's text. -/
import Derived.Test.YtefopnkicllpeaaDoorSpY
import Derived.Test.YtefopnkicllpeaaDoorSpZ
import Derived.Test.YtefopnkicllpeaaDoorSpR
import Derived.Test.YtefopnkicllpeaaDoorCards
import Derived.Test.YtefopnkicllpeaaDoorTie
import Derived.Test.YtefopnkicllpeaaDoorOpen
import Derived.ProofKit
import Derived.OpenShut
import Derived.ShutString
import Derived.ChangeOld
import Derived.ChangeMaps5
import Derived.LaidMore
import Derived.Lay
import Derived.Stop.Joined
import Derived.SevenTiedAt
namespace Go.Proofs.YtefopnkicllpeaaDoor.exactReadPlan
open Go.ChangeShapes Go.WideShapes Go.ChangeAt Go.RowKit

theorem planT_nil {p : Ds} (h : planB p = true) (hs : planT p = []) : p = [] := by
  cases p with
  | nil => rfl
  | cons d ds =>
    unfold planT at hs
    rw [if_pos h, List.length_cons, planTo_tail d ds ds.length (Nat.le_refl _)] at hs
    simp [draftT] at hs
theorem planT_inj {p q : Ds} (h : planB p = true) (h' : planB q = true) (hs : planT p = planT q) : p = q := by
  by_cases hn : planT p = []
  · rw [planT_nil h hn, planT_nil h' (hs ▸ hn)]
  · have e1 := rd_plan h rfl hn
    have e2 := rd_plan h' hs.symm hn
    rw [e1] at e2
    injection e2 with e2; injection e2
theorem sumW_small : ∀ (es : List (Int × In)) (p : Ds), SaysD es p → (∀ d ∈ p, d.2.length ≤ 4) → (∀ e ∈ es, e.2.2.2.length = e.2.2.1 * 3) → sumW es ≤ 13 * es.length
  | [], p, _, _, _ => by simp [sumW]
  | e :: es, [], h, _, _ => by simp [SaysD] at h
  | e :: es, d :: p, h, h4, hl => by
    unfold SaysD at h
    simp only [List.map_cons, List.cons.injEq, Prod.mk.injEq] at h
    have ih := sumW_small es p h.2 (fun d hd => h4 d (by simp [hd])) (fun e he => hl e (by simp [he]))
    have h1 := hl e (by simp)
    have h2 := congrArg List.length h.1.2
    rw [flat3_len, h1] at h2
    have h3 := h4 d (by simp)
    unfold sumW at ih ⊢
    simp only [List.map_cons, List.sum_cons, List.length_cons]
    omega
set_option maxHeartbeats 16000000 in
theorem walk (s0 : ByteArray) (w : World) (hV : LibV w) :
    Calls Tryd.prog 3 #[.string s0] w fun e w' => e = .returned (.bool true) ∧ Below w.heap.size w w' := by
  obtain ⟨s, rfl⟩ : ∃ s, s0 = str s := ⟨s0.data.toList, by cases s0 with | mk d => simp [str]⟩
  have hsz := str_size s
  by_cases hlen : 1048576 < s.length
  · have h1 : (1048576 : Int) < s.length := by omega
    go_enter Tryd.func3, Tryd.ntmps3
    go_wp2_with fail
    go_ret
    exact ⟨rfl, Below.refl _ _⟩
  · have h1 : ¬ (1048576 : Int) < s.length := by omega
    have HL : Hid (s.length ≤ 1048576) := hide (by omega)
    have HV := hide hV
    clear hV
    go_enter Tryd.func3, Tryd.ntmps3
    go_wp2_with fail
    refine (spec_ReadPlan_c HL.out).mono ?_
    rintro e w2 ⟨B2, (⟨p, A, n, c, hp, hps, rfl, hnc, hn4, R2⟩ | ⟨hno, g, rfl⟩)⟩
    · go_wp2_with fail
      refine (impl_ReadPlan_c HL.out (HV.out.below B2)).mono ?_
      rintro e w3 ⟨b3, (⟨q, A3, m, c3, es, hq, hqs, rfl, hmc, O3', hsay⟩ | ⟨hno, rfl⟩)⟩
      · obtain rfl := planT_inj hp hq (hps.trans hqs.symm)
        obtain ⟨h4, h5⟩ := planB_parts hp
        have hsm : SmallD p := fun d hd => by have := (draftB_partsT (h5 d hd)).1; omega
        obtain ⟨A', c', hv, _, R3'⟩ := O3'.rds hsay
        injection hv with hv1 _ hv3
        subst hv1; subst hv3
        have hsum : sumW es ≤ 52 := by
          have := sumW_small es p hsay (fun d hd => (draftB_partsT (h5 d hd)).1) (fun e he => by obtain ⟨j, hj⟩ := List.mem_iff_getElem?.1 he; exact (O3'.own j e hj).len)
          have h6 : es.length = p.length := by have := congrArg List.length hsay; simpa using this
          omega
        have hn := O3'.small
        obtain ⟨Z, hZ⟩ : ∃ Z, sumW es = Z := ⟨_, rfl⟩
        rw [hZ] at hsum
        have HZ := hide hZ; have HSM := hide hsm; have HP := hide hp; have HPS := hide hps; have HSY := hide hsay
        have hrg := hide (fun k hk => (O3'.range k hk).1)
        clear hZ hsm hp hps hq hqs h4 h5 hsay
        go_wp2_with fail
        refine (eqDraftS_c R3' (R2.below b3) hn HSM.out).mono ?_
        rintro e w4 ⟨rfl, b4⟩
        have B4 := below_step b3 b4
        have D4 := O3'.below b4
        clear R3'
        go_wp2_with fail
        refine (markDraftS_w (k := 1) (cx := m) D4 (by omega) (by rw [HZ.out]; omega)).mono ?_
        rintro e w5 ⟨rfl, D5, c5⟩
        have B5 := Chg.below B4 c5 hrg.out
        rw [HZ.out]
        clear c5 D4
        go_wp2_with fail
        refine (heldDraftS_w (k := 1) (cx := m) D5 (by omega) (by rw [HZ.out]; omega)).mono ?_
        rintro e w6 ⟨rfl, b6⟩
        have B6 := below_step B5 b6
        have D6 := D5.below b6
        rw [HZ.out]
        clear D5
        have BW6 := below_step B2 B6
        go_wp2_with fail
        refine (impl_ReadPlan_c HL.out (HV.out.below BW6)).mono ?_
        rintro e w7 ⟨b7, (⟨q, A7, m7, c7, es7, hq, hqs, rfl, hmc7, O7, hsay7⟩ | ⟨hno, rfl⟩)⟩
        · obtain rfl := planT_inj HP.out hq (HPS.out.trans hqs.symm)
          obtain ⟨A', c', hv, _, R7⟩ := O7.rds hsay7
          injection hv with hv1 _ hv3
          subst hv1; subst hv3
          have hn7 := O7.small
          have B7 := below_step B6 b7
          have D7 := D6.below b7
          clear hq hqs hsay7 D6
          go_wp2_with fail
          refine (eqDraftS_c R7 (R2.below B7) hn7 HSM.out).mono ?_
          rintro e w8 ⟨rfl, b8⟩
          have D8 := D7.below b8
          go_wp2_with fail
          refine (heldDraftS_w (k := 1) (cx := m) D8 (by omega) (by rw [HZ.out]; omega)).mono ?_
          rintro e w9 ⟨rfl, b9⟩
          rw [HZ.out]
          go_wp2_with fail
          go_ret
          exact ⟨rfl, below_step BW6 (below_step b7 (below_step b8 b9))⟩
        · exact absurd HPS.out (hno p HP.out)
      · exact absurd hps (hno p hp)
    · go_wp2_with fail
      refine (impl_ReadPlan_c HL.out (HV.out.below B2)).mono ?_
      rintro e w3 ⟨b3, (⟨q, A3, m, c3, es, hq, hqs, rfl, hmc, O3', hsay⟩ | ⟨_, rfl⟩)⟩
      · exact absurd hqs (hno q hq)
      · have hsm : SmallD [] := fun d h => by cases h
        have B3 := below_step B2 b3
        have O0 : ∀ W : World, OW2 W 0 (.slice none 0 0) 0 [] := fun W => ⟨⟨rfl, .inl ⟨rfl, rfl⟩⟩, fun j e h => by simp at h, fun i j p q _ h => by simp at h, rfl, by omega⟩
        go_wp2_with fail
        refine (eqDraftS_c (RDs.nil (A := none)) (RDs.nil (A := some ⟨g, 0, none⟩)) (by omega) hsm).mono ?_
        rintro e w4 ⟨rfl, b4⟩
        have B4 := below_step B3 b4
        go_wp2_with fail
        refine (markDraftS_w (k := 1) (cx := 0) (O0 w4) (by omega) (by simp [sumW])).mono ?_
        rintro e w5 ⟨rfl, _, c5⟩
        have hrg : ∀ k, OW2.S (.slice none 0 0) [] k → w.heap.size ≤ k := fun k hk => by
          rcases hk with hk | ⟨j, e, hj, _⟩
          · simp [Value.ownBlock] at hk
          · simp at hj
        have B5 := Chg.below B4 c5 hrg
        have hz0 : sumW [] = 0 := rfl
        rw [hz0]
        clear c5
        go_wp2_with fail
        refine (heldDraftS_w (k := 1) (cx := 0) (es := []) (O0 w5) (by omega) (by simp [sumW])).mono ?_
        rintro e w6 ⟨rfl, b6⟩
        rw [hz0]
        have B6 := below_step B5 b6
        go_wp2_with fail
        refine (impl_ReadPlan_c HL.out (HV.out.below B6)).mono ?_
        rintro e w7 ⟨b7, (⟨q, A3, m, c3, es, hq, hqs, rfl, hmc, O3', hsay⟩ | ⟨_, rfl⟩)⟩
        · exact absurd hqs (hno q hq)
        · have B7 := below_step B6 b7
          go_wp2_with fail
          refine (eqDraftS_c (RDs.nil (A := none)) (RDs.nil (A := some ⟨g, 0, none⟩)) (by omega) hsm).mono ?_
          rintro e w8 ⟨rfl, b8⟩
          go_wp2_with fail
          refine (heldDraftS_w (k := 1) (cx := 0) (es := []) (O0 w8) (by omega) (by simp [sumW])).mono ?_
          rintro e w9 ⟨rfl, b9⟩
          rw [hz0]
          go_wp2_with fail
          go_ret
          exact ⟨rfl, below_step B7 (below_step b8 b9)⟩

set_option maxRecDepth 100000 in
theorem lifted (os : Os) (started : os.Started) (H : Type) (enc : TypeId × Value → H) :
    ReturnsInHanded {} Tryd.checked os 3 .any (fun w args => (Rows.fnExactReadPlanSpec.pre enc Tryd.prog Tryd.f3 [] false w args ∧ laidMetH Tryd.prog Rows.fnExactReadPlanRow.laid w) ∧ sizedMet enc Tryd.prog Tryd.f3 (OpenSpec.ofChange Rows.fnExactReadPlanSpec) false w args)
      (Rows.fnExactReadPlanSpec.post enc Tryd.prog Tryd.f3 false true false false) := by
  refine returns_and_shaped (C := Tryd.checked) (X := fun w _ => laidMetH Tryd.prog Rows.fnExactReadPlanRow.laid w) (fun _ _ _ hh h => h.of_heap hh) own started (by kernel_rfl) Tryd.func3
    (ChangeSpec.witness_shaped (enc := enc) (C := Tryd.checked) (os := os) (X := fun w _ => laidMetH Tryd.prog Rows.fnExactReadPlanRow.laid w) false (World.laidAll Tryd.prog os Rows.fnExactReadPlanRow.laid) #[.string ⟨#[]⟩] 8 (World.laidAll_os _ _ _) (World.shaped_of_ZipB (by kernel_rfl) (by kernel_rfl)) (by kernel_rfl) (by kernel_rfl) (by kernel_rfl) (by rw [MakeChecks.laidMetH_plain _ _ _ (by kernel_rfl)]; exact laidMet_laidAll _ (by kernel_rfl) (by kernel_rfl))) ?_
  intro W base args ds gs before hval0 hW hL hsh
  have hval : ∀ (j : Nat) t v, Tryd.f3.params[j]? = some t → args[j]? = some v → Value.okWide Tryd.prog W .any base t v := hval0
  have hW' := hW
  obtain ⟨p, q, hA0, hV, rfl, hfz, hnd⟩ := hW
  have hA : DataW.TrodAll enc Tryd.prog W 0 (fun _ => true) true Tryd.f3.params.toList args.toList ds p := hA0
  rw [Tryd.params3] at hA hval
  obtain ⟨v0, vs0, d0, ds0, p0, q0, hargs, rfl, rfl, h0, r0⟩ := trodAll_cons hA
  obtain ⟨rfl, rfl, rfl⟩ := trodAll_nil r0
  obtain rfl : args = #[v0] := by cases args; simp_all
  obtain ⟨rfl, rfl⟩ := trodVars_none hV
  have k0 := h0
  have lt0 : ∀ x ∈ p0, x.block < W.heap.size := by obtain ⟨m, hm⟩ := k0; exact DataW.trod_lt m _ _ _ hm
  obtain ⟨s0, rfl, rfl, rfl, ws0⟩ := Go.ChangeMaps.open_string Tryd.underlying9 (hval 0 9 v0 rfl rfl) h0
  clear hA0 hval0
  have hT : LibV W := libV_of hsh hL (by kernel_rfl) rfl rfl
  refine (walk s0 W  hT).mono fun e W' ⟨he, bel⟩ => ?_
  subst he
  exact ⟨_, rfl, _, _, _, [], _, [], hW', trodAll_mk1 (shut_bool Tryd.underlying4 _), (trodAll_cons_mk (Below.trod laidOut (by kernel_rfl) (of_decide_eq_true (by kernel_rfl)) k0 bel lt0) trodAll_mk0), rfl, bel.frame _, fun h => by cases h⟩
theorem row_holds : Rows.FnExactReadPlanSaid :=
  OpenClaim.holds_of_wide 3 Tryd.f3 rfl rfl rfl rfl rfl rfl rfl ⟨rfl, rfl, rfl, rfl, rfl⟩ rfl rfl rfl rfl rfl (by kernel_rfl) Tryd.func3 (by kernel_rfl)
    (of_decide_eq_true (by kernel_rfl)) (by unfold Func.isWrapper; first | (rw [if_pos (by decide +kernel)]; kernel_rfl) | (rw [if_neg (by decide +kernel)]; exact ⟨rfl, rfl⟩))
    (fun os started H enc _ => lifted os started H enc)
theorem proved : Rows.FnExactReadPlanCardSaid :=
  Claim7.holds_tied_plain_at .later [] [.data, .data, .data, .data, .sentinel, .sentinel, .pinned] true (true, "9a6dbd738c50d5d03bbe1b644f46545995e92737086977a0fec1e8a67b5f0af3") true
    row_holds (fun _ h => by cases h) (by kernel_rfl) (fun _ h => by cases h) fnExactReadPlan_row_tie rfl ⟨rfl, rfl⟩ (by kernel_rfl) rfl
    (fun f fn hf hfn => by
      obtain rfl : f = 3 := Option.some.inj ((show Tryd.prog.funcNamed "loop.example/historychecker/laws.FnExactReadPlan" = some 3 by kernel_rfl).symm.trans hf) |>.symm
      obtain rfl : fn = Tryd.f3 := (Option.some.inj (Tryd.func3.symm.trans hfn)).symm
      exact ⟨by kernel_rfl, fun j t ht => by
        rw [Tryd.params3] at ht
        have hm : t ∈ [9] := by simpa using Array.mem_of_getElem? ht
        have hall : ([9].all fun u => !Tryd.prog.wantsStandIn u) = true := by kernel_rfl
        exact (show Tryd.prog.wantsStandIn t = false by simpa using List.all_eq_true.1 hall t hm)⟩)
    (by kernel_rfl)

end Go.Proofs.YtefopnkicllpeaaDoor.exactReadPlan
