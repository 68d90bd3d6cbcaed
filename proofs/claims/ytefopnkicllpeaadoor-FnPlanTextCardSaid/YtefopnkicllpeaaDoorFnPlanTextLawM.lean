/- FnPlanText: both sides agree; the text of a valid plan is read as the plan. The card ties the listed variables to the program's text. -/
import Derived.Test.YtefopnkicllpeaaDoorPtN
import Derived.Test.YtefopnkicllpeaaDoorDrawRp
import Derived.Test.YtefopnkicllpeaaDoorPtM
import Derived.Test.YtefopnkicllpeaaDoorPlI
import Derived.Test.YtefopnkicllpeaaDoorPlS
import Derived.ProofKit
import Derived.OpenShut
import Derived.ShutString
import Derived.ChangeOld
import Derived.ChangeMaps5
import Derived.LaidMore
import Derived.Lay
import Derived.Stop.Joined
import Derived.SevenTiedAt
import Derived.BigQuiet
namespace Go.Proofs.YtefopnkicllpeaaDoor.fnPlanText
open Go.ChangeShapes Go.WideShapes Go.ChangeAt Go.RowKit

theorem planT_inj {p q : Ds} (h : planB p = true) (h' : planB q = true) (hs : planT p = planT q) : p = q := by
  by_cases hn : planT p = []
  · rw [planT_nil h hn, planT_nil h' (hs ▸ hn)]
  · have e1 := rd_plan h rfl hn
    have e2 := rd_plan h' hs.symm hn
    rw [e1] at e2
    injection e2 with e2; injection e2
set_option maxRecDepth 100000 in
set_option maxHeartbeats 8000000 in
theorem walk (A : Option Addr) (n c : Nat) (w : World) (hnc : n ≤ c) (hmx : c ≤ maxLen) (hb : BY w w.heap.size A n) (hV : LibV w) :
    Calls Tryd.prog 5 #[.slice A n c] w fun e w' => e = .returned (.bool true) ∧ Below w.heap.size w w' := by
  by_cases hn : n ≤ 1048576
  · have HV := hide hV; clear hV
    go_enter Tryd.func5, Tryd.ntmps5
    go_wp2_with fail
    refine (DrawPlanText_c hnc hmx hb).mono ?_
    rintro e w1 ⟨A1, m, c1, ms, rfl, hmc, hm5, R1, hsm, b1⟩
    have HS := hide hsm; clear hsm
    go_wp2_with fail
    refine (impl_PlanText_c R1 (by omega) HS.out).mono ?_
    rintro e w2 ⟨rfl, b2⟩
    have B2 := below_step b1 b2
    have R2 := R1.below b2
    go_wp2_with fail
    refine (spec_PlanText_c R2 (by omega) HS.out).mono ?_
    rintro e w3 ⟨rfl, b3⟩
    have B3 := below_step B2 b3
    have R3 := R2.below b3
    clear b1 b2 b3 R1 R2 B2
    go_wp2_with fail
    refine (spec_PlanValid_c R3 (by omega) HS.out).mono ?_
    rintro e w4 ⟨rfl, b4⟩
    have B4 := below_step B3 b4
    have R4 := R3.below b4
    clear b4 R3 B3
    cases hv : planB ms
    · have hs : planT ms = [] := by unfold planT; rw [hv]; rfl
      have h0 : str (planT ms) = ⟨#[]⟩ := by rw [hs]; rfl
      rw [h0]
      clear hv hs h0
      have B4 := hide B4
      go_wp2_with fail
      refine (alive_c).mono ?_
      rintro e w5 ⟨rfl, b5⟩
      go_wp2_with fail
      go_ret
      exact ⟨rfl, below_step B4.out b5⟩
    · have hlt : (planT ms).length ≤ 1048576 := by
        obtain ⟨h4, h5⟩ := planB_parts hv
        have := planTo_len h5 ms.length (Nat.le_refl _)
        unfold planT; rw [if_pos hv]; omega
      have HVV := hide hv; have BB := hide B4
      clear hv
      go_wp2_with fail
      refine (impl_ReadPlan_c hlt (HV.out.below BB.out)).mono ?_
      rintro e w5 ⟨b5, (⟨q, A3, k3, c3, es, hq, hqs, rfl, hmc3, O3', hsay⟩ | ⟨hno, rfl⟩)⟩
      · obtain rfl := planT_inj HVV.out hq hqs.symm
        obtain ⟨A', c', hvv, _, R5⟩ := O3'.rds hsay
        injection hvv with hv1 _ hv3
        subst hv1; subst hv3
        have S5 := R4.below b5
        have hl := hide R5.1
        obtain rfl : k3 = m := R5.1.symm.trans R4.1
        have B5 := below_step B4 b5
        clear hq hqs hsay O3' R4 b5 B4 BB hmc3
        go_wp2_with fail
        go_loopw [7] (fun i wr => ∃ k : Nat, k ≤ k3 ∧ i = .int .i64 k ∧ Below w5.heap.size w5 wr) (fun i _ => k3 - (intOf i).toNat)
        case atStart => exact ⟨0, Nat.zero_le _, rfl, Below.refl _ _⟩
        case round =>
          obtain ⟨k, hk, rfl, bw⟩ := hrel
          by_cases hkn : k < k3
          · obtain ⟨b, off, f, ys, B, kk, d, rfl, hbb, hx, q0, q1, hkd, hdm, hri⟩ := R5.at_ hkn
            obtain ⟨b', off', f', ys', B', kk', d', rfl, hbb', hx', q0', q1', hkd', hdm', hri'⟩ := S5.at_ hkn
            obtain ⟨rfl, rfl⟩ : f = f' ∧ ys = ys' := by
              have := hx.symm.trans hx'
              simpa using this
            have hsz := HS.out _ (List.mem_of_getElem? hx)
            have hk1 : kk ≤ 1048576 := by have := hri.len; dsimp only at hsz; omega
            have hk2 : kk' ≤ 1048576 := by have := hri'.len; dsimp only at hsz; omega
            have s1 : S3 w5 (.slice B kk d) kk ys := S3.of_args hkd hk1 hri
            have s2 : S3 w5 (.slice B' kk' d') kk' ys := S3.of_args hkd' hk2 hri'
            have BZ := bw.drew
            have hc : ∀ W, Below w5.heap.size w5 W → W.cell? ⟨b, off + k * 2, none⟩ = some (.int .i64 f) ∧ W.cell? ⟨b, off + k * 2 + 1, none⟩ = some (.slice B kk d) ∧ W.cell? ⟨b', off' + k * 2, none⟩ = some (.int .i64 f) ∧ W.cell? ⟨b', off' + k * 2 + 1, none⟩ = some (.slice B' kk' d') := fun W h =>
              ⟨(h.cell (p := ⟨b, off + k * 2, none⟩) hbb).trans q0, (h.cell (p := ⟨b, off + k * 2 + 1, none⟩) hbb).trans q1, (h.cell (p := ⟨b', off' + k * 2, none⟩) hbb').trans q0', (h.cell (p := ⟨b', off' + k * 2 + 1, none⟩) hbb').trans q1'⟩
            obtain ⟨e0, e1, e2, e3⟩ := hc _ bw
            have k0 : (0 : Int) ≤ k := by omega
            have k2 : (k : Int) < k3 := by omega
            clear hx hx' hsz hri hri'
            go_wp2_with fail
            go_region_held3 (fun W => W.cell? ⟨b, off + k * 2, none⟩ = some (.int .i64 f) ∧ W.cell? ⟨b, off + k * 2 + 1, none⟩ = some (.slice B kk d) ∧ W.cell? ⟨b', off' + k * 2, none⟩ = some (.int .i64 f) ∧ W.cell? ⟨b', off' + k * 2 + 1, none⟩ = some (.slice B' kk' d'))
              (first | exact hc _ BZ)
              (first | (go_at_call 17; refine (sameOps_c (s1.below BZ) (s2.below BZ)).mono ?_; rintro e w2 ⟨rfl, b2⟩; replace BZ := below_step BZ b2))
            go_wp2_with fail
            go_roundw
            case rel => exact ⟨k + 1, by omega, by go_num, BZ⟩
            case measure => simp [intOf]; omega
          · obtain rfl : k = k3 := by omega
            go_wp2_with fail
            go_ret
            exact ⟨rfl, below_step B5 bw⟩
      · exact absurd rfl (hno ms HVV.out)
  · go_enter Tryd.func5, Tryd.ntmps5
    go_wp2_with fail
    go_ret
    exact ⟨rfl, Below.refl _ _⟩

set_option maxRecDepth 100000 in
theorem lifted (os : Os) (started : os.Started) (H : Type) (enc : TypeId × Value → H) :
    ReturnsInHanded {} Tryd.checked os 5 .any (fun w args => (Rows.fnPlanTextSpec.pre enc Tryd.prog Tryd.f5 [] false w args ∧ laidMetH Tryd.prog Rows.fnPlanTextRow.laid w) ∧ sizedMet enc Tryd.prog Tryd.f5 (OpenSpec.ofChange Rows.fnPlanTextSpec) false w args)
      (Rows.fnPlanTextSpec.post enc Tryd.prog Tryd.f5 false true false false) := by
  refine returns_and_shaped (C := Tryd.checked) (X := fun w _ => laidMetH Tryd.prog Rows.fnPlanTextRow.laid w) (fun _ _ _ hh h => h.of_heap hh) own started (by kernel_rfl) Tryd.func5
    (ChangeSpec.witness_shaped (enc := enc) (C := Tryd.checked) (os := os) (X := fun w _ => laidMetH Tryd.prog Rows.fnPlanTextRow.laid w) false (World.laidAll Tryd.prog os Rows.fnPlanTextRow.laid) #[.slice none 0 0] 8 (World.laidAll_os _ _ _) (World.shaped_of_ZipB (by kernel_rfl) (by kernel_rfl)) (by kernel_rfl) (by kernel_rfl) (by kernel_rfl) (by rw [MakeChecks.laidMetH_plain _ _ _ (by kernel_rfl)]; exact laidMet_laidAll _ (by kernel_rfl) (by kernel_rfl))) ?_
  intro W base args ds gs before hval0 hW hL hsh
  have hval : ∀ (j : Nat) t v, Tryd.f5.params[j]? = some t → args[j]? = some v → Value.okWide Tryd.prog W .any base t v := hval0
  have hW' := hW
  obtain ⟨p, q, hA0, hV, rfl, hfz, hnd⟩ := hW
  have hA : DataW.TrodAll enc Tryd.prog W 0 (fun _ => true) true Tryd.f5.params.toList args.toList ds p := hA0
  rw [Tryd.params5] at hA hval
  obtain ⟨v0, vs0, d0, ds0, p0, q0, hargs, rfl, rfl, h0, r0⟩ := trodAll_cons hA
  obtain ⟨rfl, rfl, rfl⟩ := trodAll_nil r0
  obtain rfl : args = #[v0] := by cases args; simp_all
  obtain ⟨rfl, rfl⟩ := trodVars_none hV
  have k0 := h0
  have lt0 : ∀ x ∈ p0, x.block < W.heap.size := by obtain ⟨m, hm⟩ := k0; exact DataW.trod_lt m _ _ _ hm
  obtain ⟨A0, n0, c0, rfl, hnc0, hmx0, R0⟩ := open_bytesA (hval 0 28 v0 rfl rfl) h0
  clear hA0 hval0
  have hT : LibV W := libV_of hsh hL (by kernel_rfl) rfl rfl
  refine (walk A0 n0 c0 W hnc0 hmx0 R0 hT).mono fun e W' ⟨he, bel⟩ => ?_
  subst he
  exact ⟨_, rfl, _, _, _, [], _, [], hW', trodAll_mk1 (shut_bool Tryd.underlying4 _), (trodAll_cons_mk (Below.trod laidOut (by kernel_rfl) (of_decide_eq_true (by kernel_rfl)) k0 bel lt0) trodAll_mk0), rfl, bel.frame _, fun h => by cases h⟩
theorem row_holds : Rows.FnPlanTextSaid :=
  OpenClaim.holds_of_wide 5 Tryd.f5 rfl rfl rfl rfl rfl rfl rfl ⟨rfl, rfl, rfl, rfl, rfl⟩ rfl rfl rfl rfl rfl (by kernel_rfl) Tryd.func5 (by kernel_rfl)
    (of_decide_eq_true (by kernel_rfl)) (by unfold Func.isWrapper; first | (rw [if_pos (by decide +kernel)]; kernel_rfl) | (rw [if_neg (by decide +kernel)]; exact ⟨rfl, rfl⟩))
    (fun os started H enc _ => lifted os started H enc)
theorem proved : Rows.FnPlanTextCardSaid :=
  Claim7.holds_tied_plain_at .later [] [.data, .data, .data, .data, .sentinel, .sentinel, .pinned] true (true, "9a6dbd738c50d5d03bbe1b644f46545995e92737086977a0fec1e8a67b5f0af3") true
    row_holds (fun _ h => by cases h) (by kernel_rfl) (fun _ h => by cases h) fnPlanText_row_tie rfl ⟨rfl, rfl⟩ (by kernel_rfl) rfl
    (fun f fn hf hfn => by
      obtain rfl : f = 5 := Option.some.inj ((show Tryd.prog.funcNamed "loop.example/historychecker/laws.FnPlanText" = some 5 by kernel_rfl).symm.trans hf) |>.symm
      obtain rfl : fn = Tryd.f5 := (Option.some.inj (Tryd.func5.symm.trans hfn)).symm
      exact ⟨by kernel_rfl, fun j t ht => by
        rw [Tryd.params5] at ht
        have hm : t ∈ [28] := by simpa using Array.mem_of_getElem? ht
        have hall : ([28].all fun u => !Tryd.prog.wantsStandIn u) = true := by kernel_rfl
        exact (show Tryd.prog.wantsStandIn t = false by simpa using List.all_eq_true.1 hall t hm)⟩)
    (by kernel_rfl)

end Go.Proofs.YtefopnkicllpeaaDoor.fnPlanText
