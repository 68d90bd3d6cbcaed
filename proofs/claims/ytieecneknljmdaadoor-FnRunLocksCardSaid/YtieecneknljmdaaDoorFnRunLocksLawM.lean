/- FnRunLocks: both sides run alike with locks; the history of a run with locks is valid, and has a serial order. The card ties the listed variables to the program's text; the law's road does not look into them. -/
import Derived.Test.YtieecneknljmdaaDoorOpenB
import Derived.Test.YtieecneknljmdaaDoorDrawPt
import Derived.Test.YtieecneknljmdaaDoorSameH
import Derived.Test.YtieecneknljmdaaDoorRlMa
import Derived.Test.YtieecneknljmdaaDoorRlMb
import Derived.Test.YtieecneknljmdaaDoorRlMd
import Derived.Test.YtieecneknljmdaaDoorRlMf
namespace Go.Proofs.YtieecneknljmdaaDoor.fnRunLocks
open Go.ChangeShapes Go.WideShapes Go.ChangeAt Go.RowKit

set_option maxRecDepth 100000 in
set_option maxHeartbeats 16000000 in
theorem walk (A : Option Addr) (n c : Nat) (w : World) (hnc : n ≤ c) (hmx : c ≤ maxLen) (hb : BY w w.heap.size A n) :
    Calls Tryd.prog 4 #[.slice A n c] w fun e w' => e = .returned (.bool true) ∧ Below w.heap.size w w' := by
  by_cases hn : n ≤ 1048576
  · go_enter Tryd.func4, Tryd.ntmps4
    go_wp2_with fail
    refine (DrawRunLocks_c hnc hmx hb).mono ?_
    rintro e w1 ⟨A1, n1, c1, ms, u, k, xs, rfl, hnc1, hn5, hR, hsm, oU, hk, b1⟩
    have HSM := hide hsm
    clear hsm
    have sU := oU.si
    go_wp2_with fail
    refine (impl_RunLocks_c hR (by omega) HSM.out sU).mono ?_
    rintro e w2 ⟨v, mm, es, rfl, D, hsy, b2⟩
    have B2 := below_step b1 b2
    have sH := D.sts hsy
    obtain ⟨Ah, ch, rfl, _, hmm, hrt⟩ := sH
    have hll := hide hrt.1
    go_wp2_with fail
    refine (spec_RunLocks_c (hR.below b2) (by omega) HSM.out (sU.below b2)).mono ?_
    rintro e w3 ⟨v3, m3, es3, rfl, D3, hsy3, b3⟩
    have B3 := below_step B2 b3
    go_wp2_with fail
    refine (sameHistory_c ((D.sts hsy).below b3) (D3.sts hsy3) (lockL_four ms xs).small).mono ?_
    rintro e w4 ⟨rfl, b4⟩
    have B4 := below_step B3 b4
    have b24 := b3.trans (b4.mono b3.size)
    have hRT4 := hrt.below b24
    have hR4 := (hR.below b2).below b24
    have sU4 := (sU.below b2).below b24
    clear D hsy hrt D3 hsy3 hR sU oU B2 B3 b1 b2 b3 b4 b24
    go_wp2_with fail
    refine (spec_PlanValid_c hR4 (by omega) HSM.out).mono ?_
    rintro e w5 ⟨rfl, b5⟩
    have B5 := below_step B4 b5
    have hRT := hide (hRT4.below b5)
    have hR5 := hR4.below b5
    have sU5 := sU4.below b5
    clear hRT4 hR4 sU4 B4 b5
    have hpl := hide hR5.1
    cases hp : planB ms
    · have hf : lockL ms xs = [] := by simp [lockL, runB, hp]
      obtain rfl : mm = 0 := by rw [← hll.out, hf]; rfl
      clear hf
      have HP := hide hp; clear hp
      go_wp2_with fail
      refine (alive_c).mono ?_
      rintro e w6 ⟨rfl, b6⟩
      go_wp2_with fail
      go_ret
      exact ⟨rfl, below_step B5 b6⟩
    · have HP := hide hp; clear hp
      obtain ⟨As, cs, rfl, hsnc, hsn, hri⟩ := sU5
      have sU6 : SI w5 (.slice As k cs) k xs := ⟨As, cs, rfl, hsnc, hsn, hri⟩
      go_wp2_with fail
      refine (spec_ScheduleValid_c sU6 (by omega) (by omega)).mono ?_
      rintro e w6 ⟨rfl, rfl⟩
      cases hs : schedB (n1 : Int) xs
      · have hf : lockL ms xs = [] := by
          have : runB ms xs = false := by unfold runB; rw [hpl.out, hs]; simp
          simp [lockL, this]
        obtain rfl : mm = 0 := by rw [← hll.out, hf]; rfl
        clear hf hs
        go_wp2_with fail
        refine (alive_c).mono ?_
        rintro e w6 ⟨rfl, b6⟩
        go_wp2_with fail
        go_ret
        exact ⟨rfl, below_step B5 b6⟩
      · have hrun : runB ms xs = true := by unfold runB; rw [hpl.out, hs, HP.out]; rfl
        obtain ⟨hv, hpos⟩ := lockL_serial hrun
        have hsm4 := (lockL_four ms xs).small
        have hm4 : mm ≤ 4 := by rw [← hll.out]; exact (lockL_four ms xs).1
        have hfv : (fstV (lockL ms xs)).isSome = true := by
          unfold fstV; rw [hv, if_pos rfl, fst_found _ (doneL_nodup _)]; simpa using hpos
        have hky : ∀ t ∈ lockL ms xs, ∀ o ∈ t.2.1, (o.1 = 1 ∨ o.1 = 2) ∧ 0 ≤ o.2.1 ∧ o.2.1 ≤ 2 := fun t ht o ho => by
          obtain ⟨j, hj, hg⟩ := List.mem_iff_getElem.1 ho
          have := txnB_opH ((histB_parts hv).2.1 t ht) (k := j) (o := o) (by rw [← hg]; exact List.getElem?_eq_getElem hj)
          unfold opB at this
          simp only [Bool.and_eq_true, inB_iff] at this
          omega
        have HV := hide hv; have HFV := hide hfv; have HS4 := hide hsm4; have HKY := hide hky; have BB := hide B5
        clear hs hrun hv hpos hsm4 hfv hky B5 hri hR5 sU6
        go_wp2_with fail
        refine (impl_FindSerial_c hRT.out (by omega) HS4.out (fun _ => HKY.out)).mono ?_
        rintro e w6 ⟨v6, k6, rfl, _, b6⟩
        rw [HFV.out]
        have hRT6 := hRT.out.below b6
        have B6 := hide (below_step BB.out b6)
        clear b6
        go_wp2_with fail
        refine (impl_HistoryValid_c hRT6 (by omega) HS4.out).mono ?_
        rintro e w7 ⟨rfl, b7⟩
        rw [HV.out]
        go_wp2_with fail
        go_ret
        exact ⟨rfl, below_step B6.out b7⟩
  · go_enter Tryd.func4, Tryd.ntmps4
    go_wp2_with fail
    go_ret
    exact ⟨rfl, Below.refl _ _⟩

theorem door_met (os : Os) (args : Array Value) : laidMetH Tryd.prog Rows.fnRunLocksRow.laid ((World.doorLaid Tryd.prog 24 os).forCall (fun _ _ => 0) ⟨#[], args, []⟩).memory :=
  laidMetH_of_parts3 (fuel := 8) (laidMet_of_run' 8 (by kernel_rfl) (by kernel_rfl)) (by kernel_rfl) (by kernel_rfl)
set_option maxRecDepth 100000 in
theorem lifted (os : Os) (started : os.Started) (H : Type) (enc : TypeId × Value → H) :
    ReturnsInHanded {} Tryd.checked os 4 .any (fun w args => (Rows.fnRunLocksSpec.pre enc Tryd.prog Tryd.f4 [] false w args ∧ laidMetH Tryd.prog Rows.fnRunLocksRow.laid w) ∧ sizedMet enc Tryd.prog Tryd.f4 (OpenSpec.ofChange Rows.fnRunLocksSpec) false w args)
      (Rows.fnRunLocksSpec.post enc Tryd.prog Tryd.f4 false true false false) := by
  refine returnsInHanded_of_change_and (C := Tryd.checked) (X := fun w _ => laidMetH Tryd.prog Rows.fnRunLocksRow.laid w) (fun _ _ _ hh h => h.of_heap hh) own started (by kernel_rfl) Tryd.func4
    (ChangeSpec.witness_shaped (enc := enc) (C := Tryd.checked) (os := os) (X := fun w _ => laidMetH Tryd.prog Rows.fnRunLocksRow.laid w) false (World.doorLaid Tryd.prog 24 os) #[.slice none 0 0] 8 rfl (World.shaped_of_RefB (by kernel_rfl) (by kernel_rfl)) (by kernel_rfl) (by kernel_rfl) (by kernel_rfl) (door_met os _)) ?_
  intro W base args ds gs before hval0 hW _ _ _ _
  have hval : ∀ (j : Nat) t v, Tryd.f4.params[j]? = some t → args[j]? = some v → Value.okWide Tryd.prog W .any base t v := hval0
  have hW' := hW
  obtain ⟨p, q, hA0, hV, rfl, hfz, hnd⟩ := hW
  have hA : DataW.TrodAll enc Tryd.prog W 0 (fun _ => true) true Tryd.f4.params.toList args.toList ds p := hA0
  rw [Tryd.params4] at hA hval
  obtain ⟨v0, vs0, d0, ds0, p0, q0, hargs, rfl, rfl, h0, r0⟩ := trodAll_cons hA
  obtain ⟨rfl, rfl, rfl⟩ := trodAll_nil r0
  obtain rfl : args = #[v0] := by cases args; simp_all
  obtain ⟨rfl, rfl⟩ := trodVars_none hV
  have k0 := h0
  have lt0 : ∀ x ∈ p0, x.block < W.heap.size := by obtain ⟨m, hm⟩ := k0; exact DataW.trod_lt m _ _ _ hm
  obtain ⟨A0, n0, c0, rfl, hnc0, hmx0, R0⟩ := open_bytesA (hval 0 22 v0 rfl rfl) h0
  clear hA0 hval0
  refine (walk A0 n0 c0 W hnc0 hmx0 R0).mono fun e W' ⟨he, bel⟩ => ?_
  subst he
  exact ⟨_, rfl, _, _, _, [], _, [], hW', trodAll_mk1 (shut_bool Tryd.underlying4 _), (trodAll_cons_mk (Below.trod laidOut (by kernel_rfl) (of_decide_eq_true (by kernel_rfl)) k0 bel lt0) trodAll_mk0), rfl, bel.frame _, fun h => by cases h⟩
theorem row_holds : Rows.FnRunLocksSaid :=
  OpenClaim.holds_of_wide 4 Tryd.f4 rfl rfl rfl rfl rfl rfl rfl ⟨rfl, rfl, rfl, rfl, rfl⟩ rfl rfl rfl rfl rfl (by kernel_rfl) Tryd.func4 (by kernel_rfl)
    (of_decide_eq_true (by kernel_rfl)) (by unfold Func.isWrapper; first | (rw [if_pos (by decide +kernel)]; kernel_rfl) | (rw [if_neg (by decide +kernel)]; exact ⟨rfl, rfl⟩))
    (fun os started H enc _ => lifted os started H enc)
theorem proved : Rows.FnRunLocksCardSaid :=
  Claim7.holds_tied_plain_at .later [] [.data, .data, .data] true (true, "cb3fa9a0bf3704d2c89c6b08fba39eb4e8d16dbf207869377574cbb06caf877a") false
    row_holds (fun _ h => by cases h) (by kernel_rfl) (fun _ h => by cases h) fnRunLocks_row_tie rfl ⟨rfl, rfl⟩ (by kernel_rfl) rfl
    (fun f fn hf hfn => by
      obtain rfl : f = 4 := Option.some.inj ((show Tryd.prog.funcNamed "loop.example/historychecker/laws.FnRunLocks" = some 4 by kernel_rfl).symm.trans hf) |>.symm
      obtain rfl : fn = Tryd.f4 := (Option.some.inj (Tryd.func4.symm.trans hfn)).symm
      exact ⟨by kernel_rfl, fun j t ht => by
        rw [Tryd.params4] at ht
        have hm : t ∈ [22] := by simpa using Array.mem_of_getElem? ht
        have hall : ([22].all fun u => !Tryd.prog.wantsStandIn u) = true := by kernel_rfl
        exact (show Tryd.prog.wantsStandIn t = false by simpa using List.all_eq_true.1 hall t hm)⟩)
    (by kernel_rfl)

end Go.Proofs.YtieecneknljmdaaDoor.fnRunLocks
