/- FnRunSnapshots: both sides run alike with snapshots; the history of such a run is valid, has a right schedule, and the schedule's orders of commits allow the level of snapshots. The card ties the listed variables to the program's text; the law's road does not look into them. -/
import Derived.Test.YtcfkemchekmjbaaGreatDoorQzj
namespace Go.Proofs.YtcfkemchekmjbaaGreatDoor.fnRunSnapshots
open Go.ChangeShapes Go.WideShapes Go.ChangeAt Go.RowKit
set_option maxRecDepth 100000 in
set_option maxHeartbeats 16000000 in
theorem walk (A : Option Addr) (n c : Nat) (w : World) (hnc : n ≤ c) (hmx : c ≤ maxLen) (hb : BY w w.heap.size A n) :
    Calls Tryz.prog 3 #[.slice A n c] w fun e w' => e = .returned (.bool true) ∧ Below w.heap.size w w' := by
  by_cases hn : n ≤ 1048576
  · go_enter Tryz.func3, Tryz.ntmps3
    go_wp2_with fail
    refine (DrawRunSnapshots_c hnc hmx hb).mono ?_
    rintro e w1 ⟨A1, n1, c1, ms, u, k, xs, rfl, hnc1, hn5, hR, hsm, oU, hk, b1⟩
    have HSM := hide hsm
    clear hsm
    have sU := oU.si
    go_wp2_with fail
    refine (impl_RunSnapshots_c hR (by omega) HSM.out sU).mono ?_
    rintro e w2 ⟨v, mm, es, rfl, D, hsy, b2⟩
    have B2 := below_step b1 b2
    have sH := D.sts hsy
    obtain ⟨Ah, ch, rfl, _, hmm, hrt⟩ := sH
    have hll := hide hrt.1
    go_wp2_with fail
    refine (spec_RunSnapshots_c (hR.below b2) (by omega) HSM.out (sU.below b2)).mono ?_
    rintro e w3 ⟨v3, m3, es3, rfl, D3, hsy3, b3⟩
    have B3 := below_step B2 b3
    go_wp2_with fail
    refine (sameHistory_c ((D.sts hsy).below b3) (D3.sts hsy3) (snapL_four ms xs).small).mono ?_
    rintro e w4 ⟨rfl, b4⟩
    have B4 := below_step B3 b4
    have b24 := b3.trans (b4.mono b3.size)
    have hRT4 := hrt.below b24
    have hR4 := (hR.below b2).below b24
    have sU4 := (sU.below b2).below b24
    clear D hsy hrt D3 hsy3 hR sU oU B2 B3 b1 b2 b3 b4 b24
    go_wp2_with fail
    refine (spec_PlanValid_c hR4 (by omega) HSM.out).mono ?_
    rintro e w5 ⟨rfl, b5⟩
    have B5 := below_step B4 b5
    have hRT := hide (hRT4.below b5)
    have hR5 := hR4.below b5
    have sU5 := sU4.below b5
    clear hRT4 hR4 sU4 B4 b5
    have hpl := hide hR5.1
    cases hp : planB ms
    · have hf : snapL ms xs = [] := by simp [snapL, runB, hp]
      obtain rfl : mm = 0 := by rw [← hll.out, hf]; rfl
      clear hf
      have HP := hide hp; clear hp
      go_wp2_with fail
      refine (alive_c).mono ?_
      rintro e w6 ⟨rfl, b6⟩
      go_wp2_with fail
      go_ret
      exact ⟨rfl, below_step B5 b6⟩
    · have HP := hide hp; clear hp
      obtain ⟨As, cs, rfl, hsnc, hsn, hri⟩ := sU5
      have sU6 : SI w5 (.slice As k cs) k xs := ⟨As, cs, rfl, hsnc, hsn, hri⟩
      go_wp2_with fail
      refine (spec_ScheduleValid_c sU6 (by omega) (by omega)).mono ?_
      rintro e w6 ⟨rfl, rfl⟩
      cases hs : schedB (n1 : Int) xs
      · have hf : snapL ms xs = [] := by
          have : runB ms xs = false := by unfold runB; rw [hpl.out, hs]; simp
          simp [snapL, this]
        obtain rfl : mm = 0 := by rw [← hll.out, hf]; rfl
        clear hf hs
        go_wp2_with fail
        refine (alive_c).mono ?_
        rintro e w6 ⟨rfl, b6⟩
        go_wp2_with fail
        go_ret
        exact ⟨rfl, below_step B5 b6⟩
      · have hrun : runB ms xs = true := by unfold runB; rw [hpl.out, hs, HP.out]; rfl
        obtain ⟨hv, hb4, hd4, hex⟩ := snap_right hrun
        have hsm4 := (snapL_four ms xs).small
        have hm4 : mm ≤ 4 := by rw [← hll.out]; exact (snapL_four ms xs).1
        have HV := hide hv; have HB4 := hide hb4; have HD4 := hide hd4; have HEX := hide hex; have HS4 := hide hsm4; have BB := hide B5
        clear hs hrun hv hb4 hd4 hex hsm4 B5 hri hR5 sU6
        go_wp2_with fail
        refine (FindSnapshot_c hRT.out HV.out HB4.out HD4.out).mono ?_
        rintro e w6 ⟨A6, k6, c6, l6, r6, rfl, s6, b6, h1, h0⟩
        have hr6 : r6 = true := by
          cases r6
          · obtain ⟨l, hl⟩ := HEX.out
            rw [h0 rfl l] at hl; cases hl
          · rfl
        subst hr6
        have R6 := hide (h1 rfl)
        have hRT6 := hRT.out.below b6
        have B6 := hide (below_step BB.out b6)
        have S6 := hide s6
        clear b6 h1 h0 s6
        go_wp2_with fail
        refine (impl_HistoryValid_c hRT6 (by omega) HS4.out).mono ?_
        rintro e w7 ⟨rfl, b7⟩
        rw [HV.out]
        have hRT7 := hRT6.below b7
        have S7 := hide (S6.out.below b7)
        have B7 := hide (below_step B6.out b7)
        clear b7 hRT6 B6 S6
        go_wp2_with fail
        refine (CommitOrders_c hRT7 S7.out R6.out).mono ?_
        rintro e w8 ⟨A8, rfl, rl8, b8⟩
        have hRT8 := hRT7.below b8
        have B8 := hide (below_step B7.out b8)
        have RL8 := hide rl8
        obtain ⟨hol, hal⟩ := right_law R6.out
        have HOL := hide hol; have HAL := hide hal
        clear b8 hRT7 B7 rl8 hol hal
        go_wp2_with fail
        refine (LevelAllows_c (lv := 3) hRT8 HV.out RL8.out (Nat.le_refl _) (by omega)).mono ?_
        rintro e w9 ⟨rfl, b9⟩
        rw [HOL.out, HAL.out]
        have B9 := hide (below_step B8.out b9)
        go_wp2_with fail
        go_ret
        exact ⟨rfl, B9.out⟩
  · go_enter Tryz.func3, Tryz.ntmps3
    go_wp2_with fail
    go_ret
    exact ⟨rfl, Below.refl _ _⟩
theorem door_met (os : Os) (args : Array Value) : laidMetH Tryz.prog Rows.fnRunSnapshotsRow.laid ((World.doorLaid Tryz.prog 24 os).forCall (fun _ _ => 0) ⟨#[], args, []⟩).memory :=
  laidMetH_of_parts3 (fuel := 8) (laidMet_of_run' 8 (by kernel_rfl) (by kernel_rfl)) (by kernel_rfl) (by kernel_rfl)
set_option maxRecDepth 100000 in
theorem lifted (os : Os) (started : os.Started) (H : Type) (enc : TypeId × Value → H) :
    ReturnsInHanded {} Tryz.checked os 3 .any (fun w args => (Rows.fnRunSnapshotsSpec.pre enc Tryz.prog Tryz.f3 [] false w args ∧ laidMetH Tryz.prog Rows.fnRunSnapshotsRow.laid w) ∧ sizedMet enc Tryz.prog Tryz.f3 (OpenSpec.ofChange Rows.fnRunSnapshotsSpec) false w args)
      (Rows.fnRunSnapshotsSpec.post enc Tryz.prog Tryz.f3 false true false false) := by
  refine returnsInHanded_of_change_and (C := Tryz.checked) (X := fun w _ => laidMetH Tryz.prog Rows.fnRunSnapshotsRow.laid w) (fun _ _ _ hh h => h.of_heap hh) own started (by kernel_rfl) Tryz.func3
    (ChangeSpec.witness_shaped (enc := enc) (C := Tryz.checked) (os := os) (X := fun w _ => laidMetH Tryz.prog Rows.fnRunSnapshotsRow.laid w) false (World.doorLaid Tryz.prog 24 os) #[.slice none 0 0] 8 rfl (World.shaped_of_RefB (by kernel_rfl) (by kernel_rfl)) (by kernel_rfl) (by kernel_rfl) (by kernel_rfl) (door_met os _)) ?_
  intro W base args ds gs before hval0 hW _ _ _ _
  have hval : ∀ (j : Nat) t v, Tryz.f3.params[j]? = some t → args[j]? = some v → Value.okWide Tryz.prog W .any base t v := hval0
  have hW' := hW
  obtain ⟨p, q, hA0, hV, rfl, hfz, hnd⟩ := hW
  have hA : DataW.TrodAll enc Tryz.prog W 0 (fun _ => true) true Tryz.f3.params.toList args.toList ds p := hA0
  rw [Tryz.params3] at hA hval
  obtain ⟨v0, vs0, d0, ds0, p0, q0, hargs, rfl, rfl, h0, r0⟩ := trodAll_cons hA
  obtain ⟨rfl, rfl, rfl⟩ := trodAll_nil r0
  obtain rfl : args = #[v0] := by cases args; simp_all
  obtain ⟨rfl, rfl⟩ := trodVars_none hV
  have k0 := h0
  have lt0 : ∀ x ∈ p0, x.block < W.heap.size := by obtain ⟨m, hm⟩ := k0; exact DataW.trod_lt m _ _ _ hm
  obtain ⟨A0, n0, c0, rfl, hnc0, hmx0, R0⟩ := open_bytesA (hval 0 22 v0 rfl rfl) h0
  clear hA0 hval0
  refine (walk A0 n0 c0 W hnc0 hmx0 R0).mono fun e W' ⟨he, bel⟩ => ?_
  subst he
  exact ⟨_, rfl, _, _, _, [], _, [], hW', trodAll_mk1 (shut_bool Tryz.underlying4 _), (trodAll_cons_mk (Below.trod laidOut (by kernel_rfl) (of_decide_eq_true (by kernel_rfl)) k0 bel lt0) trodAll_mk0), rfl, bel.frame _, fun h => by cases h⟩
theorem row_holds : Rows.FnRunSnapshotsSaid :=
  OpenClaim.holds_of_wide 3 Tryz.f3 rfl rfl rfl rfl rfl rfl rfl ⟨rfl, rfl, rfl, rfl, rfl⟩ rfl rfl rfl rfl rfl (by kernel_rfl) Tryz.func3 (by kernel_rfl)
    (of_decide_eq_true (by kernel_rfl)) (by unfold Func.isWrapper; first | (rw [if_pos (by decide +kernel)]; kernel_rfl) | (rw [if_neg (by decide +kernel)]; exact ⟨rfl, rfl⟩))
    (fun os started H enc _ => lifted os started H enc)
theorem proved : Rows.FnRunSnapshotsCardSaid :=
  Claim7.holds_tied_plain_at .later [] [.data, .data, .data] true (true, "9af5077e89de15cab046327a150948ab53ebcc6c2c03e15c70c450fd55c3e928") false
    row_holds (fun _ h => by cases h) (by kernel_rfl) (fun _ h => by cases h) fnRunSnapshots_row_tie rfl ⟨rfl, rfl⟩ (by kernel_rfl) rfl
    (fun f fn hf hfn => by
      obtain rfl : f = 3 := Option.some.inj ((show Tryz.prog.funcNamed "loop.example/historychecker/laws.FnRunSnapshots" = some 3 by kernel_rfl).symm.trans hf) |>.symm
      obtain rfl : fn = Tryz.f3 := (Option.some.inj (Tryz.func3.symm.trans hfn)).symm
      exact ⟨by kernel_rfl, fun j t ht => by
        rw [Tryz.params3] at ht
        have hm : t ∈ [22] := by simpa using Array.mem_of_getElem? ht
        have hall : ([22].all fun u => !Tryz.prog.wantsStandIn u) = true := by kernel_rfl
        exact (show Tryz.prog.wantsStandIn t = false by simpa using List.all_eq_true.1 hall t hm)⟩)
    (by kernel_rfl)
end Go.Proofs.YtcfkemchekmjbaaGreatDoor.fnRunSnapshots
