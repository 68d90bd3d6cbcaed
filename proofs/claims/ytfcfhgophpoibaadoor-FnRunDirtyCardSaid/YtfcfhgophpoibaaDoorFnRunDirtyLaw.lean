/- FnRunDirty: histories follow plans; a valid history comes, with a transaction for every draft, with at most its steps; one that comes often enough is committed. The card ties the listed variables to the program's text; the law's road does not look into them. -/
import Derived.Test.YtfcfhgophpoibaaDoorOpenB
import Derived.Test.YtfcfhgophpoibaaDoorDrawPt
import Derived.Test.YtfcfhgophpoibaaDoorSameH
import Derived.Test.YtfcfhgophpoibaaDoorHistI
import Derived.Test.YtfcfhgophpoibaaDoorDirtyP
namespace Go.Proofs.YtfcfhgophpoibaaDoor.fnRunDirty
open Go.ChangeShapes Go.WideShapes Go.ChangeAt Go.RowKit

set_option maxRecDepth 100000 in
set_option maxHeartbeats 16000000 in
theorem walk (A : Option Addr) (n c : Nat) (w : World) (hnc : n ≤ c) (hmx : c ≤ maxLen) (hb : BY w w.heap.size A n) :
    Calls Tryd.prog 3 #[.slice A n c] w fun e w' => e = .returned (.bool true) ∧ Below w.heap.size w w' := by
  by_cases hn : n ≤ 1048576
  · go_enter Tryd.func3, Tryd.ntmps3
    go_wp2_with fail
    refine (DrawRunDirty_c hnc hmx hb).mono ?_
    rintro e w1 ⟨A1, n1, c1, ms, u, k, xs, rfl, hnc1, hn5, hR, hsm, oU, hk, b1⟩
    have HSM := hide hsm
    clear hsm
    have sU := oU.si
    go_wp2_with fail
    refine (impl_RunDirty_c hR (by omega) HSM.out sU).mono ?_
    rintro e w2 ⟨v, mm, es, rfl, D, hsy, b2⟩
    have B2 := below_step b1 b2
    have sH := D.sts hsy
    obtain ⟨Ah, ch, rfl, _, hmm, hrt⟩ := sH
    have hll := hide hrt.1
    go_wp2_with fail
    refine (spec_RunDirty_c (hR.below b2) (by omega) HSM.out (sU.below b2)).mono ?_
    rintro e w3 ⟨v3, m3, es3, rfl, D3, hsy3, b3⟩
    have B3 := below_step B2 b3
    go_wp2_with fail
    refine (sameHistory_c ((D.sts hsy).below b3) (D3.sts hsy3) (dirtyL_four ms xs).small).mono ?_
    rintro e w4 ⟨rfl, b4⟩
    have B4 := below_step B3 b4
    have b24 := b3.trans (b4.mono b3.size)
    have hRT4 := hrt.below b24
    have hR4 := (hR.below b2).below b24
    have sU4 := (sU.below b2).below b24
    clear D hsy hrt D3 hsy3 hR sU oU B2 B3 b1 b2 b3 b4 b24
    go_wp2_with fail
    refine (spec_PlanValid_c hR4 (by omega) HSM.out).mono ?_
    rintro e w5 ⟨rfl, b5⟩
    have B5 := below_step B4 b5
    have hRT := hide (hRT4.below b5)
    have hR5 := hR4.below b5
    have sU5 := sU4.below b5
    clear hRT4 hR4 sU4 B4 b5
    have hpl := hide hR5.1
    cases hp : planB ms
    · have hf : dirtyL ms xs = [] := by simp [dirtyL, runB, hp]
      obtain rfl : mm = 0 := by rw [← hll.out, hf]; rfl
      clear hf
      have HP := hide hp; clear hp
      go_wp2_with fail
      refine (alive_c).mono ?_
      rintro e w6 ⟨rfl, b6⟩
      go_wp2_with fail
      go_ret
      exact ⟨rfl, below_step B5 b6⟩
    · have HP := hide hp; clear hp
      obtain ⟨As, cs, rfl, hsnc, hsn, hri⟩ := sU5
      have sU6 : SI w5 (.slice As k cs) k xs := ⟨As, cs, rfl, hsnc, hsn, hri⟩
      go_wp2_with fail
      refine (spec_ScheduleValid_c sU6 (by omega) (by omega)).mono ?_
      rintro e w6 ⟨rfl, rfl⟩
      cases hs : schedB (n1 : Int) xs
      · have hf : dirtyL ms xs = [] := by
          have : runB ms xs = false := by unfold runB; rw [hpl.out, hs]; simp
          simp [dirtyL, this]
        obtain rfl : mm = 0 := by rw [← hll.out, hf]; rfl
        clear hf hs
        go_wp2_with fail
        refine (alive_c).mono ?_
        rintro e w6 ⟨rfl, b6⟩
        go_wp2_with fail
        go_ret
        exact ⟨rfl, below_step B5 b6⟩
      · have hrun : runB ms xs = true := by unfold runB; rw [hpl.out, hs, HP.out]; rfl
        obtain rfl : mm = n1 := by rw [← hll.out, ← hpl.out]; exact (dirtyL_fits hrun).1
        have HRUN := hide hrun; have BB := hide B5
        have hxl := hide hri.len
        have HRI := hide hri; have HR := hide hR5
        clear hs hrun B5 hri hR5 sU6
        go_wp2_with fail
        go_loopw [6] (fun i wr => ∃ j : Nat, i = .int .i64 j ∧ j ≤ mm ∧ Below w5.heap.size w5 wr) (fun i _ => mm - (intOf i).toNat)
        case atStart => exact ⟨0, rfl, Nat.zero_le _, Below.refl _ _⟩
        case round =>
          obtain ⟨j, rfl, hj, bw⟩ := hrel
          by_cases hjk : j < mm
          · obtain ⟨bh, oh, f, ys, dn, B, q, d, rfl, hbh, hx, p0, p1, p2, _, _, hr3⟩ := hRT.out.at_ hjk
            obtain ⟨bp, op, f', ys', B', q', d', rfl, hbp, hx', p0', p1', _, _, hr3'⟩ := HR.out.at_ hjk
            obtain ⟨r1, r2, r3⟩ := dirtyL_at HRUN.out hx' hx
            dsimp only at r1 r2 r3
            rw [hr3.len, hr3'.len, hxl.out] at r2
            rw [hr3'.len, hxl.out] at r3
            subst r1
            have HX := hide hx; have HX' := hide hx'
            clear hx hx' hr3 hr3'
            have hcnt := cntTo_le xs j k
            have BW := hide bw; clear bw
            have R2 := hide r2; have R3 := hide r3; clear r2 r3
            have P0 := hide p0; have P1 := hide p1; have P2 := hide p2; have P0' := hide p0'; have P1' := hide p1'
            clear p0 p1 p2 p0' p1'
            have j0 : (0 : Int) ≤ j := by omega
            have j1 : (j : Int) < mm := by omega
            go_wp2_with fail
            go_loopw [7, 8] (fun v i wr2 => ∃ i2 : Nat, i = .int .i64 i2 ∧ i2 ≤ k ∧ v = .int .i64 (cntTo xs j i2) ∧ Below w5.heap.size w5 wr2) (fun _ i _ => k - (intOf i).toNat)
            case atStart => exact ⟨0, rfl, Nat.zero_le _, by rw [cntTo_zero]; rfl, BW.out⟩
            case round =>
              clear BW
              obtain ⟨i2, rfl, hi2, rfl, bw2⟩ := hrel
              have BW := hide bw2; clear bw2
              have hc2 := cntTo_le xs j i2
              by_cases hik : i2 < k
              · obtain ⟨b, off, x, rfl, hbb, hx, hc⟩ := HRI.out.at_ hik
                have a0 := (BW.out.cell (p := ⟨b, off + i2, none⟩) hbb).trans hc
                have i0 : (0 : Int) ≤ i2 := by omega
                have i1 : (i2 : Int) < k := by omega
                have HXX := hide hx
                clear hc hx
                by_cases hxj : x = (j : Int)
                · have hy := cntTo_yes (k := j) (by rw [← hxj]; exact HXX.out)
                  have HY := hide hy
                  subst hxj
                  clear hy
                  go_wp2_with fail
                  go_roundw
                  case rel => exact ⟨i2 + 1, by go_num, by omega, by rw [HY.out]; go_num, BW.out⟩
                  case measure => simp [intOf]; omega
                · have hy := cntTo_no HXX.out hxj
                  have HY := hide hy
                  have hxb : (x == (j : Int)) = false := by simpa using hxj
                  clear hy hxj
                  go_wp2_with fail
                  go_roundw
                  case rel => exact ⟨i2 + 1, by go_num, by omega, by rw [HY.out], BW.out⟩
                  case measure => simp [intOf]; omega
              · obtain rfl : i2 = k := by omega
                obtain ⟨m, hm⟩ : ∃ m, cntTo xs j i2 = m := ⟨_, rfl⟩
                rw [hm] at R2 R3 hcnt ⊢
                have c0 := (BW.out.cell (p := ⟨bh, oh + j * 3, none⟩) hbh).trans P0.out
                have c1 := (BW.out.cell (p := ⟨bh, oh + j * 3 + 1, none⟩) hbh).trans P1.out
                have c2 := (BW.out.cell (p := ⟨bh, oh + j * 3 + 2, none⟩) hbh).trans P2.out
                have d0 := (BW.out.cell (p := ⟨bp, op + j * 2, none⟩) hbp).trans P0'.out
                have d1 := (BW.out.cell (p := ⟨bp, op + j * 2 + 1, none⟩) hbp).trans P1'.out
                clear hm hc2
                have g1 : decide ((j : Int) < 0) = false := by simp
                have g2 : decide ((mm : Int) ≤ j) = false := by simp; omega
                have g2n : decide (mm ≤ j) = false := by simp; omega
                by_cases hqm : q' ≤ m
                · obtain rfl : q = q' := by have := R2.out; omega
                  obtain rfl : dn = true := by rw [R3.out]; simp [hqm]
                  have m1 : (if (q : Int) < (m : Int) then (q : Int) else (m : Int)) = q := by split <;> omega
                  have m2 : (if q < m then (q : Int) else (m : Int)) = q := by split <;> omega
                  have m3 : decide (q ≤ m) = true := by simp [hqm]
                  have m4 : ((q : Int) != q) = false := by simp
                  have m5 : (true != true) = false := rfl
                  have m6 : (f != f) = false := by simp
                  go_wp2_with fail
                  go_big_quiet (fail)
                  go_wp2_with fail
                  go_roundw
                  case rel => exact ⟨j + 1, by go_num, by omega, below_drewN BW.out _⟩
                  case measure => simp [intOf]; omega
                · obtain rfl : q = m := by have := R2.out; omega
                  obtain rfl : dn = false := by rw [R3.out]; simp [hqm]
                  have m1 : ¬ ((q' : Int) < (q : Int)) := by omega
                  have m2 : ¬ (q' < q) := by omega
                  have m3 : decide (q' ≤ q) = false := by simp; omega
                  have m4 : ((q : Int) != q) = false := by simp
                  have m6 : (f != f) = false := by simp
                  go_wp2_with fail
                  go_big_quiet (fail)
                  go_wp2_with fail
                  go_roundw
                  case rel => exact ⟨j + 1, by go_num, by omega, below_drewN BW.out _⟩
                  case measure => simp [intOf]; omega
          · obtain rfl : j = mm := by omega
            go_wp2_with fail
            refine (impl_HistoryValid_c (hRT.out.below bw) (by omega) (dirtyL_four ms xs).small).mono ?_
            rintro e w6 ⟨rfl, b6⟩
            rw [dirtyL_valid HRUN.out]
            go_wp2_with fail
            go_ret
            exact ⟨by simp, below_step (below_step BB.out bw) b6⟩
  · go_enter Tryd.func3, Tryd.ntmps3
    go_wp2_with fail
    go_ret
    exact ⟨rfl, Below.refl _ _⟩

theorem door_met (os : Os) (args : Array Value) : laidMetH Tryd.prog Rows.fnRunDirtyRow.laid ((World.doorLaid Tryd.prog 24 os).forCall (fun _ _ => 0) ⟨#[], args, []⟩).memory :=
  laidMetH_of_parts3 (fuel := 8) (laidMet_of_run' 8 (by kernel_rfl) (by kernel_rfl)) (by kernel_rfl) (by kernel_rfl)
set_option maxRecDepth 100000 in
theorem lifted (os : Os) (started : os.Started) (H : Type) (enc : TypeId × Value → H) :
    ReturnsInHanded {} Tryd.checked os 3 .any (fun w args => (Rows.fnRunDirtySpec.pre enc Tryd.prog Tryd.f3 [] false w args ∧ laidMetH Tryd.prog Rows.fnRunDirtyRow.laid w) ∧ sizedMet enc Tryd.prog Tryd.f3 (OpenSpec.ofChange Rows.fnRunDirtySpec) false w args)
      (Rows.fnRunDirtySpec.post enc Tryd.prog Tryd.f3 false true false false) := by
  refine returnsInHanded_of_change_and (C := Tryd.checked) (X := fun w _ => laidMetH Tryd.prog Rows.fnRunDirtyRow.laid w) (fun _ _ _ hh h => h.of_heap hh) own started (by kernel_rfl) Tryd.func3
    (ChangeSpec.witness_shaped (enc := enc) (C := Tryd.checked) (os := os) (X := fun w _ => laidMetH Tryd.prog Rows.fnRunDirtyRow.laid w) false (World.doorLaid Tryd.prog 24 os) #[.slice none 0 0] 8 rfl (World.shaped_of_RefB (by kernel_rfl) (by kernel_rfl)) (by kernel_rfl) (by kernel_rfl) (by kernel_rfl) (door_met os _)) ?_
  intro W base args ds gs before hval0 hW _ _ _ _
  have hval : ∀ (j : Nat) t v, Tryd.f3.params[j]? = some t → args[j]? = some v → Value.okWide Tryd.prog W .any base t v := hval0
  have hW' := hW
  obtain ⟨p, q, hA0, hV, rfl, hfz, hnd⟩ := hW
  have hA : DataW.TrodAll enc Tryd.prog W 0 (fun _ => true) true Tryd.f3.params.toList args.toList ds p := hA0
  rw [Tryd.params3] at hA hval
  obtain ⟨v0, vs0, d0, ds0, p0, q0, hargs, rfl, rfl, h0, r0⟩ := trodAll_cons hA
  obtain ⟨rfl, rfl, rfl⟩ := trodAll_nil r0
  obtain rfl : args = #[v0] := by cases args; simp_all
  obtain ⟨rfl, rfl⟩ := trodVars_none hV
  have k0 := h0
  have lt0 : ∀ x ∈ p0, x.block < W.heap.size := by obtain ⟨m, hm⟩ := k0; exact DataW.trod_lt m _ _ _ hm
  obtain ⟨A0, n0, c0, rfl, hnc0, hmx0, R0⟩ := open_bytesA (hval 0 22 v0 rfl rfl) h0
  clear hA0 hval0
  refine (walk A0 n0 c0 W hnc0 hmx0 R0).mono fun e W' ⟨he, bel⟩ => ?_
  subst he
  exact ⟨_, rfl, _, _, _, [], _, [], hW', trodAll_mk1 (shut_bool Tryd.underlying4 _), (trodAll_cons_mk (Below.trod laidOut (by kernel_rfl) (of_decide_eq_true (by kernel_rfl)) k0 bel lt0) trodAll_mk0), rfl, bel.frame _, fun h => by cases h⟩
theorem row_holds : Rows.FnRunDirtySaid :=
  OpenClaim.holds_of_wide 3 Tryd.f3 rfl rfl rfl rfl rfl rfl rfl ⟨rfl, rfl, rfl, rfl, rfl⟩ rfl rfl rfl rfl rfl (by kernel_rfl) Tryd.func3 (by kernel_rfl)
    (of_decide_eq_true (by kernel_rfl)) (by unfold Func.isWrapper; first | (rw [if_pos (by decide +kernel)]; kernel_rfl) | (rw [if_neg (by decide +kernel)]; exact ⟨rfl, rfl⟩))
    (fun os started H enc _ => lifted os started H enc)
theorem proved : Rows.FnRunDirtyCardSaid :=
  Claim7.holds_tied_plain_at .later [] [.data, .data, .data] true (true, "a0b8502a6980d9dabde8adba7cd9e4bc28be48685489fa259a7add24dcf9ed36") false
    row_holds (fun _ h => by cases h) (by kernel_rfl) (fun _ h => by cases h) fnRunDirty_row_tie rfl ⟨rfl, rfl⟩ (by kernel_rfl) rfl
    (fun f fn hf hfn => by
      obtain rfl : f = 3 := Option.some.inj ((show Tryd.prog.funcNamed "loop.example/historychecker/laws.FnRunDirty" = some 3 by kernel_rfl).symm.trans hf) |>.symm
      obtain rfl : fn = Tryd.f3 := (Option.some.inj (Tryd.func3.symm.trans hfn)).symm
      exact ⟨by kernel_rfl, fun j t ht => by
        rw [Tryd.params3] at ht
        have hm : t ∈ [22] := by simpa using Array.mem_of_getElem? ht
        have hall : ([22].all fun u => !Tryd.prog.wantsStandIn u) = true := by kernel_rfl
        exact (show Tryd.prog.wantsStandIn t = false by simpa using List.all_eq_true.1 hall t hm)⟩)
    (by kernel_rfl)
end Go.Proofs.YtfcfhgophpoibaaDoor.fnRunDirty
