/- FnReportOf: both sides report alike; a report has four lines, and its third line tells the best level. The card ties the listed variables to the program's text; the table of powers of ten is laid by the row's condition. -/
import Derived.Test.YtcfkemchekmjbaaGreatDoorQzp
import Derived.Deep.RegionHeld3
import Derived.Deep.DeepCutAuto
import Derived.BigQuiet
namespace Go.Proofs.YtcfkemchekmjbaaGreatDoor.fnReportOf
open Go.ChangeShapes Go.WideShapes Go.ChangeAt Go.RowKit
theorem ops_le : ∀ (ts : List Tx) (q : Nat), (∀ t ∈ ts, t.2.1.length ≤ q) → (allOps ts).length ≤ ts.length * q
  | [], q, _ => by simp [allOps]
  | t :: ts, q, h => by
    have h1 := ops_le ts q (fun t ht => h t (by simp [ht]))
    have h2 := h t (by simp)
    simp only [allOps, List.flatMap_cons, List.length_append, List.length_cons, Nat.add_mul, Nat.one_mul] at *
    omega
def DrawR (w : World) (e : Ending) (w' : World) : Prop := ∃ A n c ts, e = .returned (.slice A n c) ∧ RTs w' A n ts ∧ n ≤ 8 ∧ (∀ t ∈ ts, t.2.1.length ≤ 100) ∧ Below w.heap.size w w'
set_option maxRecDepth 100000 in
theorem DrawReportOf_c {w : World} {A : Option Addr} {n c : Nat} (hnc : n ≤ c) (hmx : c ≤ maxLen) (hb : BY w w.heap.size A n) : Calls Tryz.prog 26 #[.slice A n c] w (DrawR w) := by
  go_enter Tryz.func26, Tryz.ntmps26
  go_wp2_with fail
  refine (l20Open_c hnc hmx hb).mono ?_
  rintro e w1 ⟨rfl, r1, b1⟩
  go_wp2_with fail
  refine (l20History_c r1 (by omega) (by omega) (by omega) (by omega) (by omega)).mono ?_
  rintro e w2 ⟨v, k, rfl, l2, hk, r2, g2⟩
  obtain ⟨A', c', ts, rfl, hkc, hrl, hts⟩ := l2.rts
  go_wp2_with fail
  go_ret
  exact ⟨_, _, _, ts, rfl, hrl, hk, hts, belowG b1 g2 (Nat.le_refl _)⟩
theorem all_c {A : Option Addr} {n c : Nat} {ts : List Tx} {w : World} (hr : RTs w A n ts) (hn : n ≤ 1048576) (hsm : SmallT ts) :
    Calls Tryz.prog 28 #[.slice A n c] w (AllR w (allV ts)) := by
  cases hh : histB ts
  · exact AllOrders_no hr hn hsm hh
  · exact AllOrders_c hr hh
set_option maxRecDepth 100000 in
set_option maxHeartbeats 16000000 in
theorem walk (A : Option Addr) (n c : Nat) (w : World) (hnc : n ≤ c) (hmx : c ≤ maxLen) (hb : BY w w.heap.size A n) (hT : Tab w) :
    Calls Tryz.prog 5 #[.slice A n c] w fun e w' => e = .returned (.bool true) ∧ Below w.heap.size w w' := by
  by_cases hn : n ≤ 1048576
  · have HT := hide hT; clear hT
    go_enter Tryz.func5, Tryz.ntmps5
    go_wp2_with fail
    refine (DrawReportOf_c hnc hmx hb).mono ?_
    rintro e w1 ⟨A1, n1, c1, ts, rfl, hr1, hn1, hts, b1⟩
    have hsm : SmallT ts := fun t ht => by have := hts t ht; omega
    have hall : (allOps ts).length ≤ 1048576 := by
      have h1 := ops_le ts 100 hts
      have h2 := hr1.1
      rw [h2] at h1
      have : n1 * 100 ≤ 8 * 100 := Nat.mul_le_mul_right _ hn1
      omega
    have HS := hide hsm; have HA := hide hall
    clear hsm hall hts
    go_wp2_with fail
    refine (impl_ReportOf_c hr1 (by omega) HS.out (HT.out.below b1)).mono ?_
    rintro e w2 ⟨v2, rfl, x2, b2⟩
    have B2 := below_step b1 b2
    have hr2 := hr1.below b2
    clear b1 hr1
    obtain ⟨A2, c2, rfl, y2⟩ := x2.rr
    go_wp2_with fail
    refine (spec_ReportOf_c hr2 (by omega) HA.out HS.out).mono ?_
    rintro e w3 ⟨v3, rfl, x3, b3⟩
    have B3 := below_step B2 b3
    have hr3 := hr2.below b3
    obtain ⟨A3, c3, rfl, y3⟩ := x3.rr
    have y23 := y2.below b3
    have hl4 : (repL ts).length ≤ 4 := by unfold repL; split <;> simp
    clear x2 x3 b2 b3 B2 hr2 y2
    go_wp2_with fail
    refine (sameTexts_c y23 y3 (by omega)).mono ?_
    rintro e w4 ⟨rfl, b4⟩
    have B4 := hide (below_step B3 b4)
    have hr5 := hide (hr3.below b4)
    have y4 := hide (y23.below b4)
    clear b4 hr3 y23 y3 B3
    by_cases h0 : 0 < (allV ts).length
    · have hh := allV_hist h0
      have hrl : (repL ts).length = 4 := by unfold repL; rw [if_pos h0]; rfl
      have hr2 : (repL ts)[2]? = some ((⟨#[108, 101, 118, 101, 108, 32]⟩ : ByteArray) ++ lvS (bestV ts)) := by unfold repL; rw [if_pos h0]; rfl
      rw [hrl] at y4 ⊢
      have HH := hide hh
      obtain ⟨g, s, rfl, hg, hs, hc⟩ := y4.out.at_ (k := 2) (by omega)
      obtain rfl : s = (⟨#[108, 101, 118, 101, 108, 32]⟩ : ByteArray) ++ lvS (bestV ts) := by rw [hr2] at hs; injection hs with hs; exact hs.symm
      have HC := hide (show ∀ W, Below w4.heap.size w4 W → W.cell? ⟨g, 2, none⟩ = some (.string ((⟨#[108, 101, 118, 101, 108, 32]⟩ : ByteArray) ++ lvS (bestV ts))) from fun W h => (h.cell (p := ⟨g, 2, none⟩) hg).trans hc)
      have BZ := hide (show Below w4.heap.size w4 w4.drew from (Below.refl _ _).drew)
      have s3 := fun W : World => run_string_add_sum (P := Tryz.prog) (w := W) ⟨#[108, 101, 118, 101, 108, 32]⟩ (lvS (bestV ts)) (by have := lvS_size (bestV ts); show 6 + _ ≤ _; omega)
      clear hrl hr2 hs hc h0 hh hl4
      go_wp2_with fail
      refine wp_region_held_drew (S := (fun W => W.cell? ⟨g, 2, none⟩ = some (.string ((⟨#[108, 101, 118, 101, 108, 32]⟩ : ByteArray) ++ lvS (bestV ts))))) (by kernel_rfl) ?_ (fun hHeld => ?_)
      · first | exact HC.out _ BZ.out | exact HC.out _ BZ8.out | exact HC.out _ BZ9.out
      refine wpAnyH_take (i := 0) (v := ?vv1_0) (by rw [List.getElem?_toArray]; exact rfl) (by kernel_rfl) (by kernel_rfl) (by kernel_rfl) (by intro _ _ _ h; exact h) (Or.inl ⟨by rfl, ?hy1_0⟩) hHeld ?rest1_0
      case' hy1_0 => (intro w hSw; (try dsimp only at hSw); go_simp; try (with_reducible rfl))
      (try simp only [Act.put, List.setIfInBounds_toArray, List.set_cons_zero, List.set_cons_succ])
      refine wpAnyH_take (i := 1) (v := ?vv1_1) (by rw [List.getElem?_toArray]; exact rfl) (by kernel_rfl) (by kernel_rfl) (by kernel_rfl) (by intro _ _ _ h; exact h) (Or.inl ⟨by rfl, ?hy1_1⟩) hHeld ?rest1_1
      case' hy1_1 => (intro w hSw; (try dsimp only at hSw); go_simp; try (with_reducible rfl))
      (try simp only [Act.put, List.setIfInBounds_toArray, List.set_cons_zero, List.set_cons_succ])
      refine wpAnyH_take (i := 2) (v := ?vv1_2) (by rw [List.getElem?_toArray]; exact rfl) (by kernel_rfl) (by kernel_rfl) (by kernel_rfl) (by intro _ _ _ h; exact h) (Or.inl ⟨by rfl, ?hy1_2⟩) hHeld ?rest1_2
      case' hy1_2 => (intro w hSw; (try dsimp only at hSw); go_simp; try (with_reducible rfl))
      (try simp only [Act.put, List.setIfInBounds_toArray, List.set_cons_zero, List.set_cons_succ])
      refine wpAnyH_take (i := 3) (v := ?vv1_3) (by rw [List.getElem?_toArray]; exact rfl) (by kernel_rfl) (by kernel_rfl) (by kernel_rfl) (by intro _ _ _ h; exact h) (Or.inl ⟨by rfl, ?hy1_3⟩) hHeld ?rest1_3
      case' hy1_3 => (intro w hSw; (try dsimp only at hSw); go_simp; try (with_reducible rfl))
      (try simp only [Act.put, List.setIfInBounds_toArray, List.set_cons_zero, List.set_cons_succ])
      refine wpAnyH_take (i := 4) (v := ?vv1_4) (by rw [List.getElem?_toArray]; exact rfl) (by kernel_rfl) (by kernel_rfl) (by kernel_rfl) (by intro _ _ _ h; exact h) (Or.inl ⟨by rfl, ?hy1_4⟩) hHeld ?rest1_4
      case' hy1_4 => (intro w hSw; (try dsimp only at hSw); go_simp; try (with_reducible rfl))
      (try simp only [Act.put, List.setIfInBounds_toArray, List.set_cons_zero, List.set_cons_succ])
      refine wpAnyH_take (i := 5) (v := ?vv1_5) (by rw [List.getElem?_toArray]; exact rfl) (by kernel_rfl) (by kernel_rfl) (by kernel_rfl) (by intro _ _ _ h; exact h) (Or.inl ⟨by rfl, ?hy1_5⟩) hHeld ?rest1_5
      case' hy1_5 => (intro w hSw; (try dsimp only at hSw); go_simp; try (with_reducible rfl))
      (try simp only [Act.put, List.setIfInBounds_toArray, List.set_cons_zero, List.set_cons_succ])
      refine wpAnyH_take (i := 6) (v := ?vv1_6) (by rw [List.getElem?_toArray]; exact rfl) (by kernel_rfl) (by kernel_rfl) (by kernel_rfl) (by intro _ _ _ h; exact h) (Or.inl ⟨by rfl, ?hy1_6⟩) hHeld ?rest1_6
      case' hy1_6 => (intro w hSw; (try dsimp only at hSw); go_simp; try (with_reducible rfl))
      (try simp only [Act.put, List.setIfInBounds_toArray, List.set_cons_zero, List.set_cons_succ])
      refine wpAnyH_take (i := 7) (v := ?vv1_7) (by rw [List.getElem?_toArray]; exact rfl) (by kernel_rfl) (by kernel_rfl) (by kernel_rfl) (by intro _ _ _ h; exact h) (Or.inl ⟨by rfl, ?hy1_7⟩) hHeld ?rest1_7
      case' hy1_7 => (intro w hSw; (try dsimp only at hSw); go_simp; try (with_reducible rfl))
      (try simp only [Act.put, List.setIfInBounds_toArray, List.set_cons_zero, List.set_cons_succ])
      refine wpAnyH_ready (rs := [8]) (by kernel_rfl) (by simp) ?_
      refine AllReadyH.cons (by rw [List.getElem?_toArray]; exact rfl) (fun K hK => ?_) AllReadyH.nil
      go_simp
      refine (BestLevel_c (hr5.out.below BZ.out) HH.out).mono ?_
      rintro e w8 ⟨rfl, b8⟩
      have BZ8 := hide (below_step BZ.out b8)
      refine hK.out _ _ ?_ (fun hHeld => ?_)
      · first | exact HC.out _ BZ.out | exact HC.out _ BZ8.out | exact HC.out _ BZ9.out
      clear hK K
      (try simp only [Act.put, List.setIfInBounds_toArray, List.set_cons_zero, List.set_cons_succ])
      refine wpAnyH_ready (rs := [9]) (by kernel_rfl) (by simp) ?_
      refine AllReadyH.cons (by rw [List.getElem?_toArray]; exact rfl) (fun K hK => ?_) AllReadyH.nil
      go_simp
      refine (impl_LevelText_c).mono ?_
      rintro e w9 ⟨rfl, b9⟩
      rw [textV_s]
      have BZ9 := hide (below_step BZ8.out b9)
      refine hK.out _ _ ?_ (fun hHeld => ?_)
      · first | exact HC.out _ BZ.out | exact HC.out _ BZ8.out | exact HC.out _ BZ9.out
      clear hK K
      (try simp only [Act.put, List.setIfInBounds_toArray, List.set_cons_zero, List.set_cons_succ])
      refine wpAnyH_take (i := 10) (v := ?vv1_10) (by rw [List.getElem?_toArray]; exact rfl) (by kernel_rfl) (by kernel_rfl) (by kernel_rfl) (by intro _ _ _ h; exact h) (Or.inl ⟨by rfl, ?hy1_10⟩) hHeld ?rest1_10
      case' hy1_10 => (intro w hSw; (try dsimp only at hSw); go_simp; try (with_reducible rfl))
      (try simp only [Act.put, List.setIfInBounds_toArray, List.set_cons_zero, List.set_cons_succ])
      refine wpAnyH_take (i := 11) (v := ?vv1_11) (by rw [List.getElem?_toArray]; exact rfl) (by kernel_rfl) (by kernel_rfl) (by kernel_rfl) (by intro _ _ _ h; exact h) (Or.inl ⟨by rfl, ?hy1_11⟩) hHeld ?rest1_11
      case' hy1_11 => (intro w hSw; (try dsimp only at hSw); go_simp; try (with_reducible rfl))
      (try simp only [Act.put, List.setIfInBounds_toArray, List.set_cons_zero, List.set_cons_succ])
      refine wpAnyH_take (i := 12) (v := ?vv1_12) (by rw [List.getElem?_toArray]; exact rfl) (by kernel_rfl) (by kernel_rfl) (by kernel_rfl) (by intro _ _ _ h; exact h) (Or.inl ⟨by rfl, ?hy1_12⟩) hHeld ?rest1_12
      case' hy1_12 => (intro w hSw; (try dsimp only at hSw); go_simp; try (with_reducible rfl))
      (try simp only [Act.put, List.setIfInBounds_toArray, List.set_cons_zero, List.set_cons_succ])
      refine wpAnyH_take (i := 13) (v := ?vv1_13) (by rw [List.getElem?_toArray]; exact rfl) (by kernel_rfl) (by kernel_rfl) (by kernel_rfl) (by intro _ _ _ h; exact h) (Or.inl ⟨by rfl, ?hy1_13⟩) hHeld ?rest1_13
      case' hy1_13 => (intro w hSw; (try dsimp only at hSw); go_simp; try (with_reducible rfl))
      (try simp only [Act.put, List.setIfInBounds_toArray, List.set_cons_zero, List.set_cons_succ])
      refine wpAnyH_done (by kernel_rfl) ?_ _
      go_wp2_with fail
      go_ret
      exact ⟨by simp, below_step B4.out BZ9.out⟩
    · have h1 : repL ts = [] := by unfold repL; rw [if_neg h0]
      have hl0 : (allV ts).length = 0 := by omega
      have HL0 := hide hl0
      rw [h1] at y4 ⊢
      clear h0 hl0 h1 hl4
      go_wp2_with fail
      refine (all_c hr5.out (by omega) HS.out).mono ?_
      rintro e w6 ⟨A6, n6, c6, rfl, hnc6, hn6, hrll, b6⟩
      obtain rfl : n6 = 0 := by rw [← hrll.1]; exact HL0.out
      have B6 := below_step B4.out b6
      clear hrll b6
      go_wp2_with fail
      refine (alive_c).mono ?_
      rintro e w7 ⟨rfl, b7⟩
      go_wp2_with fail
      go_ret
      exact ⟨rfl, below_step B6 b7⟩
  · go_enter Tryz.func5, Tryz.ntmps5
    go_wp2_with fail
    go_ret
    exact ⟨rfl, Below.refl _ _⟩
theorem door_met (os : Os) (args : Array Value) : laidMetH Tryz.prog Rows.fnReportOfRow.laid ((World.doorLaid Tryz.prog 24 os).forCall (fun _ _ => 0) ⟨#[], args, []⟩).memory :=
  laidMetH_of_parts3 (fuel := 8) (laidMet_of_run' 8 (by kernel_rfl) (by kernel_rfl)) (by kernel_rfl) (by kernel_rfl)
set_option maxRecDepth 100000 in
theorem lifted (os : Os) (started : os.Started) (H : Type) (enc : TypeId × Value → H) :
    ReturnsInHanded {} Tryz.checked os 5 .any (fun w args => (Rows.fnReportOfSpec.pre enc Tryz.prog Tryz.f5 [] false w args ∧ laidMetH Tryz.prog Rows.fnReportOfRow.laid w) ∧ sizedMet enc Tryz.prog Tryz.f5 (OpenSpec.ofChange Rows.fnReportOfSpec) false w args)
      (Rows.fnReportOfSpec.post enc Tryz.prog Tryz.f5 false true false false) := by
  refine returnsInHanded_of_change_and (C := Tryz.checked) (X := fun w _ => laidMetH Tryz.prog Rows.fnReportOfRow.laid w) (fun _ _ _ hh h => h.of_heap hh) own started (by kernel_rfl) Tryz.func5
    (ChangeSpec.witness_shaped (enc := enc) (C := Tryz.checked) (os := os) (X := fun w _ => laidMetH Tryz.prog Rows.fnReportOfRow.laid w) false (World.doorLaid Tryz.prog 24 os) #[.slice none 0 0] 8 rfl (World.shaped_of_RefB (by kernel_rfl) (by kernel_rfl)) (by kernel_rfl) (by kernel_rfl) (by kernel_rfl) (door_met os _)) ?_
  intro W base args ds gs before hval0 hW _ _ hL _
  have hval : ∀ (j : Nat) t v, Tryz.f5.params[j]? = some t → args[j]? = some v → Value.okWide Tryz.prog W .any base t v := hval0
  have hW' := hW
  obtain ⟨p, q, hA0, hV, rfl, hfz, hnd⟩ := hW
  have hA : DataW.TrodAll enc Tryz.prog W 0 (fun _ => true) true Tryz.f5.params.toList args.toList ds p := hA0
  rw [Tryz.params5] at hA hval
  obtain ⟨v0, vs0, d0, ds0, p0, q0, hargs, rfl, rfl, h0, r0⟩ := trodAll_cons hA
  obtain ⟨rfl, rfl, rfl⟩ := trodAll_nil r0
  obtain rfl : args = #[v0] := by cases args; simp_all
  obtain ⟨rfl, rfl⟩ := trodVars_none hV
  have k0 := h0
  have lt0 : ∀ x ∈ p0, x.block < W.heap.size := by obtain ⟨m, hm⟩ := k0; exact DataW.trod_lt m _ _ _ hm
  obtain ⟨A0, n0, c0, rfl, hnc0, hmx0, R0⟩ := open_bytesA (hval 0 22 v0 rfl rfl) h0
  clear hA0 hval0
  have hT : Tab W := tab_of_laidH hL (by kernel_rfl) rfl
  refine (walk A0 n0 c0 W hnc0 hmx0 R0 hT).mono fun e W' ⟨he, bel⟩ => ?_
  subst he
  exact ⟨_, rfl, _, _, _, [], _, [], hW', trodAll_mk1 (shut_bool Tryz.underlying4 _), (trodAll_cons_mk (Below.trod laidOut (by kernel_rfl) (of_decide_eq_true (by kernel_rfl)) k0 bel lt0) trodAll_mk0), rfl, bel.frame _, fun h => by cases h⟩
theorem row_holds : Rows.FnReportOfSaid :=
  OpenClaim.holds_of_wide 5 Tryz.f5 rfl rfl rfl rfl rfl rfl rfl ⟨rfl, rfl, rfl, rfl, rfl⟩ rfl rfl rfl rfl rfl (by kernel_rfl) Tryz.func5 (by kernel_rfl)
    (of_decide_eq_true (by kernel_rfl)) (by unfold Func.isWrapper; first | (rw [if_pos (by decide +kernel)]; kernel_rfl) | (rw [if_neg (by decide +kernel)]; exact ⟨rfl, rfl⟩))
    (fun os started H enc _ => lifted os started H enc)
theorem proved : Rows.FnReportOfCardSaid :=
  Claim7.holds_tied_plain_at .later [] [.data, .data, .data] true (true, "9af5077e89de15cab046327a150948ab53ebcc6c2c03e15c70c450fd55c3e928") false
    row_holds (fun _ h => by cases h) (by kernel_rfl) (fun _ h => by cases h) fnReportOf_row_tie rfl ⟨rfl, rfl⟩ (by kernel_rfl) rfl
    (fun f fn hf hfn => by
      obtain rfl : f = 5 := Option.some.inj ((show Tryz.prog.funcNamed "loop.example/historychecker/laws.FnReportOf" = some 5 by kernel_rfl).symm.trans hf) |>.symm
      obtain rfl : fn = Tryz.f5 := (Option.some.inj (Tryz.func5.symm.trans hfn)).symm
      exact ⟨by kernel_rfl, fun j t ht => by
        rw [Tryz.params5] at ht
        have hm : t ∈ [22] := by simpa using Array.mem_of_getElem? ht
        have hall : ([22].all fun u => !Tryz.prog.wantsStandIn u) = true := by kernel_rfl
        exact (show Tryz.prog.wantsStandIn t = false by simpa using List.all_eq_true.1 hall t hm)⟩)
    (by kernel_rfl)
end Go.Proofs.YtcfkemchekmjbaaGreatDoor.fnReportOf
