/- FnExactReportOf: for all arguments the program's ReportOf returns what the reference's returns, and leaves its arguments as they are; its result shares no memory with them or with another result. -/
import Derived.Test.YtcfkemchekmjbaaGreatDoorVzp
import Derived.Test.YtcfkemchekmjbaaGreatDoorCards
import Derived.Test.YtcfkemchekmjbaaGreatDoorTie
import Derived.LaidMore
import Derived.Stop.Joined
import Derived.SevenTiedAt
namespace Go.Proofs.YtcfkemchekmjbaaGreatDoor.exactReportOf
open Go.ChangeShapes Go.WideShapes Go.ChangeAt Go.RowKit
theorem ops_len (ts : List Tx) : (allOps ts).length = (ts.map (·.2.1.length)).sum := by
  induction ts with
  | nil => rfl
  | cons t ts ih => simp only [allOps, List.flatMap_cons, List.length_append, List.map_cons, List.sum_cons] at *; rw [ih]
theorem flat3_len : ∀ l : List T3, (flat3 l).length = l.length * 3
  | [] => rfl
  | _ :: l => by simp [flat3, flat3_len l]; omega
theorem sum_says {w : World} {lo n : Nat} {v : Value} {es : List El} {ts : List Tx} (h : OT w lo v n es) (hs : SaysT es ts) : sumE es = (ts.map (·.2.1.length)).sum * 3 + n * 2 := by
  have hl := h.len
  have key : ∀ (es : List El) (ts : List Tx), SaysT es ts → (∀ e ∈ es, e.2.1.2.2.length = e.2.1.2.1 * 3) → sumE es = (ts.map (·.2.1.length)).sum * 3 + es.length * 2 := by
    intro es
    induction es with
    | nil => intro ts hs _; cases ts with
      | nil => rfl
      | cons t ts => simp [SaysT] at hs
    | cons e es ih =>
      intro ts hs he
      cases ts with
      | nil => simp [SaysT] at hs
      | cons t ts =>
        simp only [SaysT, List.map_cons, List.cons.injEq, Prod.mk.injEq] at hs
        have h1 := ih ts hs.2 (fun e he' => he e (List.mem_cons_of_mem _ he'))
        have h2 := he e List.mem_cons_self
        rw [hs.1.2.1, flat3_len] at h2
        have h3 : sumE (e :: es) = e.2.1.2.1 * 3 + 2 + sumE es := by simp [sumE]
        rw [h3, h1]; simp; omega
  rw [key es ts hs (fun e he => by
    obtain ⟨j, hj⟩ := List.mem_iff_getElem?.1 he
    exact (h.own j e hj).len), hl]
theorem rts_of {w : World} {lo n c : Nat} {A : Option Addr} {es : List El} {ts : List Tx} (h : OT w lo (.slice A n c) n es) (hs : SaysT es ts) : RTs w A n ts := by
  obtain ⟨A', c', e, _, _, h⟩ := h.sts hs
  injection e with e1; subst e1; exact h
theorem rrN {w : World} {lo N c : Nat} {A : Option Addr} {ss : List ByteArray} (h : RS w lo (.slice A N c) ss) (hN : ss.length = N) : RR w A N ss := by
  obtain ⟨A', c', e, r⟩ := h.rr
  injection e with e1; subst e1; rw [← hN]; exact r
theorem repL_len (ts : List Tx) : (repL ts).length ≤ 4 := by unfold repL; split <;> simp
set_option maxRecDepth 100000 in
set_option maxHeartbeats 16000000 in
theorem walk (A0 : Option Addr) (n0 c0 : Nat) (ts0 : List Tx) (w : World) (hnc0 : n0 ≤ c0) (hmx0 : c0 ≤ maxLen) (R0 : RTs w A0 n0 ts0) (hT : Tab w) :
    Calls Tryz.prog 4 #[.slice A0 n0 c0] w fun e w' => e = .returned (.bool true) ∧ Below w.heap.size w w' := by
  obtain ⟨z, hz⟩ : ∃ z, szTS 1048576 ts0 = z := ⟨_, rfl⟩
  have HZ := hide hz
  have HT := hide hT
  clear hT
  by_cases h0 : z < 0
  · clear hz
    go_enter Tryz.func4, Tryz.ntmps4
    go_wp2_with fail
    refine (szTxnS_c R0 (by omega) (by omega) (by omega)).mono ?_
    rintro e w1 ⟨rfl, b1⟩
    rw [HZ.out]
    go_wp2_with fail
    go_ret
    exact ⟨rfl, b1⟩
  · obtain ⟨hn, hsm, hsum⟩ := szTS_ok R0.1 (by rw [hz]; exact h0)
    have hall : (allOps ts0).length ≤ 1048576 := by rw [ops_len]; omega
    have HS := hide hsm; have HA := hide hall; have HSum := hide hsum
    clear hz hsm hsum hall
    go_enter Tryz.func4, Tryz.ntmps4
    go_wp2_with fail
    refine (szTxnS_c R0 (by omega) (by omega) (by omega)).mono ?_
    rintro e w1 ⟨rfl, B1⟩
    rw [HZ.out]
    go_wp2_with fail
    refine (toTxnS_c (R0.below B1) hn HS.out).mono ?_
    rintro e w2 ⟨rfl, R2, b2⟩
    have B2 := below_step B1 b2
    go_wp2_with fail
    refine (spec_ReportOf_c R2 hn HA.out HS.out).mono ?_
    rintro e w3 ⟨v0, rfl, X0, b3⟩
    have B3 := below_step B2 b3
    clear R2
    obtain ⟨A3, c3, rfl, _⟩ := X0.rr
    have hN := repL_len ts0
    obtain ⟨ss, hss⟩ : ∃ ss, repL ts0 = ss := ⟨_, rfl⟩
    have HSS := hide hss
    rw [hss] at X0 hN ⊢
    clear hss
    obtain ⟨N, hNN⟩ : ∃ N, ss.length = N := ⟨_, rfl⟩
    have HN := hide hNN
    rw [hNN] at X0 hN ⊢
    clear hNN
    have L0 := hide (fun k hk => (World.ownsRow.lt X0 k hk).2)
    go_wp2_with fail
    refine (toTxnS_o (R0.below B3) hn HS.out).mono ?_
    rintro e w4 ⟨es, rfl, D, hsy, b4⟩
    have B4 := below_step B3 b4
    replace X0 := X0.below b4
    have R4 := rts_of D hsy
    have hse := sum_says D hsy
    have HR := hide D.range
    have HSE := hide hse
    clear hse hsy
    go_wp2_with fail
    refine (impl_ReportOf_c R4 hn HS.out (HT.out.below B4)).mono ?_
    rintro e w5 ⟨v1, rfl, X1, b5⟩
    have B5 := below_step B4 b5
    rw [HSS.out] at X1
    obtain ⟨A5, c5, rfl, _⟩ := X1.rr
    rw [HN.out] at X1 ⊢
    have L1 := hide (fun k hk => (World.ownsRow.lt X1 k hk).1)
    replace X0 := X0.below b5
    replace D := D.below b5
    replace R4 := R4.below b5
    go_wp2_with fail
    refine (eqStringS_c (rrN X1 HN.out) (rrN X0 HN.out) (by omega)).mono ?_
    rintro e w6 ⟨rfl, b6⟩
    have B6 := below_step B5 b6
    replace X0 := X0.below b6
    replace X1 := X1.below b6
    replace D := D.below b6
    replace R4 := R4.below b6
    go_wp2_with fail
    refine (toTxnS_c (R0.below B6) hn HS.out).mono ?_
    rintro e w7 ⟨rfl, R7, b7⟩
    have B7 := below_step B6 b7
    replace X0 := X0.below b7
    replace X1 := X1.below b7
    replace D := D.below b7
    replace R4 := R4.below b7
    have s4 : STs w7 (.slice (some ⟨w3.heap.size, 0, none⟩) n0 n0) n0 ts0 := ⟨_, n0, rfl, Nat.le_refl _, hn, R4⟩
    have s7 : STs w7 (.slice (some ⟨w6.heap.size, 0, none⟩) n0 n0) n0 ts0 := ⟨_, n0, rfl, Nat.le_refl _, hn, R7⟩
    clear R4 R7
    go_wp2_with fail
    refine (eqTxnS_c s4 s7 HS.out).mono ?_
    rintro e w8 ⟨rfl, b8⟩
    have B8 := below_step B7 b8
    replace X0 := X0.below b8
    replace X1 := X1.below b8
    replace D := D.below b8
    have hs3 : sumE es ≤ 3145728 := by rw [HSE.out]; have := HSum.out; omega
    clear s4 s7
    go_wp2_with fail
    refine (markTxnS_c D (by omega) (by omega)).mono ?_
    rintro e w9 ⟨rfl, _, c9⟩
    have B9 := Chg.below B8 c9 (fun k hk => by have := (HR.out k hk).1; have := B3.size; omega)
    replace X0 := X0.chg c9 (fun k hk h => by have := (HR.out k h).1; have := L0.out k hk; omega)
    replace X1 := X1.chg c9 (fun k hk h => by have := (HR.out k h).2; have := L1.out k hk; omega)
    clear D c9
    have i0 : ¬ (1 + ((sumE es : Nat) : Int) < 0) := by omega
    go_wp2_with fail
    refine (eqStringS_c (rrN X1 HN.out) (rrN X0 HN.out) (by omega)).mono ?_
    rintro e w10 ⟨rfl, b10⟩
    have B10 := below_step B9 b10
    replace X0 := X0.below b10
    replace X1 := X1.below b10
    have hz4 := b4.size
    go_wp2_with fail
    refine (markStringS_c X1 (by rw [HN.out]; omega)).mono ?_
    rintro e w11 ⟨rfl, X1', c11⟩
    rw [HN.out] at X1' ⊢
    have B11 := Chg.below B10 c11 (fun k hk => by have := L1.out k hk; have := B4.size; omega)
    replace X0 := X0.chg c11 (fun k hk h => by have := L0.out k hk; have := L1.out k h; omega)
    clear X1 c11
    go_wp2_with fail
    refine (heldStringS_c X1' (by omega)).mono ?_
    rintro e w12 ⟨rfl, b12⟩
    have B12 := below_step B11 b12
    replace X0 := X0.below b12
    replace X1' := X1'.below b12
    have i1 : ¬ (1 + (N : Int) < 0) := by omega
    go_wp2_with fail
    refine (toTxnS_c (R0.below B12) hn HS.out).mono ?_
    rintro e w13 ⟨rfl, R13, b13⟩
    have B13 := below_step B12 b13
    replace X0 := X0.below b13
    replace X1' := X1'.below b13
    go_wp2_with fail
    refine (impl_ReportOf_c R13 hn HS.out (HT.out.below B13)).mono ?_
    rintro e w14 ⟨v2, rfl, X2, b14⟩
    have B14 := below_step B13 b14
    rw [HSS.out] at X2
    obtain ⟨A7, c7, rfl, _⟩ := X2.rr
    rw [HN.out] at X2 ⊢
    replace X0 := X0.below b14
    replace X1' := X1'.below b14
    clear R13
    go_wp2_with fail
    refine (eqStringS_c (rrN X2 HN.out) (rrN X0 HN.out) (by omega)).mono ?_
    rintro e w15 ⟨rfl, b15⟩
    have B15 := below_step B14 b15
    replace X1' := X1'.below b15
    go_wp2_with fail
    refine (heldStringS_c X1' (by omega)).mono ?_
    rintro e w16 ⟨rfl, b16⟩
    have B16 := below_step B15 b16
    go_wp2_with fail
    go_ret
    exact ⟨rfl, B16⟩
theorem door_met (os : Os) (args : Array Value) : laidMetH Tryz.prog Rows.fnExactReportOfRow.laid ((World.doorLaid Tryz.prog 24 os).forCall (fun _ _ => 0) ⟨#[], args, []⟩).memory :=
  laidMetH_of_parts3 (fuel := 8) (laidMet_of_run' 8 (by kernel_rfl) (by kernel_rfl)) (by kernel_rfl) (by kernel_rfl)
set_option maxRecDepth 100000 in
theorem lifted (os : Os) (started : os.Started) (H : Type) (enc : TypeId × Value → H) :
    ReturnsInHanded {} Tryz.checked os 4 .any (fun w args => (Rows.fnExactReportOfSpec.pre enc Tryz.prog Tryz.f4 [] false w args ∧ laidMetH Tryz.prog Rows.fnExactReportOfRow.laid w) ∧ sizedMet enc Tryz.prog Tryz.f4 (OpenSpec.ofChange Rows.fnExactReportOfSpec) false w args)
      (Rows.fnExactReportOfSpec.post enc Tryz.prog Tryz.f4 false true false false) := by
  refine returnsInHanded_of_change_and (C := Tryz.checked) (X := fun w _ => laidMetH Tryz.prog Rows.fnExactReportOfRow.laid w) (fun _ _ _ hh h => h.of_heap hh) own started (by kernel_rfl) Tryz.func4
    (ChangeSpec.witness_shaped (enc := enc) (C := Tryz.checked) (os := os) (X := fun w _ => laidMetH Tryz.prog Rows.fnExactReportOfRow.laid w) false (World.doorLaid Tryz.prog 24 os) #[.slice none 0 0] 8 rfl (World.shaped_of_RefB (by kernel_rfl) (by kernel_rfl)) (by kernel_rfl) (by kernel_rfl) (by kernel_rfl) (door_met os _)) ?_
  intro W base args ds gs before hval0 hW _ _ hL _
  have hval : ∀ (j : Nat) t v, Tryz.f4.params[j]? = some t → args[j]? = some v → Value.okWide Tryz.prog W .any base t v := hval0
  have hW' := hW
  obtain ⟨p, q, hA0, hV, rfl, hfz, hnd⟩ := hW
  have hA : DataW.TrodAll enc Tryz.prog W 0 (fun _ => true) true Tryz.f4.params.toList args.toList ds p := hA0
  rw [Tryz.params4] at hA hval
  obtain ⟨v0, vs0, d0, ds0, p0, q0, hargs, rfl, rfl, h0, r0⟩ := trodAll_cons hA
  obtain ⟨rfl, rfl, rfl⟩ := trodAll_nil r0
  obtain rfl : args = #[v0] := by cases args; simp_all
  obtain ⟨rfl, rfl⟩ := trodVars_none hV
  have k0 := h0
  have lt0 : ∀ x ∈ p0, x.block < W.heap.size := by obtain ⟨m, hm⟩ := k0; exact DataW.trod_lt m _ _ _ hm
  obtain ⟨A0, n0, c0, ts0, rfl, hnc0, hmx0, R0⟩ := open_TxnsA (hval 0 40 v0 rfl rfl) h0
  clear hA0 hval0
  have hT : Tab W := tab_of_laidH hL (by kernel_rfl) rfl
  refine (walk A0 n0 c0 ts0 W hnc0 hmx0 R0 hT).mono fun e W' ⟨he, bel⟩ => ?_
  subst he
  exact ⟨_, rfl, _, _, _, [], _, [], hW', trodAll_mk1 (shut_bool Tryz.underlying4 _), (trodAll_cons_mk (Below.trod laidOut (by kernel_rfl) (of_decide_eq_true (by kernel_rfl)) k0 bel lt0) trodAll_mk0), rfl, bel.frame _, fun h => by cases h⟩
theorem row_holds : Rows.FnExactReportOfSaid :=
  OpenClaim.holds_of_wide 4 Tryz.f4 rfl rfl rfl rfl rfl rfl rfl ⟨rfl, rfl, rfl, rfl, rfl⟩ rfl rfl rfl rfl rfl (by kernel_rfl) Tryz.func4 (by kernel_rfl)
    (of_decide_eq_true (by kernel_rfl)) (by unfold Func.isWrapper; first | (rw [if_pos (by decide +kernel)]; kernel_rfl) | (rw [if_neg (by decide +kernel)]; exact ⟨rfl, rfl⟩))
    (fun os started H enc _ => lifted os started H enc)
theorem proved : Rows.FnExactReportOfCardSaid :=
  Claim7.holds_tied_plain_at .later [] [.data, .data, .data] true (true, "9af5077e89de15cab046327a150948ab53ebcc6c2c03e15c70c450fd55c3e928") false
    row_holds (fun _ h => by cases h) (by kernel_rfl) (fun _ h => by cases h) fnExactReportOf_row_tie rfl ⟨rfl, rfl⟩ (by kernel_rfl) rfl
    (fun f fn hf hfn => by
      obtain rfl : f = 4 := Option.some.inj ((show Tryz.prog.funcNamed "loop.example/historychecker/laws.FnExactReportOf" = some 4 by kernel_rfl).symm.trans hf) |>.symm
      obtain rfl : fn = Tryz.f4 := (Option.some.inj (Tryz.func4.symm.trans hfn)).symm
      exact ⟨by kernel_rfl, fun j t ht => by
        rw [Tryz.params4] at ht
        have hm : t ∈ [40] := by simpa using Array.mem_of_getElem? ht
        have hall : ([40].all fun u => !Tryz.prog.wantsStandIn u) = true := by kernel_rfl
        exact (show Tryz.prog.wantsStandIn t = false by simpa using List.all_eq_true.1 hall t hm)⟩)
    (by kernel_rfl)
end Go.Proofs.YtcfkemchekmjbaaGreatDoor.exactReportOf
