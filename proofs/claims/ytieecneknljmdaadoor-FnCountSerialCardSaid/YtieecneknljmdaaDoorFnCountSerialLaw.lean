/- FnCountSerial: both sides count alike; there is a serial order exactly if one is found; there are not more than all orders; if no transactions meet, all are right, or none is. The card ties the listed variables to the program's text; the law's road does not look into them. -/
import Derived.Test.YtieecneknljmdaaDoorOpenB
import Derived.Test.YtieecneknljmdaaDoorDrawH
import Derived.Test.YtieecneknljmdaaDoorSerK
import Derived.Test.YtieecneknljmdaaDoorSerN
import Derived.Test.YtieecneknljmdaaDoorSerM
import Derived.Test.YtieecneknljmdaaDoorMeetI
import Derived.BigQuiet
namespace Go.Proofs.YtieecneknljmdaaDoor.fnCountSerial
open Go.ChangeShapes Go.WideShapes Go.ChangeAt Go.RowKit

theorem allOps_le : ∀ (ts : List Tx) (q : Nat), (∀ t ∈ ts, t.2.1.length ≤ q) → (allOps ts).length ≤ ts.length * q
  | [], q, _ => by simp [allOps]
  | t :: ts, q, h => by
    have h1 := allOps_le ts q (fun t ht => h t (by simp [ht]))
    have h2 := h t (by simp)
    simp only [allOps, List.flatMap_cons, List.length_append, List.length_cons, Nat.add_mul, Nat.one_mul] at *
    omega
def DrawCsR (w : World) (e : Ending) (w' : World) : Prop := ∃ A n c ts, e = .returned (.slice A n c) ∧ RTs w' A n ts ∧ n ≤ 8 ∧ (∀ t ∈ ts, t.2.1.length ≤ 100) ∧ Below w.heap.size w w'
set_option maxRecDepth 100000 in
theorem DrawCountSerial_c {w : World} {A : Option Addr} {n c : Nat} (hnc : n ≤ c) (hmx : c ≤ maxLen) (hb : BY w w.heap.size A n) : Calls Tryd.prog 5 #[.slice A n c] w (DrawCsR w) := by
  go_enter Tryd.func5, Tryd.ntmps5
  go_wp2_with fail
  refine (l20Open_c hnc hmx hb).mono ?_
  rintro e w1 ⟨rfl, r1, b1⟩
  go_wp2_with fail
  refine (l20History_c r1 (by omega) (by omega) (by omega) (by omega) (by omega)).mono ?_
  rintro e w2 ⟨v, k, rfl, l2, hk, r2, g2⟩
  obtain ⟨A', c', ts, rfl, hkc, hrl, hts⟩ := l2.rts
  go_wp2_with fail
  go_ret
  exact ⟨_, _, _, ts, rfl, hrl, hk, hts, belowG b1 g2 (Nat.le_refl _)⟩
theorem facM_step {k : Nat} (h : 2 ≤ k) : facM k = facM (k - 1) * k := by
  obtain ⟨j, rfl⟩ : ∃ j, k = j + 1 := ⟨k - 1, by omega⟩
  rfl
set_option maxRecDepth 100000 in
set_option maxHeartbeats 16000000 in
theorem walk (A : Option Addr) (n c : Nat) (w : World) (hnc : n ≤ c) (hmx : c ≤ maxLen) (hb : BY w w.heap.size A n) :
    Calls Tryd.prog 3 #[.slice A n c] w fun e w' => e = .returned (.bool true) ∧ Below w.heap.size w w' := by
  by_cases hn : n ≤ 1048576
  · go_enter Tryd.func3, Tryd.ntmps3
    go_wp2_with fail
    refine (DrawCountSerial_c hnc hmx hb).mono ?_
    rintro e w1 ⟨AL, nl, cl, ts, rfl, hrl, hnl, hts, b1⟩
    have hsm : SmallT ts := fun t ht => by have := hts t ht; omega
    have hall : (allOps ts).length ≤ 1048576 := by
      have h1 := allOps_le ts 100 hts
      have h2 := hrl.1
      rw [h2] at h1
      have : nl * 100 ≤ 8 * 100 := Nat.mul_le_mul_right _ hnl
      omega
    have HS := hide hsm; have HA := hide hall
    clear hsm hall hts
    go_wp2_with fail
    refine (impl_CountSerial_c hrl (by omega) HS.out).mono ?_
    rintro e w2 ⟨rfl, b2⟩
    have B2 := below_step b1 b2
    have hrl2 := hrl.below b2
    go_wp2_with fail
    refine (spec_CountSerial_c hrl2 (by omega) HA.out HS.out).mono ?_
    rintro e w3 ⟨rfl, b3⟩
    have B3 := below_step B2 b3
    have hrl3 := hrl2.below b3
    clear b1 b2 b3 hrl hrl2 B2
    have hne : (cntV ts != cntV ts) = false := by simp
    cases hv : histB ts
    · have hm : cntV ts = -1 := by unfold cntV; rw [hv]; rfl
      rw [hm] at hne ⊢
      clear hv hm
      go_wp2_with fail
      refine (alive_c).mono ?_
      rintro e w6 ⟨rfl, b6⟩
      go_wp2_with fail
      go_ret
      exact ⟨rfl, below_step B3 b6⟩
    · obtain ⟨h6, hky⟩ := histB_small hv
      have hlen : ts.length = nl := hrl3.1
      have hl6 : (doneL ts).length ≤ 6 := by have := doneTo_len ts ts.length; unfold doneL; omega
      have hnd := doneL_nodup ts
      have hm : cntV ts = (((permsL (doneL ts)).filter (runsF ts [0, 0, 0])).length : Int) := by unfold cntV; rw [hv]; rfl
      have hfv : (fstV ts).isSome = decide (0 < ((permsL (doneL ts)).filter (runsF ts [0, 0, 0])).length) := by unfold fstV; rw [hv]; exact fst_found ts hnd _
      have hdv : doneV ts = doneL ts := by unfold doneV; rw [hv]; rfl
      have hmv : meetV ts = (meetsL ts (doneL ts) : Int) := by unfold meetV; rw [hv]; rfl
      have hle := cnt_le_fac (ts := ts) (l := doneL ts) [0, 0, 0]
      have han : meetsL ts (doneL ts) = 0 → _ := fun h => all_or_none hky hnd h [0, 0, 0]
      have hsmall := facM_le hl6
      obtain ⟨M, hM⟩ : ∃ q, ((permsL (doneL ts)).filter (runsF ts [0, 0, 0])).length = q := ⟨_, rfl⟩
      obtain ⟨L, hL⟩ : ∃ q, (doneL ts).length = q := ⟨_, rfl⟩
      obtain ⟨Q, hQ⟩ : ∃ q, meetsL ts (doneL ts) = q := ⟨_, rfl⟩
      rw [hM] at hm hfv hle han
      rw [hL] at hle han hl6 hsmall
      rw [hQ] at hmv han
      rw [hm] at hne ⊢
      have HFV := hide hfv; have HD := hide hdv; have HL := hide hL; have HMV := hide hmv; have HLE := hide hle; have HAN := hide han; have HK := hide hky; have HB3 := hide B3; have HSM := hide hsmall
      have hM0 : ¬ ((M : Int) < 0) := by omega
      clear hv hM hL hQ hm hfv hdv hmv hle han hnd B3 hky hlen h6 hsmall
      go_wp2_with fail
      refine (impl_FindSerial_c hrl3 (by omega) HS.out (fun _ => HK.out)).mono ?_
      rintro e w4 ⟨v4, k4, rfl, _, b4⟩
      rw [HFV.out]
      have B4 := hide (below_step HB3.out b4)
      have hrl4 := hrl3.below b4
      clear b4
      go_wp2_with fail
      go_loopw [7, 8] (fun v i W => ∃ k : Nat, i = .int .i64 k ∧ 2 ≤ k ∧ (k ≤ L + 1 ∨ k = 2) ∧ v = .int .i64 (facM (k - 1) : Nat) ∧ Below w4.heap.size w4 W) (fun _ i _ => L + 2 - (intOf i).toNat)
      case atStart => exact ⟨2, rfl, Nat.le_refl _, .inr rfl, rfl, Below.refl _ _⟩
      case round =>
        obtain ⟨k, rfl, hk2, hkL, rfl, bw⟩ := hrel
        have BW := hide bw
        have hrl5 := hrl4.below bw
        have hk7 : k ≤ 7 := by omega
        clear bw
        by_cases hkl : k ≤ L
        · have hst := facM_step hk2
          have hf1 := facM_le (show k - 1 ≤ 6 by omega)
          have hf2 := facM_le (show k ≤ 6 by omega)
          obtain ⟨F, hF⟩ : ∃ q, facM (k - 1) = q := ⟨_, rfl⟩
          obtain ⟨G, hG⟩ : ∃ q, facM k = q := ⟨_, rfl⟩
          rw [hF] at hst hf1; rw [hG] at hst hf2
          rw [hF]
          have hmul : (F : Int) * (k : Int) = (G : Int) := by rw [hst]; exact (Int.natCast_mul F k).symm
          have HG := hide hG
          clear hF hG hst
          go_wp2_with fail
          refine (impl_DoneTxns_c hrl5 (by omega) HS.out).mono ?_
          rintro e w5 ⟨r5, q5, rfl, o5, b5⟩
          have hq := o5.len
          rw [HD.out, HL.out] at hq
          subst hq
          obtain ⟨A5, c5, rfl⟩ := o5.shape
          have B5 := hide (below_step BW.out b5)
          clear o5 b5
          go_wp2_with fail
          go_roundw
          case rel => exact ⟨k + 1, by go_num, by omega, by omega, by rw [Nat.add_sub_cancel, HG.out], B5.out⟩
          case measure => simp [intOf]; omega
        · have hLk : facM (k - 1) = facM L := by
            rcases hkL with h | h
            · rw [show k - 1 = L by omega]
            · subst h
              have : L = 0 ∨ L = 1 := by omega
              rcases this with rfl | rfl <;> rfl
          have hfl := HLE.out
          have hsm2 := HSM.out
          have han := HAN.out
          rw [hLk]
          obtain ⟨F, hF⟩ : ∃ q, facM L = q := ⟨_, rfl⟩
          rw [hF] at hfl hsm2 han
          rw [hF]
          have HAN2 := hide han
          clear hF hLk han
          by_cases hM1 : 0 < M
          · have hd : decide (0 < M) = true := by simpa using hM1
            have hd2 : (0 : Int) < (M : Int) := by omega
            have hd4 : ((M : Int) == 0) = false := by rw [beq_eq_false_iff_ne]; omega
            have hd5 : (M : Int) ≤ (F : Int) := by omega
            by_cases hQ0 : Q = 0
            · have hMF : M = F := by have := HAN2.out hQ0; omega
              have hd3 : ((M : Int) == (F : Int)) = true := by rw [beq_iff_eq]; omega
              have hQ1 : ¬ (0 : Int) < (Q : Int) := by omega
              go_wp2_with fail
              refine (impl_DoneTxns_c hrl5 (by omega) HS.out).mono ?_
              rintro e w5 ⟨r5, q5, rfl, o5, b5⟩
              have hq := o5.len
              rw [HD.out, HL.out] at hq
              subst hq
              obtain ⟨A5, c5, rfl⟩ := o5.shape
              have hrl6 := hrl5.below b5
              have B5 := hide (below_step BW.out b5)
              clear o5 b5
              go_wp2_with fail
              refine (impl_MeetingTxns_c hrl6 (by omega) HS.out).mono ?_
              rintro e w6 ⟨rfl, b6⟩
              rw [HMV.out]
              go_wp2_with fail
              go_ret
              exact ⟨rfl, below_step B4.out (below_step B5.out b6)⟩
            · have hQ1 : (0 : Int) < (Q : Int) := by omega
              go_wp2_with fail
              refine (impl_DoneTxns_c hrl5 (by omega) HS.out).mono ?_
              rintro e w5 ⟨r5, q5, rfl, o5, b5⟩
              have hq := o5.len
              rw [HD.out, HL.out] at hq
              subst hq
              obtain ⟨A5, c5, rfl⟩ := o5.shape
              have hrl6 := hrl5.below b5
              have B5 := hide (below_step BW.out b5)
              clear o5 b5
              go_wp2_with fail
              refine (impl_MeetingTxns_c hrl6 (by omega) HS.out).mono ?_
              rintro e w6 ⟨rfl, b6⟩
              rw [HMV.out]
              go_wp2_with fail
              go_ret
              exact ⟨rfl, below_step B4.out (below_step B5.out b6)⟩
          · obtain rfl : M = 0 := by omega
            have hd : decide (0 < 0) = false := rfl
            by_cases hQ0 : Q = 0
            · have hQ1 : ¬ (0 : Int) < (Q : Int) := by omega
              go_wp2_with fail
              refine (impl_DoneTxns_c hrl5 (by omega) HS.out).mono ?_
              rintro e w5 ⟨r5, q5, rfl, o5, b5⟩
              have hq := o5.len
              rw [HD.out, HL.out] at hq
              subst hq
              obtain ⟨A5, c5, rfl⟩ := o5.shape
              have hrl6 := hrl5.below b5
              have B5 := hide (below_step BW.out b5)
              clear o5 b5
              go_wp2_with fail
              refine (impl_MeetingTxns_c hrl6 (by omega) HS.out).mono ?_
              rintro e w6 ⟨rfl, b6⟩
              rw [HMV.out]
              go_wp2_with fail
              go_ret
              exact ⟨rfl, below_step B4.out (below_step B5.out b6)⟩
            · have hQ1 : (0 : Int) < (Q : Int) := by omega
              go_wp2_with fail
              refine (impl_DoneTxns_c hrl5 (by omega) HS.out).mono ?_
              rintro e w5 ⟨r5, q5, rfl, o5, b5⟩
              have hq := o5.len
              rw [HD.out, HL.out] at hq
              subst hq
              obtain ⟨A5, c5, rfl⟩ := o5.shape
              have hrl6 := hrl5.below b5
              have B5 := hide (below_step BW.out b5)
              clear o5 b5
              go_wp2_with fail
              refine (impl_MeetingTxns_c hrl6 (by omega) HS.out).mono ?_
              rintro e w6 ⟨rfl, b6⟩
              rw [HMV.out]
              go_wp2_with fail
              go_ret
              exact ⟨rfl, below_step B4.out (below_step B5.out b6)⟩
  · go_enter Tryd.func3, Tryd.ntmps3
    go_wp2_with fail
    go_ret
    exact ⟨rfl, Below.refl _ _⟩

theorem door_met (os : Os) (args : Array Value) : laidMetH Tryd.prog Rows.fnCountSerialRow.laid ((World.doorLaid Tryd.prog 24 os).forCall (fun _ _ => 0) ⟨#[], args, []⟩).memory :=
  laidMetH_of_parts3 (fuel := 8) (laidMet_of_run' 8 (by kernel_rfl) (by kernel_rfl)) (by kernel_rfl) (by kernel_rfl)
set_option maxRecDepth 100000 in
theorem lifted (os : Os) (started : os.Started) (H : Type) (enc : TypeId × Value → H) :
    ReturnsInHanded {} Tryd.checked os 3 .any (fun w args => (Rows.fnCountSerialSpec.pre enc Tryd.prog Tryd.f3 [] false w args ∧ laidMetH Tryd.prog Rows.fnCountSerialRow.laid w) ∧ sizedMet enc Tryd.prog Tryd.f3 (OpenSpec.ofChange Rows.fnCountSerialSpec) false w args)
      (Rows.fnCountSerialSpec.post enc Tryd.prog Tryd.f3 false true false false) := by
  refine returnsInHanded_of_change_and (C := Tryd.checked) (X := fun w _ => laidMetH Tryd.prog Rows.fnCountSerialRow.laid w) (fun _ _ _ hh h => h.of_heap hh) own started (by kernel_rfl) Tryd.func3
    (ChangeSpec.witness_shaped (enc := enc) (C := Tryd.checked) (os := os) (X := fun w _ => laidMetH Tryd.prog Rows.fnCountSerialRow.laid w) false (World.doorLaid Tryd.prog 24 os) #[.slice none 0 0] 8 rfl (World.shaped_of_RefB (by kernel_rfl) (by kernel_rfl)) (by kernel_rfl) (by kernel_rfl) (by kernel_rfl) (door_met os _)) ?_
  intro W base args ds gs before hval0 hW _ _ _ _
  have hval : ∀ (j : Nat) t v, Tryd.f3.params[j]? = some t → args[j]? = some v → Value.okWide Tryd.prog W .any base t v := hval0
  have hW' := hW
  obtain ⟨p, q, hA0, hV, rfl, hfz, hnd⟩ := hW
  have hA : DataW.TrodAll enc Tryd.prog W 0 (fun _ => true) true Tryd.f3.params.toList args.toList ds p := hA0
  rw [Tryd.params3] at hA hval
  obtain ⟨v0, vs0, d0, ds0, p0, q0, hargs, rfl, rfl, h0, r0⟩ := trodAll_cons hA
  obtain ⟨rfl, rfl, rfl⟩ := trodAll_nil r0
  obtain rfl : args = #[v0] := by cases args; simp_all
  obtain ⟨rfl, rfl⟩ := trodVars_none hV
  have k0 := h0
  have lt0 : ∀ x ∈ p0, x.block < W.heap.size := by obtain ⟨m, hm⟩ := k0; exact DataW.trod_lt m _ _ _ hm
  obtain ⟨A0, n0, c0, rfl, hnc0, hmx0, R0⟩ := open_bytesA (hval 0 22 v0 rfl rfl) h0
  clear hA0 hval0
  refine (walk A0 n0 c0 W hnc0 hmx0 R0).mono fun e W' ⟨he, bel⟩ => ?_
  subst he
  exact ⟨_, rfl, _, _, _, [], _, [], hW', trodAll_mk1 (shut_bool Tryd.underlying4 _), (trodAll_cons_mk (Below.trod laidOut (by kernel_rfl) (of_decide_eq_true (by kernel_rfl)) k0 bel lt0) trodAll_mk0), rfl, bel.frame _, fun h => by cases h⟩
theorem row_holds : Rows.FnCountSerialSaid :=
  OpenClaim.holds_of_wide 3 Tryd.f3 rfl rfl rfl rfl rfl rfl rfl ⟨rfl, rfl, rfl, rfl, rfl⟩ rfl rfl rfl rfl rfl (by kernel_rfl) Tryd.func3 (by kernel_rfl)
    (of_decide_eq_true (by kernel_rfl)) (by unfold Func.isWrapper; first | (rw [if_pos (by decide +kernel)]; kernel_rfl) | (rw [if_neg (by decide +kernel)]; exact ⟨rfl, rfl⟩))
    (fun os started H enc _ => lifted os started H enc)
theorem proved : Rows.FnCountSerialCardSaid :=
  Claim7.holds_tied_plain_at .later [] [.data, .data, .data] true (true, "cb3fa9a0bf3704d2c89c6b08fba39eb4e8d16dbf207869377574cbb06caf877a") false
    row_holds (fun _ h => by cases h) (by kernel_rfl) (fun _ h => by cases h) fnCountSerial_row_tie rfl ⟨rfl, rfl⟩ (by kernel_rfl) rfl
    (fun f fn hf hfn => by
      obtain rfl : f = 3 := Option.some.inj ((show Tryd.prog.funcNamed "loop.example/historychecker/laws.FnCountSerial" = some 3 by kernel_rfl).symm.trans hf) |>.symm
      obtain rfl : fn = Tryd.f3 := (Option.some.inj (Tryd.func3.symm.trans hfn)).symm
      exact ⟨by kernel_rfl, fun j t ht => by
        rw [Tryd.params3] at ht
        have hm : t ∈ [22] := by simpa using Array.mem_of_getElem? ht
        have hall : ([22].all fun u => !Tryd.prog.wantsStandIn u) = true := by kernel_rfl
        exact (show Tryd.prog.wantsStandIn t = false by simpa using List.all_eq_true.1 hall t hm)⟩)
    (by kernel_rfl)

end Go.Proofs.YtieecneknljmdaaDoor.fnCountSerial
