/- FnMeetingTxns: both sides agree; there are not more than pairs; reads alone do not meet. The card ties the listed variables to the program's text; the law's road does not look into them. -/
import Derived.Test.YtipmfpfmhgdgdaaDoorOpenB
import Derived.Test.YtipmfpfmhgdgdaaDoorMeetR
import Derived.BigQuiet
namespace Go.Proofs.YtipmfpfmhgdgdaaDoor.fnMeetingTxns
open Go.ChangeShapes Go.WideShapes Go.ChangeAt Go.RowKit

theorem wp_append_step {P : Program} {o : Oper} {a : Act} {w w' : World} {K : Act → World → Prop} {Q : Exit → Act → World → Prop} {b : Nat → Option Bool} {E : Prop} (hg : o.guard = none) (s x : Operand) {t : TypeId} (ho : o.op = .call { callee := .builtin .append, args := #[s, x], argTypes := #[t, t] }) {v u v' : Value}
    (hs : a.eval s = v) (hx : a.eval x = u) (hrun : (Builtin.append_ #[t, t] o.type #[v, u]).run P w = .ok v' w') (hK : K (a.put o.dst v') w') : (if Region.wanted o b = true then Oper.wp P o a w K Q else E) := by
  simp only [Region.wanted, hg, if_true]
  unfold Oper.wp execOp
  simp only [ho, resolve, invoke, builtin, Sem.run_bind, Sem.run_pure, Result.andThen_ok, List.map_toArray, List.map_cons, List.map_nil, hs, hx, hrun]
  exact hK
set_option maxRecDepth 100000 in
set_option maxHeartbeats 16000000 in
theorem walk (A : Option Addr) (n c : Nat) (w : World) (hnc : n ≤ c) (hmx : c ≤ maxLen) (hb : BY w w.heap.size A n) :
    Calls Tryd.prog 4 #[.slice A n c] w fun e w' => e = .returned (.bool true) ∧ Below w.heap.size w w' := by
  by_cases hn : n ≤ 1048576
  · go_enter Tryd.func4, Tryd.ntmps4
    go_wp2_with fail
    refine (DrawMeetingTxns_c hnc hmx hb).mono ?_
    rintro e w1 ⟨AL, nl, cl, ts, rfl, hrl, hnl, hts, b1⟩
    have hsm : SmallT ts := fun t ht => by have := hts t ht; omega
    have hall : (allOps ts).length ≤ 1048576 := by
      have h1 := allOps_le ts 100 hts
      have h2 := hrl.1
      rw [h2] at h1
      have : nl * 100 ≤ 8 * 100 := Nat.mul_le_mul_right _ hnl
      omega
    have HS := hide hsm; have HA := hide hall
    clear hsm hall hts
    go_wp2_with fail
    refine (impl_MeetingTxns_c hrl (by omega) HS.out).mono ?_
    rintro e w2 ⟨rfl, b2⟩
    have B2 := below_step b1 b2
    have hrl2 := hrl.below b2
    go_wp2_with fail
    refine (spec_MeetingTxns_c hrl2 (by omega) HA.out HS.out).mono ?_
    rintro e w3 ⟨rfl, b3⟩
    have B3 := below_step B2 b3
    have hrl3 := hrl2.below b3
    clear b1 b2 b3 hrl hrl2 B2
    have hne : (meetV ts != meetV ts) = false := by simp
    cases hv : histB ts
    · have hm : meetV ts = -1 := by unfold meetV; rw [hv]; rfl
      rw [hm] at hne ⊢
      clear hv hm
      go_wp2_with fail
      refine (alive_c).mono ?_
      rintro e w6 ⟨rfl, b6⟩
      go_wp2_with fail
      go_ret
      exact ⟨rfl, below_step B3 b6⟩
    · have hlen : ts.length = nl := hrl3.1
      have hl6 : nl ≤ 6 := by
        have := hv
        unfold histB at this
        simp only [Bool.and_eq_true, decide_eq_true_eq] at this
        omega
      obtain ⟨p1, p2, p3⟩ := pairs_le ts (by omega)
      have hm : meetV ts = (meetsL ts (doneL ts) : Int) := by unfold meetV; rw [hv]; rfl
      have hdv : doneV ts = doneL ts := by unfold doneV; rw [hv]; rfl
      obtain ⟨M, hM⟩ : ∃ q, meetsL ts (doneL ts) = q := ⟨_, rfl⟩
      obtain ⟨L, hL⟩ : ∃ q, (doneL ts).length = q := ⟨_, rfl⟩
      rw [hM] at hm p1 p2
      rw [hL] at p2 p3
      rw [hm] at hne ⊢
      have HV := hide hv; have HB3 := hide B3; have HD := hide hdv; have HL := hide hL; have HLEN := hide hlen
      have P2 := hide p2
      have hM0 : ¬ ((M : Int) < 0) := by omega
      clear hv hM hL hm B3 hdv hlen p2
      have o0 := hide (RO.empty w3)
      have B0 := hide ((Below.refl w3.heap.size w3).alloc (Nat.le_refl _) (.cells #[] 36))
      go_wp2_with fail
      go_loopw [5, 6] (fun v i W => ∃ (k : Nat) (rs : List Tx), i = .int .i64 k ∧ k ≤ nl ∧ RO W w3.heap.size v k rs ∧ FR ts rs k ∧ Below w3.heap.size w3 W) (fun _ i _ => nl - (intOf i).toNat)
      case atStart => exact ⟨0, [], rfl, Nat.zero_le _, o0.out, FR.zero ts, B0.out⟩
      case round =>
        clear o0 B0
        obtain ⟨k, rs, rfl, hk, hro, hfr, bw⟩ := hrel
        obtain ⟨Ar, cr, rfl⟩ := hro.shape
        have HRO := hide hro; have HFR := hide hfr; have BW := hide bw
        clear hro hfr bw
        by_cases hkn : k < nl
        · obtain ⟨b, off, f, ys, dn, B, kk, d, rfl, hbb, hx, q0, q1, q2, hkd, hdm, hri⟩ := hrl3.at_ hkn
          have hkk6 : kk ≤ 1048576 := by
            have := HS.out _ (List.mem_of_getElem? hx)
            have h2 := hri.len
            dsimp only at this
            omega
          have s1 : S3 w3 (.slice B kk d) kk ys := ⟨B, d, rfl, hkd, hkk6, hri⟩
          have hyl := hri.len
          have htx : txnB (f, ys, dn) = true := by
            have := HV.out
            unfold histB at this
            simp only [Bool.and_eq_true] at this
            exact List.all_eq_true.1 this.2.1 _ (List.mem_of_getElem? hx)
          have TX := hide htx; have HX := hide hx; have Q0 := hide q0; have Q1 := hide q1; have Q2 := hide q2; have HYL := hide hyl
          have hc : ∀ W, Below w3.heap.size w3 W → W.cell? ⟨b, off + k * 3, none⟩ = some (.int .i64 f) ∧ W.cell? ⟨b, off + k * 3 + 1, none⟩ = some (.slice B kk d) ∧ W.cell? ⟨b, off + k * 3 + 2, none⟩ = some (.bool dn) := fun W h => ⟨(h.cell (p := ⟨b, off + k * 3, none⟩) hbb).trans Q0.out, (h.cell (p := ⟨b, off + k * 3 + 1, none⟩) hbb).trans Q1.out, (h.cell (p := ⟨b, off + k * 3 + 2, none⟩) hbb).trans Q2.out⟩
          have k0 : (0 : Int) ≤ k := by omega
          have k2 : (k : Int) < nl := by omega
          have i1 : decide ((k : Int) < 0) = false := by simp
          have i2 : decide (nl ≤ k) = false := by simp; omega
          have BZ : Below w3.heap.size w3 wr.drew := BW.out.drew
          have BX : Below wr.heap.size wr wr.drew := (Below.refl _ _).drew
          clear hx q0 q1 q2 hri htx hyl hkd hdm
          go_wp2_with fail
          refine wp_region_held_drew (S := (fun W => W.cell? ⟨b, off + k * 3, none⟩ = some (.int .i64 f) ∧ W.cell? ⟨b, off + k * 3 + 1, none⟩ = some (.slice B kk d) ∧ W.cell? ⟨b, off + k * 3 + 2, none⟩ = some (.bool dn))) (by kernel_rfl) ?_ (fun hHeld => ?_)
          · exact hc _ BZ
          refine wpAnyH_take (i := 0) (v := ?vv0) (by rw [List.getElem?_toArray]; exact rfl) (by kernel_rfl) (by kernel_rfl) (by kernel_rfl) (by intro _ _ _ h; exact h) (Or.inl ⟨by rfl, ?hy0⟩) hHeld ?rest0
          case' hy0 => (intro w hSw; (try dsimp only at hSw); go_simp; try (with_reducible rfl))
          (try simp only [Act.put, List.setIfInBounds_toArray, List.set_cons_zero, List.set_cons_succ])
          refine wpAnyH_take (i := 1) (v := ?vv1) (by rw [List.getElem?_toArray]; exact rfl) (by kernel_rfl) (by kernel_rfl) (by kernel_rfl) (by intro _ _ _ h; exact h) (Or.inl ⟨by rfl, ?hy1⟩) hHeld ?rest1
          case' hy1 => (intro w hSw; (try dsimp only at hSw); go_simp; try (with_reducible rfl))
          (try simp only [Act.put, List.setIfInBounds_toArray, List.set_cons_zero, List.set_cons_succ])
          refine wpAnyH_take (i := 2) (v := ?vv2) (by rw [List.getElem?_toArray]; exact rfl) (by kernel_rfl) (by kernel_rfl) (by kernel_rfl) (by intro _ _ _ h; exact h) (Or.inl ⟨by rfl, ?hy2⟩) hHeld ?rest2
          case' hy2 => (intro w hSw; (try dsimp only at hSw); go_simp; try (with_reducible rfl))
          (try simp only [Act.put, List.setIfInBounds_toArray, List.set_cons_zero, List.set_cons_succ])
          refine wpAnyH_take (i := 3) (v := ?vv3) (by rw [List.getElem?_toArray]; exact rfl) (by kernel_rfl) (by kernel_rfl) (by kernel_rfl) (by intro _ _ _ h; exact h) (Or.inl ⟨by rfl, ?hy3⟩) hHeld ?rest3
          case' hy3 => (intro w hSw; (try dsimp only at hSw); go_simp; try (with_reducible rfl))
          (try simp only [Act.put, List.setIfInBounds_toArray, List.set_cons_zero, List.set_cons_succ])
          refine wpAnyH_take (i := 4) (v := ?vv4) (by rw [List.getElem?_toArray]; exact rfl) (by kernel_rfl) (by kernel_rfl) (by kernel_rfl) (by intro _ _ _ h; exact h) (Or.inl ⟨by rfl, ?hy4⟩) hHeld ?rest4
          case' hy4 => (intro w hSw; (try dsimp only at hSw); go_simp; try (with_reducible rfl))
          (try simp only [Act.put, List.setIfInBounds_toArray, List.set_cons_zero, List.set_cons_succ])
          refine wpAnyH_take (i := 5) (v := ?vv5) (by rw [List.getElem?_toArray]; exact rfl) (by kernel_rfl) (by kernel_rfl) (by kernel_rfl) (by intro _ _ _ h; exact h) (Or.inl ⟨by rfl, ?hy5⟩) hHeld ?rest5
          case' hy5 => (intro w hSw; (try dsimp only at hSw); go_simp; try (with_reducible rfl))
          (try simp only [Act.put, List.setIfInBounds_toArray, List.set_cons_zero, List.set_cons_succ])
          refine wpAnyH_take (i := 6) (v := ?vv6) (by rw [List.getElem?_toArray]; exact rfl) (by kernel_rfl) (by kernel_rfl) (by kernel_rfl) (by intro _ _ _ h; exact h) (Or.inl ⟨by rfl, ?hy6⟩) hHeld ?rest6
          case' hy6 => (intro w hSw; (try dsimp only at hSw); go_simp; try (with_reducible rfl))
          (try simp only [Act.put, List.setIfInBounds_toArray, List.set_cons_zero, List.set_cons_succ])
          refine wpAnyH_take (i := 7) (v := ?vv7) (by rw [List.getElem?_toArray]; exact rfl) (by kernel_rfl) (by kernel_rfl) (by kernel_rfl) (by intro _ _ _ h; exact h) (Or.inl ⟨by rfl, ?hy7⟩) hHeld ?rest7
          case' hy7 => (intro w hSw; (try dsimp only at hSw); go_simp; try (with_reducible rfl))
          (try simp only [Act.put, List.setIfInBounds_toArray, List.set_cons_zero, List.set_cons_succ])
          refine wpAnyH_take (i := 8) (v := ?vv8) (by rw [List.getElem?_toArray]; exact rfl) (by kernel_rfl) (by kernel_rfl) (by kernel_rfl) (by intro _ _ _ h; exact h) (Or.inl ⟨by rfl, ?hy8⟩) hHeld ?rest8
          case' hy8 => (intro w hSw; (try dsimp only at hSw); go_simp; try (with_reducible rfl))
          (try simp only [Act.put, List.setIfInBounds_toArray, List.set_cons_zero, List.set_cons_succ])
          refine wpAnyH_take (i := 9) (v := ?vv9) (by rw [List.getElem?_toArray]; exact rfl) (by kernel_rfl) (by kernel_rfl) (by kernel_rfl) (by intro _ _ _ h; exact h) (Or.inl ⟨by rfl, ?hy9⟩) hHeld ?rest9
          case' hy9 => (intro w hSw; (try dsimp only at hSw); go_simp; try (with_reducible rfl))
          (try simp only [Act.put, List.setIfInBounds_toArray, List.set_cons_zero, List.set_cons_succ])
          refine wpAnyH_take (i := 11) (v := ?vv11) (by rw [List.getElem?_toArray]; exact rfl) (by kernel_rfl) (by kernel_rfl) (by kernel_rfl) (by intro _ _ _ h; exact h) (Or.inl ⟨by rfl, ?hy11⟩) hHeld ?rest11
          case' hy11 => (intro w hSw; (try dsimp only at hSw); go_simp; try (with_reducible rfl))
          (try simp only [Act.put, List.setIfInBounds_toArray, List.set_cons_zero, List.set_cons_succ])
          refine wpAnyH_take (i := 12) (v := ?vv12) (by rw [List.getElem?_toArray]; exact rfl) (by kernel_rfl) (by kernel_rfl) (by kernel_rfl) (by intro _ _ _ h; exact h) (Or.inl ⟨by rfl, ?hy12⟩) hHeld ?rest12
          case' hy12 => (intro w hSw; (try dsimp only at hSw); go_simp; try (with_reducible rfl))
          (try simp only [Act.put, List.setIfInBounds_toArray, List.set_cons_zero, List.set_cons_succ])
          refine wpAnyH_take (i := 13) (v := ?vv13) (by rw [List.getElem?_toArray]; exact rfl) (by kernel_rfl) (by kernel_rfl) (by kernel_rfl) (by intro _ _ _ h; exact h) (Or.inl ⟨by rfl, ?hy13⟩) hHeld ?rest13
          case' hy13 => (intro w hSw; (try dsimp only at hSw); go_simp; try (with_reducible rfl))
          (try simp only [Act.put, List.setIfInBounds_toArray, List.set_cons_zero, List.set_cons_succ])
          refine wpAnyH_take (i := 14) (v := ?vv14) (by rw [List.getElem?_toArray]; exact rfl) (by kernel_rfl) (by kernel_rfl) (by kernel_rfl) (by intro _ _ _ h; exact h) (Or.inl ⟨by rfl, ?hy14⟩) hHeld ?rest14
          case' hy14 => (intro w hSw; (try dsimp only at hSw); go_simp; try (with_reducible rfl))
          (try simp only [Act.put, List.setIfInBounds_toArray, List.set_cons_zero, List.set_cons_succ])
          refine wpAnyH_take (i := 15) (v := ?vv15) (by rw [List.getElem?_toArray]; exact rfl) (by kernel_rfl) (by kernel_rfl) (by kernel_rfl) (by intro _ _ _ h; exact h) (Or.inl ⟨by rfl, ?hy15⟩) hHeld ?rest15
          case' hy15 => (intro w hSw; (try dsimp only at hSw); go_simp; try (with_reducible rfl))
          (try simp only [Act.put, List.setIfInBounds_toArray, List.set_cons_zero, List.set_cons_succ])
          refine wpAnyH_ready (rs := [10]) (by kernel_rfl) (by simp) ?_
          refine AllReadyH.cons (by rw [List.getElem?_toArray]; exact rfl) (fun K hK => ?_) AllReadyH.nil
          go_simp
          go_at_call 13
          refine (FirstReads_c (s1.below BZ) TX.out).mono ?_
          rintro e w7 ⟨v7, n7, zs, rfl, so, hn7, hz7, bq⟩
          replace BZ := below_step BZ bq
          have RO7 := (HRO.out.below BX).below bq
          obtain ⟨Az, rfl, hz1, hr7⟩ := so.s3
          refine hK.out _ _ ?_ (fun hHeld => ?_)
          · exact hc _ BZ
          clear hK K
          (try simp only [Act.put, List.setIfInBounds_toArray, List.set_cons_zero, List.set_cons_succ])
          refine wpAnyH_take (i := 16) (v := ?vv16) (by rw [List.getElem?_toArray]; exact rfl) (by kernel_rfl) (by kernel_rfl) (by kernel_rfl) (by intro _ _ _ h; exact h) (Or.inl ⟨by rfl, ?hy16⟩) hHeld ?rest16
          case' hy16 => (intro w hSw; (try dsimp only at hSw); go_simp; try (with_reducible rfl))
          (try simp only [Act.put, List.setIfInBounds_toArray, List.set_cons_zero, List.set_cons_succ])
          refine wpAnyH_ready (rs := [17]) (by kernel_rfl) (by simp) ?_
          refine AllReadyH.cons (by rw [List.getElem?_toArray]; exact rfl) (fun K hK => ?_) AllReadyH.nil
          go_simp
          have K8 := Blk.new w7 36 #[.int .i64 f, .slice Az n7 n7, .bool dn]
          have RO8 := RO7.below ((Below.refl _ w7).alloc (Nat.le_refl _) (.cells #[.int .i64 f, .slice Az n7 n7, .bool dn] 36))
          have so8 := so.below ((Below.refl _ w7).alloc (Nat.le_refl _) (.cells #[.int .i64 f, .slice Az n7 n7, .bool dn] 36))
          have B8 := BZ.alloc BZ.size (.cells #[.int .i64 f, .slice Az n7 n7, .bool dn] 36)
          clear BZ
          have BZ := B8
          refine hK.out _ _ ?_ (fun hHeld => ?_)
          · exact hc _ BZ
          clear hK K
          (try simp only [Act.put, List.setIfInBounds_toArray, List.set_cons_zero, List.set_cons_succ])
          refine wpAnyH_ready (rs := [18]) (by kernel_rfl) (by simp) ?_
          refine AllReadyH.cons (by rw [List.getElem?_toArray]; exact rfl) (fun K hK => ?_) AllReadyH.nil
          obtain ⟨v9, w9, hrun, RO9, hg9⟩ := RO.run RO8 31 K8 so8 (by omega) (by have := BZ.size; omega)
          have B9 := RO.grows RO8 BZ (Nat.le_refl _) hg9
          clear BZ
          have BZ := B9
          clear B9
          refine wp_append_step rfl _ _ rfl rfl rfl hrun ?_
          refine hK.out _ _ ?_ (fun hHeld => ?_)
          · exact hc _ BZ
          clear hK K
          (try simp only [Act.put, List.setIfInBounds_toArray, List.set_cons_zero, List.set_cons_succ])
          refine wpAnyH_take (i := 19) (v := ?vv19) (by rw [List.getElem?_toArray]; exact rfl) (by kernel_rfl) (by kernel_rfl) (by kernel_rfl) (by intro _ _ _ h; exact h) (Or.inl ⟨by rfl, ?hy19⟩) hHeld ?rest19
          case' hy19 => (intro w hSw; (try dsimp only at hSw); go_simp; try (with_reducible rfl))
          (try simp only [Act.put, List.setIfInBounds_toArray, List.set_cons_zero, List.set_cons_succ])
          refine wpAnyH_done (by kernel_rfl) ?_ _
          go_wp2_with fail
          go_roundw
          case rel => exact ⟨k + 1, rs ++ [(f, zs, dn)], by go_num, by omega, RO9, HFR.out.snoc HX.out (by rw [hr7.len, HYL.out]; exact hn7) hz7, BZ⟩
          case measure => simp [intOf]; omega
        · obtain rfl : k = nl := by omega
          have hrl5 := hrl3.below BW.out
          go_wp2_with fail
          refine (impl_DoneTxns_c hrl5 (by omega) HS.out).mono ?_
          rintro e w5 ⟨r5, q5, rfl, o5, b5⟩
          have hq := o5.len
          rw [HD.out, HL.out] at hq
          subst hq
          obtain ⟨A5, c5, rfl⟩ := o5.shape
          have B5 := below_step BW.out b5
          have RO5 := HRO.out.below b5
          have hm0 := HFR.out.meet HLEN.out HV.out
          have HM0 := hide hm0
          have hs5 : SmallT rs := fun t ht => by have := HFR.out.ops HLEN.out HV.out t ht; omega
          have HS5 := hide hs5
          have hp0 : (0 : Int) ≤ (L : Int) * ((L : Int) - 1) := by have := P2.out; omega
          have hp1 : (L : Int) * ((L : Int) - 1) ≤ 30 := by
            have hl : L = 0 ∨ L = 1 ∨ L = 2 ∨ L = 3 ∨ L = 4 ∨ L = 5 ∨ L = 6 := by omega
            rcases hl with rfl | rfl | rfl | rfl | rfl | rfl | rfl <;> omega
          have p2 := P2.out
          clear hm0 hs5 o5 b5 hrl5
          go_wp2_with fail
          refine (impl_MeetingTxns_c RO5.rts (by omega) HS5.out).mono ?_
          rintro e w6 ⟨rfl, b6⟩
          rw [HM0.out]
          go_wp2_with fail
          go_ret
          exact ⟨rfl, below_step HB3.out (below_step B5 b6)⟩
  · go_enter Tryd.func4, Tryd.ntmps4
    go_wp2_with fail
    go_ret
    exact ⟨rfl, Below.refl _ _⟩

theorem door_met (os : Os) (args : Array Value) : laidMetH Tryd.prog Rows.fnMeetingTxnsRow.laid ((World.doorLaid Tryd.prog 24 os).forCall (fun _ _ => 0) ⟨#[], args, []⟩).memory :=
  laidMetH_of_parts3 (fuel := 8) (laidMet_of_run' 8 (by kernel_rfl) (by kernel_rfl)) (by kernel_rfl) (by kernel_rfl)
set_option maxRecDepth 100000 in
theorem lifted (os : Os) (started : os.Started) (H : Type) (enc : TypeId × Value → H) :
    ReturnsInHanded {} Tryd.checked os 4 .any (fun w args => (Rows.fnMeetingTxnsSpec.pre enc Tryd.prog Tryd.f4 [] false w args ∧ laidMetH Tryd.prog Rows.fnMeetingTxnsRow.laid w) ∧ sizedMet enc Tryd.prog Tryd.f4 (OpenSpec.ofChange Rows.fnMeetingTxnsSpec) false w args)
      (Rows.fnMeetingTxnsSpec.post enc Tryd.prog Tryd.f4 false true false false) := by
  refine returnsInHanded_of_change_and (C := Tryd.checked) (X := fun w _ => laidMetH Tryd.prog Rows.fnMeetingTxnsRow.laid w) (fun _ _ _ hh h => h.of_heap hh) own started (by kernel_rfl) Tryd.func4
    (ChangeSpec.witness_shaped (enc := enc) (C := Tryd.checked) (os := os) (X := fun w _ => laidMetH Tryd.prog Rows.fnMeetingTxnsRow.laid w) false (World.doorLaid Tryd.prog 24 os) #[.slice none 0 0] 8 rfl (World.shaped_of_RefB (by kernel_rfl) (by kernel_rfl)) (by kernel_rfl) (by kernel_rfl) (by kernel_rfl) (door_met os _)) ?_
  intro W base args ds gs before hval0 hW _ _ _ _
  have hval : ∀ (j : Nat) t v, Tryd.f4.params[j]? = some t → args[j]? = some v → Value.okWide Tryd.prog W .any base t v := hval0
  have hW' := hW
  obtain ⟨p, q, hA0, hV, rfl, hfz, hnd⟩ := hW
  have hA : DataW.TrodAll enc Tryd.prog W 0 (fun _ => true) true Tryd.f4.params.toList args.toList ds p := hA0
  rw [Tryd.params4] at hA hval
  obtain ⟨v0, vs0, d0, ds0, p0, q0, hargs, rfl, rfl, h0, r0⟩ := trodAll_cons hA
  obtain ⟨rfl, rfl, rfl⟩ := trodAll_nil r0
  obtain rfl : args = #[v0] := by cases args; simp_all
  obtain ⟨rfl, rfl⟩ := trodVars_none hV
  have k0 := h0
  have lt0 : ∀ x ∈ p0, x.block < W.heap.size := by obtain ⟨m, hm⟩ := k0; exact DataW.trod_lt m _ _ _ hm
  obtain ⟨A0, n0, c0, rfl, hnc0, hmx0, R0⟩ := open_bytesA (hval 0 22 v0 rfl rfl) h0
  clear hA0 hval0
  refine (walk A0 n0 c0 W hnc0 hmx0 R0).mono fun e W' ⟨he, bel⟩ => ?_
  subst he
  exact ⟨_, rfl, _, _, _, [], _, [], hW', trodAll_mk1 (shut_bool Tryd.underlying4 _), (trodAll_cons_mk (Below.trod laidOut (by kernel_rfl) (of_decide_eq_true (by kernel_rfl)) k0 bel lt0) trodAll_mk0), rfl, bel.frame _, fun h => by cases h⟩
theorem row_holds : Rows.FnMeetingTxnsSaid :=
  OpenClaim.holds_of_wide 4 Tryd.f4 rfl rfl rfl rfl rfl rfl rfl ⟨rfl, rfl, rfl, rfl, rfl⟩ rfl rfl rfl rfl rfl (by kernel_rfl) Tryd.func4 (by kernel_rfl)
    (of_decide_eq_true (by kernel_rfl)) (by unfold Func.isWrapper; first | (rw [if_pos (by decide +kernel)]; kernel_rfl) | (rw [if_neg (by decide +kernel)]; exact ⟨rfl, rfl⟩))
    (fun os started H enc _ => lifted os started H enc)
theorem proved : Rows.FnMeetingTxnsCardSaid :=
  Claim7.holds_tied_plain_at .later [] [.data, .data, .data] true (true, "42d3d691c0ee96e61846ed7f6b3080bd1252312b09fb90254e0c4ea456bd10f9") false
    row_holds (fun _ h => by cases h) (by kernel_rfl) (fun _ h => by cases h) fnMeetingTxns_row_tie rfl ⟨rfl, rfl⟩ (by kernel_rfl) rfl
    (fun f fn hf hfn => by
      obtain rfl : f = 4 := Option.some.inj ((show Tryd.prog.funcNamed "loop.example/historychecker/laws.FnMeetingTxns" = some 4 by kernel_rfl).symm.trans hf) |>.symm
      obtain rfl : fn = Tryd.f4 := (Option.some.inj (Tryd.func4.symm.trans hfn)).symm
      exact ⟨by kernel_rfl, fun j t ht => by
        rw [Tryd.params4] at ht
        have hm : t ∈ [22] := by simpa using Array.mem_of_getElem? ht
        have hall : ([22].all fun u => !Tryd.prog.wantsStandIn u) = true := by kernel_rfl
        exact (show Tryd.prog.wantsStandIn t = false by simpa using List.all_eq_true.1 hall t hm)⟩)
    (by kernel_rfl)

end Go.Proofs.YtipmfpfmhgdgdaaDoor.fnMeetingTxns
