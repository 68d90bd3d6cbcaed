/- FnLocksAlone: drafts that run alone are committed; in a schedule that takes draft by draft every one is committed with locks, with snapshots and without isolation, and all three histories are the same. The card ties the listed variables to the program's text; the law's road does not look into them. -/
import Derived.Test.YtfcfhgophpoibaaDoorOpenB
import Derived.Test.YtfcfhgophpoibaaDoorDrawPt
import Derived.Test.YtfcfhgophpoibaaDoorSameH
import Derived.Test.YtfcfhgophpoibaaDoorHistI
import Derived.Test.YtfcfhgophpoibaaDoorDirtyP
import Derived.Test.YtfcfhgophpoibaaDoorLoneTa
import Derived.Test.YtfcfhgophpoibaaDoorLoneTb
namespace Go.Proofs.YtfcfhgophpoibaaDoor.fnLocksAlone
open Go.ChangeShapes Go.WideShapes Go.ChangeAt Go.RowKit

theorem doneTo_all {ts : List Tx} (h : ∀ t ∈ ts, t.2.2 = true) : ∀ k, k ≤ ts.length → (doneTo ts k).length = k
  | 0, _ => rfl
  | k + 1, hk => by
    have ih := doneTo_all h k (by omega)
    have ht : ts[k]? = some (ts[k]'(by omega)) := List.getElem?_eq_getElem _
    rw [doneTo_yes ht (h _ (List.mem_of_getElem? ht)), List.length_append, ih]; rfl

set_option maxRecDepth 100000 in
set_option maxHeartbeats 16000000 in
theorem walk (A : Option Addr) (n c : Nat) (w : World) (hnc : n ≤ c) (hmx : c ≤ maxLen) (hb : BY w w.heap.size A n) :
    Calls Tryd.prog 5 #[.slice A n c] w fun e w' => e = .returned (.bool true) ∧ Below w.heap.size w w' := by
  by_cases hn : n ≤ 1048576
  · go_enter Tryd.func5, Tryd.ntmps5
    go_wp2_with fail
    refine (DrawRunLocks_c hnc hmx hb).mono ?_
    rintro e w1 ⟨A1, n1, c1, ms, u, k, xs, rfl, hnc1, hn5, hR, hsm, oU, hk, b1⟩
    have HSM := hide hsm
    clear hsm
    have sU := oU.si
    go_wp2_with fail
    refine (impl_RunLocks_c hR (by omega) HSM.out sU).mono ?_
    rintro e w2 ⟨v, mm, es, rfl, D, hsy, b2⟩
    have B2 := below_step b1 b2
    have sH := D.sts hsy
    go_wp2_with fail
    refine (spec_RunLocks_c (hR.below b2) (by omega) HSM.out (sU.below b2)).mono ?_
    rintro e w3 ⟨v3, m3, es3, rfl, D3, hsy3, b3⟩
    have B3 := below_step B2 b3
    go_wp2_with fail
    refine (sameHistory_c (sH.below b3) (D3.sts hsy3) (lockL_four ms xs).small).mono ?_
    rintro e w4 ⟨rfl, b4⟩
    have B4 := below_step B3 b4
    have b24 := b3.trans (b4.mono b3.size)
    have hR4 := (hR.below b2).below b24
    clear D hsy sH D3 hsy3 hR sU oU B2 B3 b1 b2 b3 b4 b24
    go_wp2_with fail
    refine (spec_PlanValid_c hR4 (by omega) HSM.out).mono ?_
    rintro e w5 ⟨rfl, b5⟩
    have B5 := below_step B4 b5
    have hR5 := hR4.below b5
    clear hR4 B4 b5
    have hpl := hide hR5.1
    cases hp : planB ms
    · have HP := hide hp; clear hp
      go_wp2_with fail
      refine (alive_c).mono ?_
      rintro e w6 ⟨rfl, b6⟩
      go_wp2_with fail
      go_ret
      exact ⟨rfl, below_step B5 b6⟩
    · have hrun := alone_runB hp
      obtain ⟨q1, q2, q3⟩ := alone_same hp
      have Q1 := hide q1; have Q2 := hide q2
      have hl4 : n1 ≤ 4 := by
        have := hp; unfold planB at this; simp only [Bool.and_eq_true, decide_eq_true_eq] at this
        rw [← hpl.out]; exact this.1
      have hds : ∀ d ∈ ms, draftB d = true := by
        have := hp; unfold planB at this; simp only [Bool.and_eq_true, List.all_eq_true] at this
        exact this.2
      have hal : ∀ q, q ≤ ms.length → (aloneTo ms q).length ≤ 4 * q := fun q hq => aloneTo_len hds q hq
      have HAL := hide hal; have HDS := hide hds
      have hfit := (dirtyL_fits hrun).1
      have hdn : (doneV (dirtyL ms (aloneL ms))).length = n1 := by
        unfold doneV doneL
        rw [dirtyL_valid hrun, if_pos rfl, doneTo_all q3 _ (Nat.le_refl _), hfit, hpl.out]
      have HDN := hide hdn
      have O0 := hide (OI.of_blk (Blk.new w5 3 #[]) (Nat.le_refl _) rfl rfl (by omega) : OI (w5.alloc (.cells #[] 3)) w5.heap.size (.slice (some ⟨w5.heap.size, 0, none⟩) 0 0) 0 [])
      have BB := hide B5
      have HR := hide hR5
      have C0 := hide ((Below.refl w5.heap.size w5).alloc (Nat.le_refl _) (.cells #[] 3))
      clear hrun q1 q2 q3 hds hal hfit hdn hp B5 hR5
      go_wp2_with fail
      go_loopw [5, 6] (fun s i wr => ∃ j : Nat, i = .int .i64 j ∧ j ≤ n1 ∧ OI wr w5.heap.size s (aloneAt ms j 0).length (aloneAt ms j 0) ∧ Below w5.heap.size w5 wr) (fun _ i _ => n1 - (intOf i).toNat)
      case atStart => exact ⟨0, rfl, Nat.zero_le _, by rw [aloneAt_zero]; exact O0.out, C0.out⟩
      case round =>
        clear O0 C0
        obtain ⟨j, rfl, hj, ho, bw⟩ := hrel
        have HO := hide ho; have BW := hide bw; clear ho bw
        by_cases hjk : j < n1
        · obtain ⟨bp, op, f', ys', B', q', d', rfl, hbp, hx', p0', p1', _, _, hr3'⟩ := HR.out.at_ hjk
          have hst : stepsOf ms j = ys' := stepsOf_get hx'
          have hyl := hr3'.len
          have HST := hide hst
          have hq4 : q' ≤ 4 := by
            have h1 := HAL.out (j + 1) (by rw [hpl.out]; omega)
            have h2 : (aloneTo ms (j + 1)).length = (aloneTo ms j).length + ys'.length := by simp [aloneTo, hst]
            have h3 := (draftB_parts (HDS.out _ (List.mem_of_getElem? hx'))).2.1
            have h4 : ys'.length ≤ 4 := h3
            omega
          have P1' := hide p1'
          have j0 : (0 : Int) ≤ j := by omega
          have j1 : (j : Int) < n1 := by omega
          have haj := HAL.out j (by rw [hpl.out]; omega)
          clear hst hx' p0' p1' hr3'
          go_wp2_with fail
          go_loopw [5, 7] (fun s i wr2 => ∃ i2 : Nat, i = .int .i64 i2 ∧ i2 ≤ q' ∧ OI wr2 w5.heap.size s (aloneAt ms j i2).length (aloneAt ms j i2) ∧ Below w5.heap.size w5 wr2) (fun _ i _ => q' - (intOf i).toNat)
          case atStart => exact ⟨0, rfl, Nat.zero_le _, HO.out, BW.out⟩
          case round =>
            clear HO BW
            rename World => wr2
            obtain ⟨i2, rfl, hi2, ho, bw⟩ := hrel
            obtain ⟨Ao, co, rfl⟩ := ho.shape
            have HO := hide ho; have BW := hide bw; clear ho bw
            have c1' := (BW.out.cell (p := ⟨bp, op + j * 2 + 1, none⟩) hbp).trans P1'.out
            by_cases hik : i2 < q'
            · have hln : (aloneAt ms j i2).length + 1 ≤ 1048576 := by
                have : (aloneAt ms j i2).length = (aloneTo ms j).length + i2 := by simp [aloneAt]
                omega
              have hsu := aloneAt_succ ms j i2
              have HSU := hide hsu
              have o4 := HO.out.alloc (.cells #[.int .i64 (j : Int)] 3)
              have B4 := BW.out.alloc BW.out.size (.cells #[.int .i64 (j : Int)] 3)
              have s4 := SI.one wr2 (j : Int) 1 (Nat.le_refl _)
              have hbz : w5.heap.size ≤ (wr2.alloc (.cells #[.int .i64 (j : Int)] 3)).heap.size := by have := BW.out.size; simp; omega
              have HB4 := hide B4
              clear hsu B4
              go_wp2_with (at_builtin; refine wpList_appI rfl _ _ rfl rfl o4 rfl s4 hln hbz ?_; intro v5 w6 h5 hg5 hat)
              go_roundw
              case rel => exact ⟨i2 + 1, by go_num, by omega, by rw [HSU.out, List.length_append]; exact h5, HB4.out.grown hg5 HB4.out.size (fun q hq => (World.ownsRow.lt HO.out.1 q hq).1)⟩
              case measure => simp [intOf]; omega
            · obtain rfl : i2 = q' := by omega
              have hen := aloneAt_end ms j
              rw [HST.out, hyl] at hen
              have HEN := hide hen
              clear hen
              go_wp2_with fail
              go_roundw
              case rel => exact ⟨j + 1, by go_num, by omega, by rw [← HEN.out]; exact HO.out, BW.out⟩
              case measure => simp [intOf]; omega
        · obtain rfl : j = n1 := by omega
          have hae : aloneAt ms j 0 = aloneL ms := by unfold aloneL; rw [hpl.out]
          have HO2 := HO.out
          rw [hae] at HO2
          have hR6 := HR.out.below BW.out
          have B6 := below_step BB.out BW.out
          have sA := HO2.si
          clear hae HO
          obtain ⟨As, cs, hAs⟩ := HO2.shape
          subst hAs
          clear HO2
          go_wp2_with fail
          refine (impl_RunDirty_c hR6 (by omega) HSM.out sA).mono ?_
          rintro e w7 ⟨v7, m7, es7, rfl, D7, hsy7, b7⟩
          have B7 := below_step B6 b7
          have s7 := D7.sts hsy7
          have hsm7 := (dirtyL_four ms (aloneL ms)).small
          have hm7 : m7 ≤ 4 := by
            obtain ⟨_, _, _, _, _, h⟩ := s7
            have := (dirtyL_four ms (aloneL ms)).1; have := h.1; omega
          obtain ⟨Ah, ch, rfl, _, _, hrt7⟩ := s7
          have s7 := D7.sts hsy7
          have HS7 := hide hsm7
          have hR7 := hR6.below b7
          have sA7 := sA.below b7
          clear D7 hsy7 hR6 sA B6 hsm7
          go_wp2_with fail
          refine (impl_DoneTxns_c hrt7 (by omega) HS7.out).mono ?_
          rintro e w8 ⟨r8, k8, rfl, o8, b8⟩
          obtain rfl : k8 = j := by rw [← o8.len, HDN.out]
          obtain ⟨A8, c8, rfl⟩ := o8.shape
          have B8 := below_step B7 b8
          have s8 := s7.below b8
          have hR8 := hR7.below b8
          have sA8 := sA7.below b8
          clear o8 s7 hR7 sA7 B7 hrt7
          go_wp2_with fail
          refine (impl_RunLocks_c hR8 (by omega) HSM.out sA8).mono ?_
          rintro e w9 ⟨v9, m9, es9, rfl, D9, hsy9, b9⟩
          have B9 := below_step B8 b9
          have s9 := D9.sts (show SaysT es9 (dirtyL ms (aloneL ms)) by rw [← Q1.out]; exact hsy9)
          have t9 := s8.below b9
          have hR9 := hR8.below b9
          have sA9 := sA8.below b9
          clear D9 hsy9 s8 hR8 sA8 B8
          go_wp2_with fail
          refine (sameHistory_c s9 t9 HS7.out).mono ?_
          rintro e w10 ⟨rfl, b10⟩
          have B10 := below_step B9 b10
          have t10 := t9.below b10
          have hR10 := hR9.below b10
          have sA10 := sA9.below b10
          clear s9 t9 hR9 sA9 B9
          go_wp2_with fail
          refine (impl_RunSnapshots_c hR10 (by omega) HSM.out sA10).mono ?_
          rintro e w11 ⟨v11, m11, es11, rfl, D11, hsy11, b11⟩
          have B11 := below_step B10 b11
          have s11 := D11.sts (show SaysT es11 (dirtyL ms (aloneL ms)) by rw [← Q2.out]; exact hsy11)
          have t11 := t10.below b11
          clear D11 hsy11 t10 hR10 sA10 B10
          go_wp2_with fail
          refine (sameHistory_c s11 t11 HS7.out).mono ?_
          rintro e w12 ⟨rfl, b12⟩
          go_wp2_with fail
          go_ret
          exact ⟨rfl, below_step B11 b12⟩
  · go_enter Tryd.func5, Tryd.ntmps5
    go_wp2_with fail
    go_ret
    exact ⟨rfl, Below.refl _ _⟩

theorem door_met (os : Os) (args : Array Value) : laidMetH Tryd.prog Rows.fnLocksAloneRow.laid ((World.doorLaid Tryd.prog 24 os).forCall (fun _ _ => 0) ⟨#[], args, []⟩).memory :=
  laidMetH_of_parts3 (fuel := 8) (laidMet_of_run' 8 (by kernel_rfl) (by kernel_rfl)) (by kernel_rfl) (by kernel_rfl)
set_option maxRecDepth 100000 in
theorem lifted (os : Os) (started : os.Started) (H : Type) (enc : TypeId × Value → H) :
    ReturnsInHanded {} Tryd.checked os 5 .any (fun w args => (Rows.fnLocksAloneSpec.pre enc Tryd.prog Tryd.f5 [] false w args ∧ laidMetH Tryd.prog Rows.fnLocksAloneRow.laid w) ∧ sizedMet enc Tryd.prog Tryd.f5 (OpenSpec.ofChange Rows.fnLocksAloneSpec) false w args)
      (Rows.fnLocksAloneSpec.post enc Tryd.prog Tryd.f5 false true false false) := by
  refine returnsInHanded_of_change_and (C := Tryd.checked) (X := fun w _ => laidMetH Tryd.prog Rows.fnLocksAloneRow.laid w) (fun _ _ _ hh h => h.of_heap hh) own started (by kernel_rfl) Tryd.func5
    (ChangeSpec.witness_shaped (enc := enc) (C := Tryd.checked) (os := os) (X := fun w _ => laidMetH Tryd.prog Rows.fnLocksAloneRow.laid w) false (World.doorLaid Tryd.prog 24 os) #[.slice none 0 0] 8 rfl (World.shaped_of_RefB (by kernel_rfl) (by kernel_rfl)) (by kernel_rfl) (by kernel_rfl) (by kernel_rfl) (door_met os _)) ?_
  intro W base args ds gs before hval0 hW _ _ _ _
  have hval : ∀ (j : Nat) t v, Tryd.f5.params[j]? = some t → args[j]? = some v → Value.okWide Tryd.prog W .any base t v := hval0
  have hW' := hW
  obtain ⟨p, q, hA0, hV, rfl, hfz, hnd⟩ := hW
  have hA : DataW.TrodAll enc Tryd.prog W 0 (fun _ => true) true Tryd.f5.params.toList args.toList ds p := hA0
  rw [Tryd.params5] at hA hval
  obtain ⟨v0, vs0, d0, ds0, p0, q0, hargs, rfl, rfl, h0, r0⟩ := trodAll_cons hA
  obtain ⟨rfl, rfl, rfl⟩ := trodAll_nil r0
  obtain rfl : args = #[v0] := by cases args; simp_all
  obtain ⟨rfl, rfl⟩ := trodVars_none hV
  have k0 := h0
  have lt0 : ∀ x ∈ p0, x.block < W.heap.size := by obtain ⟨m, hm⟩ := k0; exact DataW.trod_lt m _ _ _ hm
  obtain ⟨A0, n0, c0, rfl, hnc0, hmx0, R0⟩ := open_bytesA (hval 0 22 v0 rfl rfl) h0
  clear hA0 hval0
  refine (walk A0 n0 c0 W hnc0 hmx0 R0).mono fun e W' ⟨he, bel⟩ => ?_
  subst he
  exact ⟨_, rfl, _, _, _, [], _, [], hW', trodAll_mk1 (shut_bool Tryd.underlying4 _), (trodAll_cons_mk (Below.trod laidOut (by kernel_rfl) (of_decide_eq_true (by kernel_rfl)) k0 bel lt0) trodAll_mk0), rfl, bel.frame _, fun h => by cases h⟩
theorem row_holds : Rows.FnLocksAloneSaid :=
  OpenClaim.holds_of_wide 5 Tryd.f5 rfl rfl rfl rfl rfl rfl rfl ⟨rfl, rfl, rfl, rfl, rfl⟩ rfl rfl rfl rfl rfl (by kernel_rfl) Tryd.func5 (by kernel_rfl)
    (of_decide_eq_true (by kernel_rfl)) (by unfold Func.isWrapper; first | (rw [if_pos (by decide +kernel)]; kernel_rfl) | (rw [if_neg (by decide +kernel)]; exact ⟨rfl, rfl⟩))
    (fun os started H enc _ => lifted os started H enc)
theorem proved : Rows.FnLocksAloneCardSaid :=
  Claim7.holds_tied_plain_at .later [] [.data, .data, .data] true (true, "a0b8502a6980d9dabde8adba7cd9e4bc28be48685489fa259a7add24dcf9ed36") false
    row_holds (fun _ h => by cases h) (by kernel_rfl) (fun _ h => by cases h) fnLocksAlone_row_tie rfl ⟨rfl, rfl⟩ (by kernel_rfl) rfl
    (fun f fn hf hfn => by
      obtain rfl : f = 5 := Option.some.inj ((show Tryd.prog.funcNamed "loop.example/historychecker/laws.FnLocksAlone" = some 5 by kernel_rfl).symm.trans hf) |>.symm
      obtain rfl : fn = Tryd.f5 := (Option.some.inj (Tryd.func5.symm.trans hfn)).symm
      exact ⟨by kernel_rfl, fun j t ht => by
        rw [Tryd.params5] at ht
        have hm : t ∈ [22] := by simpa using Array.mem_of_getElem? ht
        have hall : ([22].all fun u => !Tryd.prog.wantsStandIn u) = true := by kernel_rfl
        exact (show Tryd.prog.wantsStandIn t = false by simpa using List.all_eq_true.1 hall t hm)⟩)
    (by kernel_rfl)
end Go.Proofs.YtfcfhgophpoibaaDoor.fnLocksAlone
