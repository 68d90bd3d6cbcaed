/- FnWaitingTxns: waiting transactions have begun; they ascend, and are not committed. The card ties the listed variables to the program's text; the law's road does not look into them. -/
import Derived.Test.YtfcfhgophpoibaaDoorOpenB
import Derived.Test.YtfcfhgophpoibaaDoorWaitS
import Derived.Test.YtfcfhgophpoibaaDoorDrawPt
import Derived.Test.YtfcfhgophpoibaaDoorInts
import Derived.Test.YtfcfhgophpoibaaDoorWaitI
namespace Go.Proofs.YtfcfhgophpoibaaDoor
open Go.RowKit

set_option maxHeartbeats 400000 in
theorem sameInts_c {u v : Value} {n m : Nat} {xs ys : List Int} {w : World} (hu : SI w u n xs) (hv : SI w v m ys) :
    Calls Tryd.prog 16 #[u, v] w fun e w' => e = .returned (.bool (decide (xs = ys))) ∧ Below w.heap.size w w' := by
  obtain ⟨A, c, rfl, _, hn, ha⟩ := hu
  obtain ⟨B, d, rfl, _, hm, hb⟩ := hv
  have hla := hide ha.len
  have hlb := hide hb.len
  by_cases hnm : n = m
  · subst hnm
    go_enter Tryd.func16, Tryd.ntmps16
    go_wp2
    go_loopw [5] (fun i wr => ∃ k : Nat, k ≤ n ∧ i = .int .i64 k ∧ xs.take k = ys.take k ∧ Below w.heap.size w wr) (fun i _ => n - (intOf i).toNat)
    case atStart => exact ⟨0, Nat.zero_le _, rfl, rfl, Below.refl _ _⟩
    case round =>
      obtain ⟨k, hk, rfl, heq, hbel⟩ := hrel
      have Heq := hide heq; clear heq
      by_cases hlt : k < n
      · obtain ⟨b1, o1, x, rfl, hb1, hx, hc1⟩ := ha.at_ hlt
        obtain ⟨b2, o2, y, rfl, hb2, hy, hc2⟩ := hb.at_ hlt
        have Hx := hide hx; clear hx
        have Hy := hide hy; clear hy
        have hd1 : wr.cell? ⟨b1, o1 + k, none⟩ = some (.int .i64 x) := (hbel.cell hb1).trans hc1
        have hd2 : wr.cell? ⟨b2, o2 + k, none⟩ = some (.int .i64 y) := (hbel.cell hb2).trans hc2
        clear hc1 hc2
        by_cases hxy : x = y
        · subst hxy
          go_wp2
          go_quiet (fail)
          go_wp2
          go_roundw
          case rel => exact ⟨k + 1, by omega, by go_num, take_snoc_eq _ _ _ _ Heq.out Hx.out Hy.out, below_drewN hbel _⟩
          case measure => simp [intOf]; omega
        · go_wp2
          go_quiet (fail)
          go_wp2
          go_ret
          have hne : ¬ xs = ys := by
            intro h; apply hxy; have e := Hx.out; rw [h, Hy.out] at e; injection e with e; exact e.symm
          exact ⟨by simp [hne], below_drewN hbel _⟩
      · go_wp2
        go_ret
        obtain rfl : k = n := by omega
        have h1 := Heq.out
        rw [List.take_of_length_le (by rw [hla.out]; omega), List.take_of_length_le (by rw [hlb.out]; omega)] at h1
        exact ⟨by simp [h1], hbel⟩
  · have hne : ¬ xs = ys := by
      intro h; apply hnm; rw [← hla.out, ← hlb.out, h]
    have Hne := hide hne; clear hne
    go_enter Tryd.func16, Tryd.ntmps16
    go_wp2
    go_ret
    exact ⟨by simp [Hne.out], Below.refl _ _⟩

end Go.Proofs.YtfcfhgophpoibaaDoor
namespace Go.Proofs.YtfcfhgophpoibaaDoor

theorem waitTo_mem (ts : List Tx) : ∀ (k j : Nat) (x : Int), (waitTo ts k)[j]? = some x → ∃ (i : Nat) (t : Tx), x = i ∧ i < k ∧ ts[i]? = some t ∧ waitB t = true
  | 0, j, x, h => by simp [waitTo] at h
  | k + 1, j, x, h => by
    cases ht : ts[k]? with
    | none =>
      have e : waitTo ts (k + 1) = waitTo ts k := by rw [waitTo, ht]; simp
      rw [e] at h
      obtain ⟨i, t, h1, h2, h3⟩ := waitTo_mem ts k j x h
      exact ⟨i, t, h1, by omega, h3⟩
    | some t =>
      cases hb : waitB t with
      | false =>
        rw [waitTo_no ht hb] at h
        obtain ⟨i, t, h1, h2, h3⟩ := waitTo_mem ts k j x h
        exact ⟨i, t, h1, by omega, h3⟩
      | true =>
        rw [waitTo_yes ht hb] at h
        by_cases hj : j < (waitTo ts k).length
        · rw [List.getElem?_append_left hj] at h
          obtain ⟨i, t, h1, h2, h3⟩ := waitTo_mem ts k j x h
          exact ⟨i, t, h1, by omega, h3⟩
        · have : j = (waitTo ts k).length := by have := (List.getElem?_eq_some_iff.1 h).1; simp at this; omega
          subst this
          simp at h
          exact ⟨k, t, h.symm, by omega, ht, hb⟩
theorem waitTo_asc (ts : List Tx) : ∀ (k j : Nat) (x y : Int), (waitTo ts k)[j]? = some x → (waitTo ts k)[j + 1]? = some y → x < y
  | 0, j, x, y, h, _ => by simp [waitTo] at h
  | k + 1, j, x, y, h, h' => by
    cases ht : ts[k]? with
    | none =>
      have e : waitTo ts (k + 1) = waitTo ts k := by rw [waitTo, ht]; simp
      rw [e] at h h'
      exact waitTo_asc ts k j x y h h'
    | some t =>
      cases hb : waitB t with
      | false =>
        rw [waitTo_no ht hb] at h h'
        exact waitTo_asc ts k j x y h h'
      | true =>
        rw [waitTo_yes ht hb] at h h'
        by_cases hj : j + 1 < (waitTo ts k).length
        · rw [List.getElem?_append_left (by omega)] at h
          rw [List.getElem?_append_left hj] at h'
          exact waitTo_asc ts k j x y h h'
        · have : j + 1 = (waitTo ts k).length := by have := (List.getElem?_eq_some_iff.1 h').1; simp at this; omega
          rw [this] at h'
          simp at h'
          rw [List.getElem?_append_left (by omega)] at h
          obtain ⟨i, t, h1, h2, _⟩ := waitTo_mem ts k j x h
          omega

end Go.Proofs.YtfcfhgophpoibaaDoor
namespace Go.Proofs.YtfcfhgophpoibaaDoor.fnWaitingTxns
open Go.ChangeShapes Go.WideShapes Go.ChangeAt Go.RowKit

set_option maxRecDepth 100000 in
set_option maxHeartbeats 16000000 in
theorem walk (A : Option Addr) (n c : Nat) (w : World) (hnc : n ≤ c) (hmx : c ≤ maxLen) (hb : BY w w.heap.size A n) :
    Calls Tryd.prog 4 #[.slice A n c] w fun e w' => e = .returned (.bool true) ∧ Below w.heap.size w w' := by
  by_cases hn : n ≤ 1048576
  · go_enter Tryd.func4, Tryd.ntmps4
    go_wp2_with fail
    refine (DrawWaitingTxns_c hnc hmx hb).mono ?_
    rintro e w1 ⟨A1, n1, c1, ms, u, k, xs, rfl, hnc1, hn5, hR, hsm, oU, hk, b1⟩
    have HSM := hide hsm
    clear hsm
    have sU := oU.si
    go_wp2_with fail
    refine (impl_WaitingTxns_c hR (by omega) HSM.out sU).mono ?_
    rintro e w2 ⟨r, kk, rfl, o2, b2⟩
    have B2 := below_step b1 b2
    go_wp2_with fail
    refine (spec_WaitingTxns_c (hR.below b2) (by omega) HSM.out (sU.below b2)).mono ?_
    rintro e w3 ⟨r3, k3, rfl, o3, b3⟩
    have B3 := below_step B2 b3
    have s2 := o2.si.below b3
    go_wp2_with fail
    refine (sameInts_c s2 o3.si).mono ?_
    rintro e w4 ⟨rfl, b4⟩
    simp only [decide_true]
    have B4 := below_step B3 b4
    have s4 := s2.below b4
    have hR4 := (hR.below b2).below (b3.trans (b4.mono b3.size))
    have sU4 := (sU.below b2).below (b3.trans (b4.mono b3.size))
    clear o2 o3 s2
    go_wp2_with fail
    refine (impl_RunLocks_c hR4 (by omega) HSM.out sU4).mono ?_
    rintro e w5 ⟨v, mm, es, rfl, D, hsy, b5⟩
    have B5 := below_step B4 b5
    have s5 := s4.below b5
    obtain ⟨Ah, ch, rfl, _, hmm, hrt⟩ := D.sts hsy
    obtain ⟨Ar, cr, rfl, _, hkk, hri⟩ := s5
    have hll := hide hrt.1
    have hRT := hide hrt; have hRI := hide hri; have BB := hide B5
    have hkl := hide hri.len
    clear D hsy hrt hri B5 hR hR4 sU sU4 oU s4 B2 B3 B4 b1 b2 b3 b4 b5
    go_wp2_with fail
    go_loopw [7] (fun i wr => ∃ j : Nat, i = .int .i64 j ∧ j ≤ kk ∧ Below w5.heap.size w5 wr) (fun i _ => kk - (intOf i).toNat)
    case atStart => exact ⟨0, rfl, Nat.zero_le _, Below.refl _ _⟩
    case round =>
      obtain ⟨j, rfl, hj, bw⟩ := hrel
      by_cases hjk : j < kk
      · obtain ⟨b, off, x, rfl, hbb, hx, hc⟩ := hRI.out.at_ hjk
        obtain ⟨i, t, rfl, hil, hit, hwt⟩ := waitTo_mem _ _ _ _ hx
        rw [hll.out] at hil
        obtain ⟨bh, oh, f, ys, dn, B, q, d, rfl, hbh, hx2, p0, p1, p2, _, _, hr3⟩ := hRT.out.at_ hil
        have e1 := hit.symm.trans hx2
        injection e1 with e1
        subst e1
        have hyl := hr3.len
        unfold waitB at hwt
        simp only [Bool.and_eq_true, decide_eq_true_eq, Bool.not_eq_true'] at hwt
        obtain ⟨hq0, rfl⟩ := hwt
        have c0 := (bw.cell (p := ⟨b, off + j, none⟩) hbb).trans hc
        have d1 := (bw.cell (p := ⟨bh, oh + i * 3 + 1, none⟩) hbh).trans p1
        have d2 := (bw.cell (p := ⟨bh, oh + i * 3 + 2, none⟩) hbh).trans p2
        have j0 : (0 : Int) ≤ j := by omega
        have j1 : (j : Int) < kk := by omega
        have i0 : (0 : Int) ≤ i := by omega
        have i1 : (i : Int) < mm := by omega
        have g1 : decide ((i : Int) < 0) = false := by simp
        have g2 : decide ((mm : Int) ≤ i) = false := by simp; omega
        have g3 : ((q : Int) == 0) = false := by rw [beq_eq_false_iff_ne]; omega
        have g2n : decide (mm ≤ i) = false := by simp; omega
        have g3n : (q == 0) = false := by rw [beq_eq_false_iff_ne]; omega
        have g3d : decide (q = 0) = false := by simp; omega
        have BW := hide bw
        have HX := hide hx
        clear hit hx2 p0 p1 p2 hr3 hc hyl hq0 hx bw
        by_cases hj0 : j = 0
        · subst hj0
          rw [Nat.add_zero] at c0
          go_wp2_with fail
          go_big_quiet (fail)
          go_wp2_with fail
          go_roundw
          case rel => exact ⟨1, by go_num, by omega, below_drewN BW.out _⟩
          case measure => simp [intOf]; omega
        · obtain ⟨jp, hjp⟩ : ∃ q, j = q + 1 := ⟨j - 1, by omega⟩
          obtain ⟨b', off', x', e2, hbb', hx', hc'⟩ := hRI.out.at_ (show jp < kk by omega)
          injection e2 with e2
          injection e2 with e2 e3
          subst e2; subst e3
          have hlt := waitTo_asc _ _ _ _ _ hx' (by rw [← hjp]; exact HX.out)
          have c0' := (BW.out.cell (p := ⟨b, off + jp, none⟩) hbb).trans hc'
          have g4 : decide ((0 : Int) < (j : Int)) = true := by simp; omega
          have g5 : decide ((i : Int) ≤ x') = false := by simp; omega
          have g4n : decide (0 < j) = true := by simp; omega
          have hjm : (j : Int) - 1 = (jp : Int) := by omega
          have jp0 : (0 : Int) ≤ jp := by omega
          have jp1 : (jp : Int) < kk := by omega
          clear hx' hc' hlt hjp hj0
          go_wp2_with fail
          go_big_quiet (fail)
          go_wp2_with fail
          go_roundw
          case rel => exact ⟨j + 1, by go_num, by omega, below_drewN BW.out _⟩
          case measure => simp [intOf]; omega
      · obtain rfl : j = kk := by omega
        go_wp2_with fail
        refine (alive_c).mono ?_
        rintro e w6 ⟨rfl, b6⟩
        go_wp2_with fail
        go_ret
        exact ⟨rfl, below_step (below_step BB.out bw) b6⟩
  · go_enter Tryd.func4, Tryd.ntmps4
    go_wp2_with fail
    go_ret
    exact ⟨rfl, Below.refl _ _⟩

theorem door_met (os : Os) (args : Array Value) : laidMetH Tryd.prog Rows.fnWaitingTxnsRow.laid ((World.doorLaid Tryd.prog 24 os).forCall (fun _ _ => 0) ⟨#[], args, []⟩).memory :=
  laidMetH_of_parts3 (fuel := 8) (laidMet_of_run' 8 (by kernel_rfl) (by kernel_rfl)) (by kernel_rfl) (by kernel_rfl)
set_option maxRecDepth 100000 in
theorem lifted (os : Os) (started : os.Started) (H : Type) (enc : TypeId × Value → H) :
    ReturnsInHanded {} Tryd.checked os 4 .any (fun w args => (Rows.fnWaitingTxnsSpec.pre enc Tryd.prog Tryd.f4 [] false w args ∧ laidMetH Tryd.prog Rows.fnWaitingTxnsRow.laid w) ∧ sizedMet enc Tryd.prog Tryd.f4 (OpenSpec.ofChange Rows.fnWaitingTxnsSpec) false w args)
      (Rows.fnWaitingTxnsSpec.post enc Tryd.prog Tryd.f4 false true false false) := by
  refine returnsInHanded_of_change_and (C := Tryd.checked) (X := fun w _ => laidMetH Tryd.prog Rows.fnWaitingTxnsRow.laid w) (fun _ _ _ hh h => h.of_heap hh) own started (by kernel_rfl) Tryd.func4
    (ChangeSpec.witness_shaped (enc := enc) (C := Tryd.checked) (os := os) (X := fun w _ => laidMetH Tryd.prog Rows.fnWaitingTxnsRow.laid w) false (World.doorLaid Tryd.prog 24 os) #[.slice none 0 0] 8 rfl (World.shaped_of_RefB (by kernel_rfl) (by kernel_rfl)) (by kernel_rfl) (by kernel_rfl) (by kernel_rfl) (door_met os _)) ?_
  intro W base args ds gs before hval0 hW _ _ _ _
  have hval : ∀ (j : Nat) t v, Tryd.f4.params[j]? = some t → args[j]? = some v → Value.okWide Tryd.prog W .any base t v := hval0
  have hW' := hW
  obtain ⟨p, q, hA0, hV, rfl, hfz, hnd⟩ := hW
  have hA : DataW.TrodAll enc Tryd.prog W 0 (fun _ => true) true Tryd.f4.params.toList args.toList ds p := hA0
  rw [Tryd.params4] at hA hval
  obtain ⟨v0, vs0, d0, ds0, p0, q0, hargs, rfl, rfl, h0, r0⟩ := trodAll_cons hA
  obtain ⟨rfl, rfl, rfl⟩ := trodAll_nil r0
  obtain rfl : args = #[v0] := by cases args; simp_all
  obtain ⟨rfl, rfl⟩ := trodVars_none hV
  have k0 := h0
  have lt0 : ∀ x ∈ p0, x.block < W.heap.size := by obtain ⟨m, hm⟩ := k0; exact DataW.trod_lt m _ _ _ hm
  obtain ⟨A0, n0, c0, rfl, hnc0, hmx0, R0⟩ := open_bytesA (hval 0 22 v0 rfl rfl) h0
  clear hA0 hval0
  refine (walk A0 n0 c0 W hnc0 hmx0 R0).mono fun e W' ⟨he, bel⟩ => ?_
  subst he
  exact ⟨_, rfl, _, _, _, [], _, [], hW', trodAll_mk1 (shut_bool Tryd.underlying4 _), (trodAll_cons_mk (Below.trod laidOut (by kernel_rfl) (of_decide_eq_true (by kernel_rfl)) k0 bel lt0) trodAll_mk0), rfl, bel.frame _, fun h => by cases h⟩
theorem row_holds : Rows.FnWaitingTxnsSaid :=
  OpenClaim.holds_of_wide 4 Tryd.f4 rfl rfl rfl rfl rfl rfl rfl ⟨rfl, rfl, rfl, rfl, rfl⟩ rfl rfl rfl rfl rfl (by kernel_rfl) Tryd.func4 (by kernel_rfl)
    (of_decide_eq_true (by kernel_rfl)) (by unfold Func.isWrapper; first | (rw [if_pos (by decide +kernel)]; kernel_rfl) | (rw [if_neg (by decide +kernel)]; exact ⟨rfl, rfl⟩))
    (fun os started H enc _ => lifted os started H enc)
theorem proved : Rows.FnWaitingTxnsCardSaid :=
  Claim7.holds_tied_plain_at .later [] [.data, .data, .data] true (true, "a0b8502a6980d9dabde8adba7cd9e4bc28be48685489fa259a7add24dcf9ed36") false
    row_holds (fun _ h => by cases h) (by kernel_rfl) (fun _ h => by cases h) fnWaitingTxns_row_tie rfl ⟨rfl, rfl⟩ (by kernel_rfl) rfl
    (fun f fn hf hfn => by
      obtain rfl : f = 4 := Option.some.inj ((show Tryd.prog.funcNamed "loop.example/historychecker/laws.FnWaitingTxns" = some 4 by kernel_rfl).symm.trans hf) |>.symm
      obtain rfl : fn = Tryd.f4 := (Option.some.inj (Tryd.func4.symm.trans hfn)).symm
      exact ⟨by kernel_rfl, fun j t ht => by
        rw [Tryd.params4] at ht
        have hm : t ∈ [22] := by simpa using Array.mem_of_getElem? ht
        have hall : ([22].all fun u => !Tryd.prog.wantsStandIn u) = true := by kernel_rfl
        exact (show Tryd.prog.wantsStandIn t = false by simpa using List.all_eq_true.1 hall t hm)⟩)
    (by kernel_rfl)
end Go.Proofs.YtfcfhgophpoibaaDoor.fnWaitingTxns
