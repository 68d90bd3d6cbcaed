/- FnLastStamped: the latest value is latest; in reverse order it is the same, none is later. The card ties the listed variables to the program's text; the law's road does not look into them. -/
import Derived.Test.YtopjdidigfdhbaaDoorOpenD
import Derived.Test.YtopjdidigfdhbaaDoorDrawL
import Derived.Test.YtopjdidigfdhbaaDoorLastP
import Derived.Test.YtopjdidigfdhbaaDoorEqS
import Derived.Test.YtopjdidigfdhbaaDoorHeld
import Derived.Deep.RegionHeld3
namespace Go.Proofs.YtopjdidigfdhbaaDoor.fnLastStamped
open Go.ChangeShapes Go.WideShapes Go.ChangeAt Go.RowKit

set_option maxRecDepth 100000 in
set_option maxHeartbeats 16000000 in
theorem walk (A : Option Addr) (n c : Nat) (w : World) (hnc : n ≤ c) (hmx : c ≤ maxLen) (hb : BY w w.heap.size A n) :
    Calls Tryd.prog 4 #[.slice A n c] w fun e w' => e = .returned (.bool true) ∧ Below w.heap.size w w' := by
  by_cases hn : n ≤ 1048576
  · go_enter Tryd.func4, Tryd.ntmps4
    go_wp2_with fail
    refine (DrawLastStamped_c hnc hmx hb).mono ?_
    rintro e w1 ⟨v1, k1, ts, rfl, o1, b1⟩
    obtain ⟨A1, c1, rfl⟩ := o1.shape
    replace o1 := o1.s3
    obtain ⟨p, hp⟩ : ∃ p, lastOk ts = p := ⟨_, rfl⟩
    obtain ⟨x, y, z, hr⟩ : ∃ x y z, lastR ts = (x, y, z) := ⟨_, _, _, rfl⟩
    have P := hide hp; have R := hide hr; clear hp hr
    go_wp2_with fail
    refine (impl_LastStamped_c o1).mono ?_
    rintro e w2 ⟨rfl, b2⟩
    rw [P.out, R.out]
    unfold vT3
    have B2 := below_step b1 b2
    have K := Blk.new w2 24 #[.int .i64 x, .int .i64 y, .int .i64 z]
    have b3 := beB0 w2 (.cells #[.int .i64 x, .int .i64 y, .int .i64 z] 24)
    have B3 := below_step B2 b3
    replace o1 := (o1.below b2).below b3
    clear b1 b2 b3
    go_wp2_with fail
    generalize w2.alloc (.cells #[.int .i64 x, .int .i64 y, .int .i64 z] 24) = w3 at *
    refine (spec_LastStamped_c o1).mono ?_
    rintro e w4 ⟨rfl, b4⟩
    rw [P.out, R.out]
    unfold vT3
    have K4 := Blk.new w4 24 #[.int .i64 x, .int .i64 y, .int .i64 z]
    have b5 := beB0 w4 (.cells #[.int .i64 x, .int .i64 y, .int .i64 z] 24)
    have BZ := below_step b4 b5
    obtain ⟨c0, c1', c2⟩ := K.held3 BZ
    obtain ⟨d0, d1, d2⟩ := K4.held3 (Below.refl _ _)
    have ne := fun W : World => neqS_same W x y z
    have gd := guardS
    clear b4 b5
    cases p
    · have hz : (x, y, z) = ((0 : Int), (0 : Int), (0 : Int)) := by rw [← R.out]; simp [lastR, P.out]
      simp only [Prod.mk.injEq] at hz
      obtain ⟨rfl, rfl, rfl⟩ := hz
      have eq0 := fun W : World => eqS_same W 0 0 0
      go_wp2_with fail
      refine (alive_c).mono ?_
      rintro e w6 ⟨rfl, b6⟩
      go_wp2_with fail
      go_ret
      exact ⟨rfl, below_step B3 (below_step BZ b6)⟩
    · have hk20 : k1 ≤ 20 := by have := (lastOk_ne P.out).2.1; rw [o1.len] at this; exact this
      have LL := hide (last_law P.out)
      have hl1 := hide o1.len
      obtain ⟨_, _, e1, hnc1, _, R1⟩ := o1
      injection e1 with e1a _ e1c; subst e1a; subst e1c
      go_wp2_with fail
      have hw5 : (w4.alloc (.cells #[.int .i64 x, .int .i64 y, .int .i64 z] 24)).heap.size = w4.heap.size + 1 := by simp
      generalize w4.alloc (.cells #[.int .i64 x, .int .i64 y, .int .i64 z] 24) = w5 at *
      have oE : O3 24 (w5.alloc (.cells #[] 24)) w5.heap.size (.slice (some ⟨w4.heap.size + 1, 0, none⟩) 0 0) 0 [] := by rw [← hw5]; exact O3.empty 24 w5
      have BE := BZ.alloc BZ.size (.cells #[] 24)
      have hz5 := BZ.size
      clear c0 c1' c2 d0 d1 d2
      go_loopw [8, 9] (fun v i wr => ∃ j : Nat, j ≤ k1 ∧ i = .int .i64 ((j : Int) - 1) ∧ O3 24 wr w5.heap.size v (k1 - j) (ts.drop j).reverse ∧ w5.heap.size ≤ wr.heap.size ∧ Below w3.heap.size w3 wr) (fun _ i _ => (intOf i + 1).toNat)
      case atStart => exact ⟨k1, Nat.le_refl _, rfl, by have h1 : ts.drop k1 = [] := List.drop_eq_nil_of_le (by rw [hl1.out]; exact Nat.le_refl _); rw [h1, Nat.sub_self]; simpa using oE, by simp, BE⟩
      case round =>
        clear oE BE BZ
        obtain ⟨j, hj, hi, o8, hzr, BZ⟩ := hrel
        obtain ⟨c0, c1', c2⟩ := K.held3 BZ
        by_cases hlt : 0 < j
        · obtain ⟨jj, rfl⟩ : ∃ jj, j = jj + 1 := ⟨j - 1, by omega⟩
          have hi' := hi.trans (show Value.int .i64 (((jj + 1 : Nat) : Int) - 1) = .int .i64 (jj : Int) by congr 1; omega)
          clear hi
          subst hi'
          obtain ⟨b, off, a1, a2, a3, rfl, hbb, hx, q0, q1, q2⟩ := R1.at_ (show jj < k1 by omega)
          have e0 := (BZ.cell (p := ⟨b, off + jj * 3, none⟩) hbb).trans q0
          have e1 := (BZ.cell (p := ⟨b, off + jj * 3 + 1, none⟩) hbb).trans q1
          have e2 := (BZ.cell (p := ⟨b, off + jj * 3 + 2, none⟩) hbb).trans q2
          have R1c := hide (⟨q0, q1, q2⟩ : _ ∧ _ ∧ _)
          have Hx := hide hx; clear hx q0 q1 q2
          have hls : lsV x y z a1 a2 a3 = .agg #[.int .i64 x, .int .i64 y, .int .i64 z] := by
            obtain ⟨l1, l2⟩ := LL.out
            rw [R.out] at l1 l2
            obtain ⟨l3, l4⟩ := l2 _ (List.mem_of_getElem? Hx.out)
            rw [lsV_valid l1 l3, l4]; rfl
          have HLS := hide hls; clear hls
          have j0 : (0 : Int) ≤ jj := by omega
          have j2 : (jj : Int) < k1 := by omega
          rename World => wr
          have oa := o8.alloc (.cells #[.int .i64 a1, .int .i64 a2, .int .i64 a3] 24)
          have sa := S3.one (Blk.new wr 24 #[.int .i64 a1, .int .i64 a2, .int .i64 a3]) (Nat.le_refl 1)
          go_wp2_with (at_builtin; refine wpList_app3 rfl _ _ rfl Tryd.underlying31 infoSt rfl oa rfl sa (by omega) (by simp <;> omega) ?_; intro v9 w9 o9 g9 hat)
          have B9 := below_app3 (BZ.alloc BZ.size (.cells #[.int .i64 a1, .int .i64 a2, .int .i64 a3] 24)) oa (by omega) g9
          have hz9 := g9.size
          simp only [World.size_alloc] at hz9
          clear c0 c1' c2 e0 e1 e2 oa sa
          obtain ⟨c0, c1', c2⟩ := K.held3 B9
          have e0 := (B9.cell (p := ⟨b, off + jj * 3, none⟩) hbb).trans (R1c.out.1)
          have e1 := (B9.cell (p := ⟨b, off + jj * 3 + 1, none⟩) hbb).trans (R1c.out.2.1)
          have e2 := (B9.cell (p := ⟨b, off + jj * 3 + 2, none⟩) hbb).trans (R1c.out.2.2)
          have BW : Below w3.heap.size w3 w9.drew := B9.drew
          have hc : ∀ W, Below w3.heap.size w3 W → W.cell? ⟨w2.heap.size, 0, none⟩ = some (.int .i64 x) ∧ W.cell? ⟨w2.heap.size, 1, none⟩ = some (.int .i64 y) ∧ W.cell? ⟨w2.heap.size, 2, none⟩ = some (.int .i64 z) ∧ W.cell? ⟨b, off + jj * 3, none⟩ = some (.int .i64 a1) ∧ W.cell? ⟨b, off + jj * 3 + 1, none⟩ = some (.int .i64 a2) ∧ W.cell? ⟨b, off + jj * 3 + 2, none⟩ = some (.int .i64 a3) := fun W h => ⟨(K.held3 h).1, (K.held3 h).2.1, (K.held3 h).2.2, (h.cell (p := ⟨b, off + jj * 3, none⟩) hbb).trans (R1c.out.1), (h.cell (p := ⟨b, off + jj * 3 + 1, none⟩) hbb).trans (R1c.out.2.1), (h.cell (p := ⟨b, off + jj * 3 + 2, none⟩) hbb).trans (R1c.out.2.2)⟩
          go_region_held3 (fun W => W.cell? ⟨w2.heap.size, 0, none⟩ = some (.int .i64 x) ∧ W.cell? ⟨w2.heap.size, 1, none⟩ = some (.int .i64 y) ∧ W.cell? ⟨w2.heap.size, 2, none⟩ = some (.int .i64 z) ∧ W.cell? ⟨b, off + jj * 3, none⟩ = some (.int .i64 a1) ∧ W.cell? ⟨b, off + jj * 3 + 1, none⟩ = some (.int .i64 a2) ∧ W.cell? ⟨b, off + jj * 3 + 2, none⟩ = some (.int .i64 a3))
            (first | exact hc _ BW)
            (first | (go_at_call 10; refine (impl_LaterStamped_c).mono ?_; rintro e w10 ⟨rfl, b10⟩; rw [HLS.out]; have B10 := below_of_drew b10; replace BW := below_step BW b10))
          go_wp2_with fail
          go_roundw
          case rel =>
            refine ⟨jj, by omega, rfl, ?_, Nat.le_trans hzr (Nat.le_trans (by omega) B10.size), BW⟩
            have h1 := o9.below B10
            rw [rev_step Hx.out, show k1 - jj = k1 - (jj + 1) + 1 by omega]
            exact h1
          case measure => simp [intOf]
        · obtain rfl : j = 0 := by omega
          have hi' := hi.trans (show Value.int .i64 (((0 : Nat) : Int) - 1) = .int .i64 (-1) by rfl)
          clear hi
          subst hi'
          rw [List.drop_zero, Nat.sub_zero] at o8
          obtain ⟨A8, c8, rfl⟩ := o8.shape
          go_wp2_with fail
          refine (impl_LastStamped_c o8.s3).mono ?_
          rintro e w11 ⟨rfl, b11⟩
          rw [lastR_rev, lastOk_rev, P.out, R.out]
          unfold vT3
          replace BZ := below_step BZ b11
          clear c0 c1' c2
          have K11 := Blk.new w11 24 #[.int .i64 x, .int .i64 y, .int .i64 z]
          have b12 := beB0 w11 (.cells #[.int .i64 x, .int .i64 y, .int .i64 z] 24)
          replace BZ := below_step BZ b12
          obtain ⟨c0, c1', c2⟩ := K.held3 BZ
          obtain ⟨d0, d1, d2⟩ := K11.held3 (Below.refl _ _)
          have eq1 := fun W : World => eqS_same W x y z
          go_wp2_with fail
          go_ret
          exact ⟨rfl, below_step B3 BZ⟩
  · go_enter Tryd.func4, Tryd.ntmps4
    go_wp2_with fail
    go_ret
    exact ⟨rfl, Below.refl _ _⟩

theorem door_met (os : Os) (args : Array Value) : laidMetH Tryd.prog Rows.fnLastStampedRow.laid ((World.doorLaid Tryd.prog 24 os).forCall (fun _ _ => 0) ⟨#[], args, []⟩).memory :=
  laidMetH_of_parts3 (fuel := 8) (laidMet_of_run' 8 (by kernel_rfl) (by kernel_rfl)) (by kernel_rfl) (by kernel_rfl)
set_option maxRecDepth 100000 in
theorem lifted (os : Os) (started : os.Started) (H : Type) (enc : TypeId × Value → H) :
    ReturnsInHanded {} Tryd.checked os 4 .any (fun w args => (Rows.fnLastStampedSpec.pre enc Tryd.prog Tryd.f4 [] false w args ∧ laidMetH Tryd.prog Rows.fnLastStampedRow.laid w) ∧ sizedMet enc Tryd.prog Tryd.f4 (OpenSpec.ofChange Rows.fnLastStampedSpec) false w args)
      (Rows.fnLastStampedSpec.post enc Tryd.prog Tryd.f4 false true false false) := by
  refine returnsInHanded_of_change_and (C := Tryd.checked) (X := fun w _ => laidMetH Tryd.prog Rows.fnLastStampedRow.laid w) (fun _ _ _ hh h => h.of_heap hh) own started (by kernel_rfl) Tryd.func4
    (ChangeSpec.witness_shaped (enc := enc) (C := Tryd.checked) (os := os) (X := fun w _ => laidMetH Tryd.prog Rows.fnLastStampedRow.laid w) false (World.doorLaid Tryd.prog 24 os) #[.slice none 0 0] 8 rfl (World.shaped_of_RefB (by kernel_rfl) (by kernel_rfl)) (by kernel_rfl) (by kernel_rfl) (by kernel_rfl) (door_met os _)) ?_
  intro W base args ds gs before hval0 hW _ _ _ _
  have hval : ∀ (j : Nat) t v, Tryd.f4.params[j]? = some t → args[j]? = some v → Value.okWide Tryd.prog W .any base t v := hval0
  have hW' := hW
  obtain ⟨p, q, hA0, hV, rfl, hfz, hnd⟩ := hW
  have hA : DataW.TrodAll enc Tryd.prog W 0 (fun _ => true) true Tryd.f4.params.toList args.toList ds p := hA0
  rw [Tryd.params4] at hA hval
  obtain ⟨v0, vs0, d0, ds0, p0, q0, hargs, rfl, rfl, h0, r0⟩ := trodAll_cons hA
  obtain ⟨rfl, rfl, rfl⟩ := trodAll_nil r0
  obtain rfl : args = #[v0] := by cases args; simp_all
  obtain ⟨rfl, rfl⟩ := trodVars_none hV
  have k0 := h0
  have lt0 : ∀ x ∈ p0, x.block < W.heap.size := by obtain ⟨m, hm⟩ := k0; exact DataW.trod_lt m _ _ _ hm
  obtain ⟨A0, n0, c0, rfl, hnc0, hmx0, R0⟩ := open_bytesA (hval 0 22 v0 rfl rfl) h0
  clear hA0 hval0
  refine (walk A0 n0 c0 W hnc0 hmx0 R0).mono fun e W' ⟨he, bel⟩ => ?_
  subst he
  exact ⟨_, rfl, _, _, _, [], _, [], hW', trodAll_mk1 (shut_bool Tryd.underlying4 _), (trodAll_cons_mk (Below.trod laidOut (by kernel_rfl) (of_decide_eq_true (by kernel_rfl)) k0 bel lt0) trodAll_mk0), rfl, bel.frame _, fun h => by cases h⟩
theorem row_holds : Rows.FnLastStampedSaid :=
  OpenClaim.holds_of_wide 4 Tryd.f4 rfl rfl rfl rfl rfl rfl rfl ⟨rfl, rfl, rfl, rfl, rfl⟩ rfl rfl rfl rfl rfl (by kernel_rfl) Tryd.func4 (by kernel_rfl)
    (of_decide_eq_true (by kernel_rfl)) (by unfold Func.isWrapper; first | (rw [if_pos (by decide +kernel)]; kernel_rfl) | (rw [if_neg (by decide +kernel)]; exact ⟨rfl, rfl⟩))
    (fun os started H enc _ => lifted os started H enc)
theorem proved : Rows.FnLastStampedCardSaid :=
  Claim7.holds_tied_plain_at .later [] [.data, .data, .data] true (true, "750ad089a0909c8e2fda4b82ce8af6d79673fc2283ed16af9c51f11c2587aea3") false
    row_holds (fun _ h => by cases h) (by kernel_rfl) (fun _ h => by cases h) fnLastStamped_row_tie rfl ⟨rfl, rfl⟩ (by kernel_rfl) rfl
    (fun f fn hf hfn => by
      obtain rfl : f = 4 := Option.some.inj ((show Tryd.prog.funcNamed "loop.example/historychecker/laws.FnLastStamped" = some 4 by kernel_rfl).symm.trans hf) |>.symm
      obtain rfl : fn = Tryd.f4 := (Option.some.inj (Tryd.func4.symm.trans hfn)).symm
      exact ⟨by kernel_rfl, fun j t ht => by
        rw [Tryd.params4] at ht
        have hm : t ∈ [22] := by simpa using Array.mem_of_getElem? ht
        have hall : ([22].all fun u => !Tryd.prog.wantsStandIn u) = true := by kernel_rfl
        exact (show Tryd.prog.wantsStandIn t = false by simpa using List.all_eq_true.1 hall t hm)⟩)
    (by kernel_rfl)
end Go.Proofs.YtopjdidigfdhbaaDoor.fnLastStamped
