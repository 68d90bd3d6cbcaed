/- FnCountTally: the number of a counted tally is greater, or less, by 1; both clocks are behind what they were. The card ties the listed variables to the program's text; the law's road does not look into them. -/
import Derived.Deep.RegionHeld3
import Derived.Test.YtjgjlcpnfiocfaaDoorOpenD
import Derived.Test.YtjgjlcpnfiocfaaDoorDraw7
import Derived.Test.YtjgjlcpnfiocfaaDoorSameT
namespace Go.Proofs.YtjgjlcpnfiocfaaDoor.fnCountTally
open Go.ChangeShapes Go.WideShapes Go.ChangeAt Go.RowKit

set_option linter.unusedSimpArgs false
theorem sdz (X : World) : X.drew.heap.size = X.heap.size := rfl
theorem tsum_le : ∀ (n : Nat) (xs ys : List Int), xs.length ≤ n → (∀ x ∈ xs, 0 ≤ x ∧ x ≤ 1000) → (∀ y ∈ ys, 0 ≤ y ∧ y ≤ 1000) → -1000 * (n : Int) ≤ tsum xs ys ∧ tsum xs ys ≤ 1000 * n := by
  intro n; induction n with
  | zero => intro xs ys h _ _; cases xs with
    | nil => simp [tsum]
    | cons a xs => simp at h
  | succ n ih => intro xs ys h hx hy; cases xs with
    | nil => simp [tsum]; omega
    | cons a xs => cases ys with
      | nil => simp [tsum]; omega
      | cons b ys =>
        simp only [tsum]
        have := ih xs ys (by simpa using h) (fun x h => hx x (by simp [h])) (fun x h => hy x (by simp [h]))
        have h1 := hx a (by simp); have h2 := hy b (by simp)
        omega
theorem tallyN_bd (xs ys : List Int) : -4000 ≤ tallyN xs ys ∧ tallyN xs ys ≤ 4000 := by
  unfold tallyN
  split
  · rename_i h
    unfold tallyB at h
    simp only [Bool.and_eq_true] at h
    have hx := (clockB_iff _).1 h.1; have hy := (clockB_iff _).1 h.2
    have := tsum_le 4 xs ys (by omega) (fun x h => (inB_iff _ _ _).1 (hx.2 x h)) (fun x h => (inB_iff _ _ _).1 (hy.2 x h))
    omega
  · omega

set_option maxRecDepth 100000 in
set_option maxHeartbeats 16000000 in
theorem walk (A : Option Addr) (n c : Nat) (w : World) (hnc : n ≤ c) (hmx : c ≤ maxLen) (hb : BY w w.heap.size A n) :
    Calls Tryd.prog 12 #[.slice A n c] w fun e w' => e = .returned (.bool true) ∧ Below w.heap.size w w' := by
  by_cases hn : n ≤ 1048576
  · go_enter Tryd.func12, Tryd.ntmps12
    go_wp2_with fail
    refine (DrawCountTally_c hnc hmx hb).mono ?_
    rintro e w1 ⟨A1, k1, c1, xs, A2, k2, c2, ys, x, up, rfl, o1, o2, x0, x1, b1⟩
    have B1 := b1
    obtain ⟨p, hp⟩ : ∃ p, cntOk xs ys x up = p := ⟨_, rfl⟩
    have P := hide hp; clear hp x0 x1
    have KT := Blk.new w1 46 #[.slice A1 k1 c1, .slice A2 k2 c2]
    have b2 := beB0 w1 (.cells #[.slice A1 k1 c1, .slice A2 k2 c2] 46)
    have B2 := below_step B1 b2
    replace o1 := o1.below b2
    replace o2 := o2.below b2
    go_wp2_with fail
    generalize w1.alloc (.cells #[.slice A1 k1 c1, .slice A2 k2 c2] 46) = w2 at *
    refine (impl_CountTally_c (who := x) (up := up) o1.si o2.si).mono ?_
    rintro e w3 ⟨A3, k3, c3, A4, k4, c4, rfl, o3, o4, _, b3⟩
    have B3 := below_step B2 b3
    replace o1 := o1.below b3
    replace o2 := o2.below b3
    replace KT := KT.belowAll b3
    rw [P.out]
    have KX := Blk.new w3 46 #[.slice A3 k3 c3, .slice A4 k4 c4]
    have b4 := beB0 w3 (.cells #[.slice A3 k3 c3, .slice A4 k4 c4] 46)
    have B4 := below_step B3 b4
    replace o1 := o1.below b4
    replace o2 := o2.below b4
    replace o3 := o3.below b4
    replace o4 := o4.below b4
    replace KT := KT.belowAll b4
    obtain ⟨t0, t1, t2, t3⟩ := KT.two
    go_wp2_with fail
    generalize w3.alloc (.cells #[.slice A3 k3 c3, .slice A4 k4 c4] 46) = w4 at *
    refine (spec_CountTally_c (who := x) (up := up) o1.si o2.si).mono ?_
    rintro e w5 ⟨A5, k5, c5, A6, k6, c6, rfl, o5, o6, _, b5⟩
    have B5 := below_step B4 b5
    replace o1 := o1.below b5
    replace o2 := o2.below b5
    replace o3 := o3.below b5
    replace o4 := o4.below b5
    replace KT := KT.belowAll b5
    replace KX := KX.belowAll b5
    rw [P.out]
    have KY := Blk.new w5 46 #[.slice A5 k5 c5, .slice A6 k6 c6]
    have b6 := beB0 w5 (.cells #[.slice A5 k5 c5, .slice A6 k6 c6] 46)
    have B6 := below_step B5 b6
    replace o1 := o1.below b6
    replace o2 := o2.below b6
    replace o3 := o3.below b6
    replace o4 := o4.below b6
    replace o5 := o5.below b6
    replace o6 := o6.below b6
    replace KT := KT.belowAll b6
    replace KX := KX.belowAll b6
    clear t0 t1 t2 t3
    obtain ⟨t0, t1, t2, t3⟩ := KT.two
    obtain ⟨x0, x1, x2, x3⟩ := KX.two
    go_wp2_with fail
    generalize w5.alloc (.cells #[.slice A5 k5 c5, .slice A6 k6 c6] 46) = w6 at *
    refine (sameTally_c o3.si o4.si o5.si o6.si).mono ?_
    rintro e w7 ⟨rfl, b7⟩
    have B7 := below_step B6 b7
    replace o1 := o1.below b7
    replace o2 := o2.below b7
    replace o3 := o3.below b7
    replace o4 := o4.below b7
    replace o5 := o5.below b7
    replace o6 := o6.below b7
    replace KT := KT.belowAll b7
    replace KX := KX.belowAll b7
    replace KY := KY.belowAll b7
    rw [show (decide (ctU xs ys x up = ctU xs ys x up) && decide (ctD xs ys x up = ctD xs ys x up)) = true by simp]
    clear o5 o6 KY
    clear t0 t1 t2 t3 x0 x1 x2 x3
    obtain ⟨t0, t1, t2, t3⟩ := KT.two
    obtain ⟨x0, x1, x2, x3⟩ := KX.two
    cases p
    · rcases cnt_no P.out with ⟨h1, h2⟩ | h1
      · have H1 := hide h1; have H2 := hide h2; clear h1 h2
        go_wp2_with fail
        refine (sameTally_c o3.si o4.si o1.si o2.si).mono ?_
        rintro e w8 ⟨rfl, b8⟩
        have B8 := below_step B7 b8
        replace o1 := o1.below b8
        replace o2 := o2.below b8
        replace o3 := o3.below b8
        replace o4 := o4.below b8
        replace KT := KT.belowAll b8
        replace KX := KX.belowAll b8
        rw [show (decide (ctU xs ys x up = xs) && decide (ctD xs ys x up = ys)) = true by rw [H1.out, H2.out]; simp]
        go_wp2_with fail
        refine (alive_c).mono ?_
        rintro e w9 ⟨rfl, b9⟩
        have B9 := below_step B8 b9
        replace o1 := o1.below b9
        replace o2 := o2.below b9
        replace o3 := o3.below b9
        replace o4 := o4.below b9
        replace KT := KT.belowAll b9
        replace KX := KX.belowAll b9
        go_wp2_with fail
        go_ret
        exact ⟨rfl, B9⟩
      · have hk : k3 = 0 := by have := o3.len; rw [h1] at this; simpa using this.symm
        subst hk
        clear h1
        obtain ⟨r, hr⟩ : ∃ r, (decide (ctU xs ys x up = xs) && decide (ctD xs ys x up = ys)) = r := ⟨_, rfl⟩
        have R := hide hr; clear hr
        go_wp2_with fail
        refine (sameTally_c o3.si o4.si o1.si o2.si).mono ?_
        rintro e w8 ⟨rfl, b8⟩
        have B8 := below_step B7 b8
        replace o1 := o1.below b8
        replace o2 := o2.below b8
        replace o3 := o3.below b8
        replace o4 := o4.below b8
        replace KT := KT.belowAll b8
        replace KX := KX.belowAll b8
        rw [R.out]
        clear t0 t1 t2 t3 x0 x1 x2 x3
        obtain ⟨t0, t1, t2, t3⟩ := KT.two
        obtain ⟨x0, x1, x2, x3⟩ := KX.two
        cases r
        all_goals
          go_wp2_with fail
          refine (alive_c).mono ?_
          rintro e w9 ⟨rfl, b9⟩
          have B9 := below_step B8 b9
          replace o1 := o1.below b9
          replace o2 := o2.below b9
          replace o3 := o3.below b9
          replace o4 := o4.below b9
          replace KT := KT.belowAll b9
          replace KX := KX.belowAll b9
          go_wp2_with fail
          go_ret
          exact ⟨rfl, B9⟩
    · obtain ⟨l1, l2, l3⟩ := cnt_yes P.out
      obtain ⟨N, hN⟩ : ∃ N, tallyN xs ys = N := ⟨_, rfl⟩
      have nb := tallyN_bd xs ys
      rw [hN] at nb l1
      obtain ⟨n0, n1⟩ := nb
      have L1 := hide l1; have L2 := hide l2; have L3 := hide l3; have HN := hide hN; clear l1 l2 l3 hN
      have lt1 := KT.lt; have lt2 := KX.lt
      cases up
      all_goals
        have L1' := L1.out
        simp only [Bool.false_eq_true, if_false, if_true] at L1'
        replace L1 := hide L1'; clear L1'
        have wp : IntKind.i64.wrap (N + 1) = N + 1 := by rw [IntKind.wrap_i64]; omega
        have wm : IntKind.i64.wrap (N + -1) = N + -1 := by rw [IntKind.wrap_i64]; omega
        have wm' : IntKind.i64.wrap (N - 1) = N - 1 := by rw [IntKind.wrap_i64]; omega
        go_wp2_with fail
        go_region_held3 (fun W => W.cell? ⟨w1.heap.size, 0, none⟩ = some (.slice A1 k1 c1) ∧ W.cell? ⟨w1.heap.size, 1, none⟩ = some (.slice A2 k2 c2) ∧ W.cell? ⟨w3.heap.size, 0, none⟩ = some (.slice A3 k3 c3) ∧ W.cell? ⟨w3.heap.size, 1, none⟩ = some (.slice A4 k4 c4))
          (first | (go_keep; done) | (go_split_ands; refine ⟨?_, ?_, ?_, ?_⟩ <;> (first | (rw [bz4.cell (by have := lt1; have := lt2; have s1 := bz1.size; (try simp only [sdz] at s1); have s2 := bz2.size; (try simp only [sdz] at s2); have s3 := bz3.size; (try simp only [sdz] at s3); (try simp only [sdz]); omega)]; assumption) | (rw [bz3.cell (by have := lt1; have := lt2; have s1 := bz1.size; (try simp only [sdz] at s1); have s2 := bz2.size; (try simp only [sdz] at s2); (try simp only [sdz]); omega)]; assumption) | (rw [bz2.cell (by have := lt1; have := lt2; have s1 := bz1.size; (try simp only [sdz] at s1); (try simp only [sdz]); omega)]; assumption) | (rw [bz1.cell (by have := lt1; have := lt2; (try simp only [sdz]); omega)]; assumption))))
          (first | ((with_reducible refine (impl_TallyOf_c o3.drew.si o4.drew.si).mono ?_); rintro e z1 ⟨rfl, bz1⟩; rw [L1.out]) | ((with_reducible refine (impl_TallyOf_c (o1.drew.below bz1).si (o2.drew.below bz1).si).mono ?_); rintro e z2 ⟨rfl, bz2⟩; rw [HN.out]) | ((with_reducible refine (impl_ClockBefore_c ((o1.drew.below bz1).below bz2).si ((o3.drew.below bz1).below bz2).si).mono ?_); rintro e z3 ⟨rfl, bz3⟩; rw [L2.out]) | ((with_reducible refine (impl_ClockBefore_c (((o2.drew.below bz1).below bz2).below bz3).si (((o4.drew.below bz1).below bz2).below bz3).si).mono ?_); rintro e z4 ⟨rfl, bz4⟩; rw [L3.out]))
        clear wp wm wm'
        have BF := below_step (below_step (below_step (below_step B7 (below_of_drew bz1)) bz2) bz3) bz4
        go_wp2_with fail
        go_ret
        exact ⟨rfl, BF⟩
  · go_enter Tryd.func12, Tryd.ntmps12
    go_wp2_with fail
    go_ret
    exact ⟨rfl, Below.refl _ _⟩

theorem door_met (os : Os) (args : Array Value) : laidMetH Tryd.prog Rows.fnCountTallyRow.laid ((World.doorLaid Tryd.prog 24 os).forCall (fun _ _ => 0) ⟨#[], args, []⟩).memory :=
  laidMetH_of_parts3 (fuel := 8) (laidMet_of_run' 8 (by kernel_rfl) (by kernel_rfl)) (by kernel_rfl) (by kernel_rfl)
set_option maxRecDepth 100000 in
theorem lifted (os : Os) (started : os.Started) (H : Type) (enc : TypeId × Value → H) :
    ReturnsInHanded {} Tryd.checked os 12 .any (fun w args => (Rows.fnCountTallySpec.pre enc Tryd.prog Tryd.f12 [] false w args ∧ laidMetH Tryd.prog Rows.fnCountTallyRow.laid w) ∧ sizedMet enc Tryd.prog Tryd.f12 (OpenSpec.ofChange Rows.fnCountTallySpec) false w args)
      (Rows.fnCountTallySpec.post enc Tryd.prog Tryd.f12 false true false false) := by
  refine returnsInHanded_of_change_and (C := Tryd.checked) (X := fun w _ => laidMetH Tryd.prog Rows.fnCountTallyRow.laid w) (fun _ _ _ hh h => h.of_heap hh) own started (by kernel_rfl) Tryd.func12
    (ChangeSpec.witness_shaped (enc := enc) (C := Tryd.checked) (os := os) (X := fun w _ => laidMetH Tryd.prog Rows.fnCountTallyRow.laid w) false (World.doorLaid Tryd.prog 24 os) #[.slice none 0 0] 8 rfl (World.shaped_of_RefB (by kernel_rfl) (by kernel_rfl)) (by kernel_rfl) (by kernel_rfl) (by kernel_rfl) (door_met os _)) ?_
  intro W base args ds gs before hval0 hW _ _ _ _
  have hval : ∀ (j : Nat) t v, Tryd.f12.params[j]? = some t → args[j]? = some v → Value.okWide Tryd.prog W .any base t v := hval0
  have hW' := hW
  obtain ⟨p, q, hA0, hV, rfl, hfz, hnd⟩ := hW
  have hA : DataW.TrodAll enc Tryd.prog W 0 (fun _ => true) true Tryd.f12.params.toList args.toList ds p := hA0
  rw [Tryd.params12] at hA hval
  obtain ⟨v0, vs0, d0, ds0, p0, q0, hargs, rfl, rfl, h0, r0⟩ := trodAll_cons hA
  obtain ⟨rfl, rfl, rfl⟩ := trodAll_nil r0
  obtain rfl : args = #[v0] := by cases args; simp_all
  obtain ⟨rfl, rfl⟩ := trodVars_none hV
  have k0 := h0
  have lt0 : ∀ x ∈ p0, x.block < W.heap.size := by obtain ⟨m, hm⟩ := k0; exact DataW.trod_lt m _ _ _ hm
  obtain ⟨A0, n0, c0, rfl, hnc0, hmx0, R0⟩ := open_bytesA (hval 0 22 v0 rfl rfl) h0
  clear hA0 hval0
  refine (walk A0 n0 c0 W hnc0 hmx0 R0).mono fun e W' ⟨he, bel⟩ => ?_
  subst he
  exact ⟨_, rfl, _, _, _, [], _, [], hW', trodAll_mk1 (shut_bool Tryd.underlying4 _), (trodAll_cons_mk (Below.trod laidOut (by kernel_rfl) (of_decide_eq_true (by kernel_rfl)) k0 bel lt0) trodAll_mk0), rfl, bel.frame _, fun h => by cases h⟩
theorem row_holds : Rows.FnCountTallySaid :=
  OpenClaim.holds_of_wide 12 Tryd.f12 rfl rfl rfl rfl rfl rfl rfl ⟨rfl, rfl, rfl, rfl, rfl⟩ rfl rfl rfl rfl rfl (by kernel_rfl) Tryd.func12 (by kernel_rfl)
    (of_decide_eq_true (by kernel_rfl)) (by unfold Func.isWrapper; first | (rw [if_pos (by decide +kernel)]; kernel_rfl) | (rw [if_neg (by decide +kernel)]; exact ⟨rfl, rfl⟩))
    (fun os started H enc _ => lifted os started H enc)
theorem proved : Rows.FnCountTallyCardSaid :=
  Claim7.holds_tied_plain_at .later [] [.data, .data, .data] true (true, "f2c1c1767bf673cc075bf186ddbc47504e5f3e3506e78108f3e747c99c658025") false
    row_holds (fun _ h => by cases h) (by kernel_rfl) (fun _ h => by cases h) fnCountTally_row_tie rfl ⟨rfl, rfl⟩ (by kernel_rfl) rfl
    (fun f fn hf hfn => by
      obtain rfl : f = 12 := Option.some.inj ((show Tryd.prog.funcNamed "loop.example/historychecker/laws.FnCountTally" = some 12 by kernel_rfl).symm.trans hf) |>.symm
      obtain rfl : fn = Tryd.f12 := (Option.some.inj (Tryd.func12.symm.trans hfn)).symm
      exact ⟨by kernel_rfl, fun j t ht => by
        rw [Tryd.params12] at ht
        have hm : t ∈ [22] := by simpa using Array.mem_of_getElem? ht
        have hall : ([22].all fun u => !Tryd.prog.wantsStandIn u) = true := by kernel_rfl
        exact (show Tryd.prog.wantsStandIn t = false by simpa using List.all_eq_true.1 hall t hm)⟩)
    (by kernel_rfl)
end Go.Proofs.YtjgjlcpnfiocfaaDoor.fnCountTally
