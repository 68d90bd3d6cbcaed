/- FnJoinShared: joined shared sets do not depend on the order, with itself a set stays, and one of them joined again changes nothing. The library's table that the walk reads is tied to the program's text by the card. -/
import Derived.Test.YtcoienlblhbkpaaDoorOpenB
import Derived.Test.YtcoienlblhbkpaaDoorDraw9
import Derived.Test.YtcoienlblhbkpaaDoorSameS
import Derived.Test.YtcoienlblhbkpaaDoorShL
import Derived.Test.YtcoienlblhbkpaaDoorShI2
import Derived.Test.YtcoienlblhbkpaaDoorShJ
import Derived.Deep.RegionHeld3
namespace Go.Proofs.YtcoienlblhbkpaaDoor.fnJoinShared
open Go.ChangeShapes Go.WideShapes Go.ChangeAt Go.RowKit

set_option maxRecDepth 100000 in
set_option maxHeartbeats 16000000 in
theorem walk (A : Option Addr) (n c : Nat) (w : World) (hnc : n ≤ c) (hmx : c ≤ maxLen) (hb : BY w w.heap.size A n) (hT : Tab w) :
    Calls Tryd.prog 11 #[.slice A n c] w fun e w' => e = .returned (.bool true) ∧ Below w.heap.size w w' := by
  by_cases hn : n ≤ 1048576
  · go_enter Tryd.func11, Tryd.ntmps11
    go_wp2_with fail
    refine (DrawJoinShared_c hnc hmx hb).mono ?_
    rintro e w1 ⟨A1, k1, c1, xs, A2, k2, c2, ys, A3, k3, c3, xs', A4, k4, c4, ys', rfl, o1, o2, o3, o4, b1⟩
    obtain ⟨p, hp⟩ : ∃ p, sharedB xs ys = p := ⟨_, rfl⟩
    obtain ⟨q, hq⟩ : ∃ q, sharedB xs' ys' = q := ⟨_, rfl⟩
    have P := hide hp; have Q := hide hq; clear hp hq
    have KA := (Blk.new w1 27 #[.slice A1 k1 c1, .slice A2 k2 c2]).alloc (.cells #[.slice A3 k3 c3, .slice A4 k4 c4] 27)
    have KB := Blk.new (w1.alloc (.cells #[.slice A1 k1 c1, .slice A2 k2 c2] 27)) 27 #[.slice A3 k3 c3, .slice A4 k4 c4]
    have b2 : Below w1.heap.size w1 ((w1.alloc (.cells #[.slice A1 k1 c1, .slice A2 k2 c2] 27)).alloc (.cells #[.slice A3 k3 c3, .slice A4 k4 c4] 27)) := (beB0 w1 _).alloc (by simp) _
    simp only [World.size_alloc] at KB
    have B2 := below_step b1 b2
    replace o1 := (o1.below b2).si
    replace o2 := (o2.below b2).si
    replace o3 := (o3.below b2).si
    replace o4 := (o4.below b2).si
    clear b1 b2
    go_wp2_with fail
    generalize ((w1.alloc (.cells #[.slice A1 k1 c1, .slice A2 k2 c2] 27)).alloc (.cells #[.slice A3 k3 c3, .slice A4 k4 c4] 27)) = w2 at *
    refine (impl_JoinShared_c o1 o2 o3 o4 (hT.below B2)).mono ?_
    rintro e w3 ⟨A5, k5, c5, A6, k6, c6, rfl, o5, o6, _, b3⟩
    have B3 := below_step B2 b3
    have KX := Blk.new w3 27 #[.slice A5 k5 c5, .slice A6 k6 c6]
    have b4 := beB0 w3 (.cells #[.slice A5 k5 c5, .slice A6 k6 c6] 27)
    have B4 := below_step B3 b4
    replace o1 := (o1.below b3).below b4
    replace o2 := (o2.below b3).below b4
    replace o3 := (o3.below b3).below b4
    replace o4 := (o4.below b3).below b4
    replace o5 := (o5.below b4).si
    replace o6 := (o6.below b4).si
    replace KA := (KA.belowAll b3).belowAll b4
    replace KB := (KB.belowAll b3).belowAll b4
    clear b3 b4
    go_wp2_with fail
    generalize w3.alloc (.cells #[.slice A5 k5 c5, .slice A6 k6 c6] 27) = w4 at *
    have BZ : Below w4.heap.size w4 w4.drew := (Below.refl _ _).drew
    have hc : ∀ W, Below w4.heap.size w4 W → W.cell? ⟨w3.heap.size, 0, none⟩ = some (.slice A5 k5 c5) ∧ W.cell? ⟨w3.heap.size, 1, none⟩ = some (.slice A6 k6 c6) ∧ W.cell? ⟨w1.heap.size, 0, none⟩ = some (.slice A1 k1 c1) ∧ W.cell? ⟨w1.heap.size, 1, none⟩ = some (.slice A2 k2 c2) ∧ W.cell? ⟨w1.heap.size + 1, 0, none⟩ = some (.slice A3 k3 c3) ∧ W.cell? ⟨w1.heap.size + 1, 1, none⟩ = some (.slice A4 k4 c4) := fun W h => ⟨(KX.held2 h).1, (KX.held2 h).2, (KA.held2 h).1, (KA.held2 h).2, (KB.held2 h).1, (KB.held2 h).2⟩
    obtain ⟨kx0, kx1⟩ := KX.held2 (Below.refl _ _)
    obtain ⟨ka0, ka1⟩ := KA.held2 (Below.refl _ _)
    obtain ⟨kb0, kb1⟩ := KB.held2 (Below.refl _ _)
    have jc := js_comm xs ys xs' ys'
    have JC1 := hide jc.1; have JC2 := hide jc.2
    clear jc
    go_region_held3 (fun W => W.cell? ⟨w3.heap.size, 0, none⟩ = some (.slice A5 k5 c5) ∧ W.cell? ⟨w3.heap.size, 1, none⟩ = some (.slice A6 k6 c6) ∧ W.cell? ⟨w1.heap.size, 0, none⟩ = some (.slice A1 k1 c1) ∧ W.cell? ⟨w1.heap.size, 1, none⟩ = some (.slice A2 k2 c2) ∧ W.cell? ⟨w1.heap.size + 1, 0, none⟩ = some (.slice A3 k3 c3) ∧ W.cell? ⟨w1.heap.size + 1, 1, none⟩ = some (.slice A4 k4 c4))
      (first | exact hc _ BZ)
      (first | (go_at_call 26; refine (spec_JoinShared_c (o1.below BZ) (o2.below BZ) (o3.below BZ) (o4.below BZ)).mono ?_; rintro e w5 ⟨A7, k7, c7, A8, k8, c8, rfl, o7, o8, _, b5⟩; replace BZ := below_step BZ b5; replace o7 := o7.si; replace o8 := o8.si) | (go_at_call 27; refine (impl_JoinShared_c (o3.below BZ) (o4.below BZ) (o1.below BZ) (o2.below BZ) (hT.below (below_step B4 BZ))).mono ?_; rintro e w7 ⟨A7, k7, c7, A8, k8, c8, rfl, o7, o8, _, b7⟩; replace BZ := below_step BZ b7; replace o7 := o7.si; replace o8 := o8.si; rw [JC1.out] at o7; rw [JC2.out] at o8) | (go_at_call 38; refine (sameShared_c (o5.below BZ) (o6.below BZ) o7 o8).mono ?_; rintro e w6 ⟨rfl, b6⟩; replace BZ := below_step BZ b6; rw [same2]))
    obtain ⟨c0, c1', d0, d1, e0, e1⟩ := hc _ BZ
    clear kx0 kx1 ka0 ka1 kb0 kb1 o7 o8 JC1 JC2
    go_wp2_with fail
    refine (impl_SharedValid_c (o1.below BZ) (o2.below BZ)).mono ?_
    rintro e w8 ⟨rfl, b8⟩
    replace BZ := below_step BZ b8
    rw [P.out]
    clear c0 c1' d0 d1 e0 e1
    obtain ⟨c0, c1', d0, d1, e0, e1⟩ := hc _ BZ
    cases p
    · have hno : (sharedB xs ys && sharedB xs' ys') = false := by rw [P.out]; rfl
      have hk5 : k5 = 0 := by have := o5.len; rw [(js_no hno).1] at this; simpa using this.symm
      subst hk5
      go_wp2_with fail
      refine (alive_c).mono ?_
      rintro e w9 ⟨rfl, b9⟩
      go_wp2_with fail
      go_ret
      exact ⟨rfl, below_step B4 (below_step BZ b9)⟩
    · go_wp2_with fail
      refine (impl_SharedValid_c (o3.below BZ) (o4.below BZ)).mono ?_
      rintro e w9 ⟨rfl, b9⟩
      replace BZ := below_step BZ b9
      rw [Q.out]
      clear c0 c1' d0 d1 e0 e1
      obtain ⟨c0, c1', d0, d1, e0, e1⟩ := hc _ BZ
      cases q
      · have hno : (sharedB xs ys && sharedB xs' ys') = false := by rw [P.out, Q.out]; rfl
        have hk5 : k5 = 0 := by have := o5.len; rw [(js_no hno).1] at this; simpa using this.symm
        subst hk5
        go_wp2_with fail
        refine (alive_c).mono ?_
        rintro e w10 ⟨rfl, b10⟩
        go_wp2_with fail
        go_ret
        exact ⟨rfl, below_step B4 (below_step BZ b10)⟩
      · obtain ⟨l1, l2, l3, l4, l5, l6, l7⟩ := js_law P.out Q.out
        rw [l1] at o5
        rw [l2] at o6
        have L3 := hide l3; have L4 := hide l4; have L5 := hide l5; have L6 := hide l6; have L7 := hide l7
        clear l1 l2 l3 l4 l5 l6 l7
        go_wp2_with fail
        replace BZ := BZ.drew
        go_region_held3 (fun W => W.cell? ⟨w3.heap.size, 0, none⟩ = some (.slice A5 k5 c5) ∧ W.cell? ⟨w3.heap.size, 1, none⟩ = some (.slice A6 k6 c6) ∧ W.cell? ⟨w1.heap.size, 0, none⟩ = some (.slice A1 k1 c1) ∧ W.cell? ⟨w1.heap.size, 1, none⟩ = some (.slice A2 k2 c2) ∧ W.cell? ⟨w1.heap.size + 1, 0, none⟩ = some (.slice A3 k3 c3) ∧ W.cell? ⟨w1.heap.size + 1, 1, none⟩ = some (.slice A4 k4 c4))
          (first | exact hc _ BZ)
          (first | (go_at_call 29; refine (impl_SharedValid_c (o5.below BZ) (o6.below BZ)).mono ?_; rintro e w10 ⟨rfl, b10⟩; replace BZ := below_step BZ b10; rw [L3.out]) | (go_at_call_of 27 (Value.agg #[Value.slice A5 k5 c5, Value.slice A6 k6 c6]); refine (impl_JoinShared_c (o5.below BZ) (o6.below BZ) (o1.below BZ) (o2.below BZ) (hT.below (below_step B4 BZ))).mono ?_; rintro e w11 ⟨A9, k9, c9, A0, k0, c00, rfl, o9, o0, _, b11⟩; replace BZ := below_step BZ b11; replace o9 := o9.si; replace o0 := o0.si; rw [L6.out] at o9; rw [L7.out] at o0) | (go_at_call_of 38 (Value.agg #[Value.slice A5 k5 c5, Value.slice A6 k6 c6]); refine (sameShared_c o9 o0 (o5.below BZ) (o6.below BZ)).mono ?_; rintro e w12 ⟨rfl, b12⟩; replace BZ := below_step BZ b12; rw [same2]) | (go_at_call 27; refine (impl_JoinShared_c (o1.below BZ) (o2.below BZ) (o1.below BZ) (o2.below BZ) (hT.below (below_step B4 BZ))).mono ?_; rintro e w13 ⟨A7, k7, c7, A8, k8, c8, rfl, o7, o8, _, b13⟩; replace BZ := below_step BZ b13; replace o7 := o7.si; replace o8 := o8.si; rw [L4.out] at o7; rw [L5.out] at o8) | (go_at_call 38; refine (sameShared_c o7 o8 (o1.below BZ) (o2.below BZ)).mono ?_; rintro e w14 ⟨rfl, b14⟩; replace BZ := below_step BZ b14; rw [same2]))
        go_wp2_with fail
        go_ret
        exact ⟨rfl, below_step B4 BZ⟩
  · go_enter Tryd.func11, Tryd.ntmps11
    go_wp2_with fail
    go_ret
    exact ⟨rfl, Below.refl _ _⟩

theorem door_met (os : Os) (args : Array Value) : laidMetH Tryd.prog Rows.fnJoinSharedRow.laid ((World.doorLaid Tryd.prog 24 os).forCall (fun _ _ => 0) ⟨#[], args, []⟩).memory :=
  laidMetH_of_parts3 (fuel := 8) (laidMet_of_run' 8 (by kernel_rfl) (by kernel_rfl)) (by kernel_rfl) (by kernel_rfl)
set_option maxRecDepth 100000 in
theorem lifted (os : Os) (started : os.Started) (H : Type) (enc : TypeId × Value → H) :
    ReturnsInHanded {} Tryd.checked os 11 .any (fun w args => (Rows.fnJoinSharedSpec.pre enc Tryd.prog Tryd.f11 [] false w args ∧ laidMetH Tryd.prog Rows.fnJoinSharedRow.laid w) ∧ sizedMet enc Tryd.prog Tryd.f11 (OpenSpec.ofChange Rows.fnJoinSharedSpec) false w args)
      (Rows.fnJoinSharedSpec.post enc Tryd.prog Tryd.f11 false true false false) := by
  refine returnsInHanded_of_change_and (C := Tryd.checked) (X := fun w _ => laidMetH Tryd.prog Rows.fnJoinSharedRow.laid w) (fun _ _ _ hh h => h.of_heap hh) own started (by kernel_rfl) Tryd.func11
    (ChangeSpec.witness_shaped (enc := enc) (C := Tryd.checked) (os := os) (X := fun w _ => laidMetH Tryd.prog Rows.fnJoinSharedRow.laid w) false (World.doorLaid Tryd.prog 24 os) #[.slice none 0 0] 8 rfl (World.shaped_of_RefB (by kernel_rfl) (by kernel_rfl)) (by kernel_rfl) (by kernel_rfl) (by kernel_rfl) (door_met os _)) ?_
  intro W base args ds gs before hval0 hW _ _ hL _
  have hval : ∀ (j : Nat) t v, Tryd.f11.params[j]? = some t → args[j]? = some v → Value.okWide Tryd.prog W .any base t v := hval0
  have hW' := hW
  obtain ⟨p, q, hA0, hV, rfl, hfz, hnd⟩ := hW
  have hA : DataW.TrodAll enc Tryd.prog W 0 (fun _ => true) true Tryd.f11.params.toList args.toList ds p := hA0
  rw [Tryd.params11] at hA hval
  obtain ⟨v0, vs0, d0, ds0, p0, q0, hargs, rfl, rfl, h0, r0⟩ := trodAll_cons hA
  obtain ⟨rfl, rfl, rfl⟩ := trodAll_nil r0
  obtain rfl : args = #[v0] := by cases args; simp_all
  obtain ⟨rfl, rfl⟩ := trodVars_none hV
  have k0 := h0
  have lt0 : ∀ x ∈ p0, x.block < W.heap.size := by obtain ⟨m, hm⟩ := k0; exact DataW.trod_lt m _ _ _ hm
  obtain ⟨A0, n0, c0, rfl, hnc0, hmx0, R0⟩ := open_bytesA (hval 0 38 v0 rfl rfl) h0
  clear hA0 hval0
  have hT : Tab W := tab_of_laidH hL (by kernel_rfl) rfl
  refine (walk A0 n0 c0 W hnc0 hmx0 R0 hT).mono fun e W' ⟨he, bel⟩ => ?_
  subst he
  exact ⟨_, rfl, _, _, _, [], _, [], hW', trodAll_mk1 (shut_bool Tryd.underlying4 _), (trodAll_cons_mk (Below.trod laidOut (by kernel_rfl) (of_decide_eq_true (by kernel_rfl)) k0 bel lt0) trodAll_mk0), rfl, bel.frame _, fun h => by cases h⟩
theorem row_holds : Rows.FnJoinSharedSaid :=
  OpenClaim.holds_of_wide 11 Tryd.f11 rfl rfl rfl rfl rfl rfl rfl ⟨rfl, rfl, rfl, rfl, rfl⟩ rfl rfl rfl rfl rfl (by kernel_rfl) Tryd.func11 (by kernel_rfl)
    (of_decide_eq_true (by kernel_rfl)) (by unfold Func.isWrapper; first | (rw [if_pos (by decide +kernel)]; kernel_rfl) | (rw [if_neg (by decide +kernel)]; exact ⟨rfl, rfl⟩))
    (fun os started H enc _ => lifted os started H enc)
theorem proved : Rows.FnJoinSharedCardSaid :=
  Claim7.holds_tied_plain_at .later [] [.data, .data, .data] true (true, "05a08bfe29a0c28e6e014570d56fa0359cf688acda83bdb85be7a3739bc03165") false
    row_holds (fun _ h => by cases h) (by kernel_rfl) (fun _ h => by cases h) fnJoinShared_row_tie rfl ⟨rfl, rfl⟩ (by kernel_rfl) rfl
    (fun f fn hf hfn => by
      obtain rfl : f = 11 := Option.some.inj ((show Tryd.prog.funcNamed "loop.example/historychecker/laws.FnJoinShared" = some 11 by kernel_rfl).symm.trans hf) |>.symm
      obtain rfl : fn = Tryd.f11 := (Option.some.inj (Tryd.func11.symm.trans hfn)).symm
      exact ⟨by kernel_rfl, fun j t ht => by
        rw [Tryd.params11] at ht
        have hm : t ∈ [38] := by simpa using Array.mem_of_getElem? ht
        have hall : ([38].all fun u => !Tryd.prog.wantsStandIn u) = true := by kernel_rfl
        exact (show Tryd.prog.wantsStandIn t = false by simpa using List.all_eq_true.1 hall t hm)⟩)
    (by kernel_rfl)
end Go.Proofs.YtcoienlblhbkpaaDoor.fnJoinShared
