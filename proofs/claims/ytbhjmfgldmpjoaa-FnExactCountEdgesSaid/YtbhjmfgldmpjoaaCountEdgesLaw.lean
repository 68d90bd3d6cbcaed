/- FnExactCountEdges: for all arguments the program's CountEdges returns what the reference's returns, and leaves its arguments as they are; its result shares no memory with them or with another result. -/
import Derived.Test.YtbhjmfgldmpjoaaCountE
import Derived.Test.YtbhjmfgldmpjoaaOpenR
namespace Go.Proofs.Ytbhjmfgldmpjoaa.exactCountEdges
open Go.ChangeShapes Go.WideShapes Go.ChangeAt Go.RowKit

set_option maxHeartbeats 8000000 in
theorem walk (x0 : Int) (A1 : Option Addr) (n1 c1 : Nat) (ts1 : List T3) (w : World)
    (_wx0 : (Lit.int .i64 x0).wf = true) (hnc1 : n1 ≤ c1) (hmx1 : c1 ≤ maxLen) (R1 : R3 w A1 n1 ts1) :
    Calls Try.prog 4 #[.int .i64 x0, .slice A1 n1 c1] w fun e w' => e = .returned (.bool true) ∧ Below w.heap.size w w' := by
  by_cases hn1 : n1 ≤ 1048576
  · skip
    have hl1 : szN 1048576 n1 = 1048576 - n1 := by unfold szN; rw [if_pos (by omega)]
    have HL1 := hide hl1; clear hl1
    go_enter Try.func4, Try.ntmps4
    go_wp2_with fail
    refine (szEdgeS_c (by omega) (by omega) (by omega)).mono ?_
    rintro e w' ⟨rfl, rfl⟩
    rw [HL1.out]
    go_wp2_with fail
    refine (toEdgeS_c (S3.of_args hnc1 hn1 (R1.below (Below.refl _ _)))).mono ?_
    rintro e w1 ⟨v1, rfl, o1, b1⟩
    have bl1 : w.heap.size ≤ w.heap.size := Nat.le_refl _
    have B1 := below_step (Below.refl _ _) b1
    go_wp2_with fail
    refine (spec_CountEdges_c o1.s3).mono ?_
    rintro e w2 ⟨v2, m2, rfl, o2, b2⟩
    have bl2 : w.heap.size ≤ w1.heap.size := B1.size
    have B2 := below_step B1 b2
    have ap1_2 := own_apart o1.1 o2.1
    replace o1 := o1.below b2
    clear o1
    go_wp2_with fail
    refine (toEdgeS_c (S3.of_args hnc1 hn1 (R1.below B2))).mono ?_
    rintro e w3 ⟨v3, rfl, o3, b3⟩
    have bl3 : w.heap.size ≤ w2.heap.size := B2.size
    have B3 := below_step B2 b3
    have ap2_3 := own_apart o2.1 o3.1
    replace o2 := o2.below b3
    go_wp2_with fail
    refine (impl_CountEdges_c o3.s3).mono ?_
    rintro e w4 ⟨v4, m4, rfl, o4, b4⟩
    have bl4 : w.heap.size ≤ w3.heap.size := B3.size
    have B4 := below_step B3 b4
    have ap2_4 := own_apart o2.1 o4.1
    have ap3_4 := own_apart o3.1 o4.1
    replace o2 := o2.below b4
    replace o3 := o3.below b4
    go_wp2_with fail
    refine (eqIntS_c o4.si o2.si).mono ?_
    rintro e w5 ⟨rfl, b5⟩
    have B5 := below_step B4 b5
    replace o2 := o2.below b5
    replace o3 := o3.below b5
    replace o4 := o4.below b5
    (try simp only [decide_true])
    go_wp2_with fail
    refine (toEdgeS_c (S3.of_args hnc1 hn1 (R1.below B5))).mono ?_
    rintro e w6 ⟨v5, rfl, o5, b6⟩
    have bl5 : w.heap.size ≤ w5.heap.size := B5.size
    have B6 := below_step B5 b6
    have ap2_5 := own_apart o2.1 o5.1
    have ap3_5 := own_apart o3.1 o5.1
    have ap4_5 := own_apart o4.1 o5.1
    replace o2 := o2.below b6
    replace o3 := o3.below b6
    replace o4 := o4.below b6
    go_wp2_with fail
    refine (eqEdgeS_c o3.s3 o5.s3).mono ?_
    rintro e w7 ⟨rfl, b7⟩
    have B7 := below_step B6 b7
    replace o2 := o2.below b7
    replace o3 := o3.below b7
    replace o4 := o4.below b7
    replace o5 := o5.below b7
    (try simp only [decide_true])
    clear o5
    have hb3 := o3.2
    go_wp2_with fail
    have oo := o3
    refine (markEdgeS_c (O3.of o3) (by omega) (by omega)).mono ?_
    rintro e w8 ⟨rfl, o', g8⟩
    clear o3; have o3 := o'; clear o'
    have B8 := B7.grown g8 B7.size (own_grown_le oo.1 bl3)
    replace o2 := o2.grown g8 ap2_3
    replace o4 := o4.grown g8 ap3_4.symm
    clear oo
    go_wp2_with fail
    refine (eqIntS_c o4.si o2.si).mono ?_
    rintro e w9 ⟨rfl, b9⟩
    have B9 := below_step B8 b9
    replace o2 := o2.below b9
    replace o3 := o3.below b9
    replace o4 := o4.below b9
    (try simp only [decide_true])
    clear o3
    have hb4 := o4.2
    go_wp2_with fail
    have oo := o4
    refine (markIntS_c o4 (by omega) (by omega)).mono ?_
    rintro e w10 ⟨rfl, o', g10⟩
    clear o4; have o4 := o'; clear o'
    have B10 := B9.grown g10 B9.size (own_grown_le oo.1 bl4)
    replace o2 := o2.grown g10 ap2_4
    clear oo
    go_wp2_with fail
    refine (heldIntS_c o4.si (by omega) (by omega)).mono ?_
    rintro e w11 ⟨rfl, b11⟩
    have B11 := below_step B10 b11
    replace o2 := o2.below b11
    replace o4 := o4.below b11
    go_wp2_with fail
    refine (toEdgeS_c (S3.of_args hnc1 hn1 (R1.below B11))).mono ?_
    rintro e w12 ⟨v6, rfl, o6, b12⟩
    have bl6 : w.heap.size ≤ w11.heap.size := B11.size
    have B12 := below_step B11 b12
    have ap2_6 := own_apart o2.1 o6.1
    have ap4_6 := own_apart o4.1 o6.1
    replace o2 := o2.below b12
    replace o4 := o4.below b12
    go_wp2_with fail
    refine (impl_CountEdges_c o6.s3).mono ?_
    rintro e w13 ⟨v7, m7, rfl, o7, b13⟩
    have bl7 : w.heap.size ≤ w12.heap.size := B12.size
    have B13 := below_step B12 b13
    have ap2_7 := own_apart o2.1 o7.1
    have ap4_7 := own_apart o4.1 o7.1
    have ap6_7 := own_apart o6.1 o7.1
    replace o2 := o2.below b13
    replace o4 := o4.below b13
    replace o6 := o6.below b13
    clear o6
    go_wp2_with fail
    refine (eqIntS_c o7.si o2.si).mono ?_
    rintro e w14 ⟨rfl, b14⟩
    have B14 := below_step B13 b14
    replace o2 := o2.below b14
    replace o4 := o4.below b14
    replace o7 := o7.below b14
    (try simp only [decide_true])
    go_wp2_with fail
    refine (heldIntS_c o4.si (by omega) (by omega)).mono ?_
    rintro e w15 ⟨rfl, b15⟩
    have B15 := below_step B14 b15
    replace o2 := o2.below b15
    replace o4 := o4.below b15
    replace o7 := o7.below b15
    go_wp2_with fail
    go_ret
    exact ⟨rfl, B15⟩
  · have hl1 : szN 1048576 n1 = -1 := by simp [szN]; omega
    have HL1 := hide hl1; clear hl1
    go_enter Try.func4, Try.ntmps4
    go_wp2_with fail
    refine (szEdgeS_c (by omega) (by omega) (by omega)).mono ?_
    rintro e w' ⟨rfl, rfl⟩
    rw [HL1.out]
    go_wp2_with fail
    go_ret
    exact ⟨rfl, Below.refl _ _⟩

set_option maxRecDepth 100000 in
theorem lifted (os : Os) (started : os.Started) (H : Type) (enc : TypeId × Value → H) :
    ReturnsInHanded {} Try.checked os 4 .any (Rows.fnExactCountEdgesSpec.pre6 enc Try.prog Try.f4 Rows.fnExactCountEdgesRow.domain false) (Rows.fnExactCountEdgesSpec.post enc Try.prog Try.f4 false true false false) := by
  refine returnsInHanded_of_change (C := Try.checked) own started (by kernel_rfl) Try.func4
    (ChangeSpec.witness6 (enc := enc) (C := Try.checked) false ⟨#[], #[.int .i64 0, .slice none 0 0], []⟩ 8 (by kernel_rfl) (by kernel_rfl) (by kernel_rfl) (by kernel_rfl)) ?_
  intro W base args ds gs before hval0 hW hcnd _
  have hval : ∀ (j : Nat) t v, Try.f4.params[j]? = some t → args[j]? = some v → Value.okWide Try.prog W .any base t v := hval0
  have hW' := hW
  obtain ⟨p, q, hA0, hV, rfl, hfz, hnd⟩ := hW
  have hA : DataW.TrodAll enc Try.prog W 0 (fun _ => true) true Try.f4.params.toList args.toList ds p := hA0
  rw [Try.params4] at hA hval
  obtain ⟨v0, vs0, d0, ds0, p0, q0, hargs, rfl, rfl, h0, r0⟩ := trodAll_cons hA
  obtain ⟨v1, vs1, d1, ds1, p1, q1, rfl, rfl, rfl, h1, r1⟩ := trodAll_cons r0
  obtain ⟨rfl, rfl, rfl⟩ := trodAll_nil r1
  obtain rfl : args = #[v0, v1] := by cases args; simp_all
  obtain ⟨rfl, rfl⟩ := trodVars_none hV
  have k0 := h0
  have lt0 : ∀ x ∈ p0, x.block < W.heap.size := by obtain ⟨m, hm⟩ := k0; exact DataW.trod_lt m _ _ _ hm
  obtain ⟨x0, rfl, rfl, rfl, wx0⟩ := open_int Try.underlying3 (hval 0 3 v0 rfl rfl) h0
  have k1 := h1
  have lt1 : ∀ x ∈ p1, x.block < W.heap.size := by obtain ⟨m, hm⟩ := k1; exact DataW.trod_lt m _ _ _ hm
  obtain ⟨A1, n1, c1, ts1, rfl, hnc1, hmx1, R1⟩ := open_EdgesA (hval 1 33 v1 rfl rfl) h1
  clear hA0 hval0
  refine (walk x0 A1 n1 c1 ts1 W wx0 hnc1 hmx1 R1).mono fun e W' ⟨he, bel⟩ => ?_
  subst he
  exact ⟨_, rfl, _, _, _, [], _, [], hW', trodAll_mk1 (shut_bool Try.underlying4 _), (trodAll_cons_mk (Below.trod laidOut (by kernel_rfl) (of_decide_eq_true (by kernel_rfl)) k0 bel lt0) (trodAll_cons_mk (Below.trod laidOut (by kernel_rfl) (of_decide_eq_true (by kernel_rfl)) k1 bel lt1) trodAll_mk0)), rfl, bel.frame _, fun h => by cases h⟩

theorem proved : Rows.FnExactCountEdgesSaid :=
  OpenClaim.holds_of_wide 4 Try.f4 rfl rfl rfl rfl rfl rfl rfl ⟨rfl, rfl, rfl, rfl, rfl⟩ rfl rfl rfl rfl rfl (by kernel_rfl) Try.func4 (by kernel_rfl)
    (of_decide_eq_true (by kernel_rfl)) (by unfold Func.isWrapper; first | (rw [if_pos (by decide +kernel)]; kernel_rfl) | (rw [if_neg (by decide +kernel)]; exact ⟨rfl, rfl⟩))
    (fun os started H enc _ => lifted os started H enc)
end Go.Proofs.Ytbhjmfgldmpjoaa.exactCountEdges
