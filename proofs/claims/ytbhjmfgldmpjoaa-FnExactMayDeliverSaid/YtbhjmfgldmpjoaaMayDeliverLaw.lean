/- FnExactMayDeliver: for all arguments the program's MayDeliver returns what the reference's returns, and leaves its arguments as they are. -/
import Derived.Test.YtbhjmfgldmpjoaaMay
import Derived.Test.YtbhjmfgldmpjoaaMsg
import Derived.Test.YtbhjmfgldmpjoaaOpenM
import Derived.Deep.RegionHeld3
namespace Go.Proofs.Ytbhjmfgldmpjoaa.exactMayDeliver
open Go.ChangeShapes Go.WideShapes Go.ChangeAt Go.RowKit

set_option maxRecDepth 100000 in
set_option maxHeartbeats 16000000 in
theorem walk (A0 : Option Addr) (n0 c0 : Nat) (xs0 : List Int) (f1 : Int) (A1 : Option Addr) (n1 c1 : Nat) (xs1 : List Int) (w : World)
    (hnc0 : n0 ≤ c0) (_hmx0 : c0 ≤ maxLen) (R0 : RI w A0 n0 xs0) (hnc1 : n1 ≤ c1) (hmx1 : c1 ≤ maxLen) (R1 : RI w A1 n1 xs1) :
    Calls Try.prog 5 #[.slice A0 n0 c0, .agg #[.int .i64 f1, .slice A1 n1 c1]] w fun e w' => e = .returned (.bool true) ∧ Below w.heap.size w w' := by
  have B1 : Below w.heap.size w (w.alloc (.cells #[.int .i64 f1, .slice A1 n1 c1] 45)) := (Below.refl _ _).alloc (Nat.le_refl _) _
  have KA := Blk.new w 45 #[.int .i64 f1, .slice A1 n1 c1]
  by_cases hn0 : n0 ≤ 1048576
  · by_cases hn1 : n1 ≤ 1048576
    · have hl1 : szN 1048576 n1 = 1048576 - n1 := by unfold szN; rw [if_pos (by omega)]
      have HL1 := hide hl1; clear hl1
      obtain ⟨r, hr⟩ : ∃ r, mayB xs0 f1 xs1 = r := ⟨_, rfl⟩
      have HR := hide hr; clear hr
      go_enter Try.func5, Try.ntmps5
      go_wp2_with fail
      refine (szMessage_c (by omega) (by omega) (by omega)).mono ?_
      rintro e w2 ⟨rfl, b2⟩
      rw [HL1.out]
      have B2 := below_step B1 b2
      replace KA := KA.belowAll b2
      have la := KA.lt
      obtain ⟨a0, a1⟩ := KA.two'
      go_wp2_with fail
      go_region_held3 (fun W => W.cell? ⟨w.heap.size, 0, none⟩ = some (.int .i64 f1) ∧ W.cell? ⟨w.heap.size, 1, none⟩ = some (.slice A1 n1 c1))
        (first | (go_keep; done) | (go_split_ands; refine ⟨?_, ?_⟩ <;> (first | (rw [by3.cell (by have := by1.size; have := by2.size; simp at *; omega)]; assumption) | (rw [by2.cell (by have := by1.size; simp at *; omega)]; assumption) | (rw [by1.cell (by exact la)]; assumption))))
        (first | (go_at_call 25; refine (toIntS_c (SI.of_args hnc0 hn0 (R0.below B2)).drew).mono ?_; rintro e y1 ⟨v1, rfl, o1, by1⟩) | (go_at_call 26; refine (toMessage_c ((SI.of_args hnc1 hn1 (R1.below B2)).drew.below by1)).mono ?_; rintro e y2 ⟨P2, q2, r2, rfl, o2, by2⟩) | (go_at_call 24; refine (spec_MayDeliver_c (o1.below by2).si o2.si).mono ?_; rintro e y3 ⟨rfl, by3⟩; rw [HR.out]))
      replace by1 := below_of_drew by1
      have B3 := below_step (below_step (below_step B2 by1) by2) by3
      replace KA := ((KA.belowAll by1).belowAll by2).belowAll by3
      clear o1 o2 a0 a1 la by1 by2 by3
      go_wp2_with fail
      refine (toIntS_c (SI.of_args hnc0 hn0 (R0.below B3))).mono ?_
      rintro e w4 ⟨v4, rfl, o4, b4⟩
      have B4 := below_step B3 b4
      replace KA := KA.belowAll b4
      obtain ⟨a0, a1⟩ := KA.two'
      go_wp2_with fail
      refine (toMessage_c (SI.of_args hnc1 hn1 (R1.below B4))).mono ?_
      rintro e w5 ⟨A5, n5, c5, rfl, o5, b5⟩
      have B5 := below_step B4 b5
      replace o4 := o4.below b5
      replace KA := KA.belowAll b5
      clear a0 a1
      have KX := Blk.new w5 49 #[.int .i64 f1, .slice A5 n5 c5]
      have b6 : Below w5.heap.size w5 (w5.alloc (.cells #[.int .i64 f1, .slice A5 n5 c5] 49)) := (Below.refl _ _).alloc (Nat.le_refl _) _
      have B6 := below_step B5 b6
      replace o4 := o4.below b6
      replace o5 := o5.below b6
      replace KA := KA.belowAll b6
      go_wp2_with fail
      refine (impl_MayDeliver_c o4.si o5.si).mono ?_
      rintro e w7 ⟨rfl, b7⟩
      rw [HR.out]
      have B7 := below_step B6 b7
      replace o4 := o4.below b7
      replace o5 := o5.below b7
      replace KA := KA.belowAll b7
      replace KX := KX.belowAll b7
      cases r
      all_goals
        go_wp2_with fail
        refine (toIntS_c (SI.of_args hnc0 hn0 (R0.below B7))).mono ?_
        rintro e w8 ⟨v8, rfl, o8, b8⟩
        have B8 := below_step B7 b8
        replace o4 := o4.below b8
        replace o5 := o5.below b8
        replace KA := KA.belowAll b8
        replace KX := KX.belowAll b8
        go_wp2_with fail
        refine (eqIntS_c o4.si o8.si).mono ?_
        rintro e w9 ⟨rfl, b9⟩
        have B9 := below_step B8 b9
        replace o5 := o5.below b9
        replace KA := KA.belowAll b9
        replace KX := KX.belowAll b9
        simp only [decide_true]
        have la := KA.lt; have lx := KX.lt
        obtain ⟨a0, a1⟩ := KA.two'
        obtain ⟨x0, x1⟩ := KX.two'
        go_wp2_with fail
        go_region_held3 (fun W => W.cell? ⟨w5.heap.size, 0, none⟩ = some (.int .i64 f1) ∧ W.cell? ⟨w5.heap.size, 1, none⟩ = some (.slice A5 n5 c5) ∧ W.cell? ⟨w.heap.size, 0, none⟩ = some (.int .i64 f1) ∧ W.cell? ⟨w.heap.size, 1, none⟩ = some (.slice A1 n1 c1))
          (first | (go_keep; done) | (go_split_ands; refine ⟨?_, ?_, ?_, ?_⟩ <;> (first | (rw [by2.cell (by have := by1.size; simp at *; omega)]; assumption) | (rw [by1.cell (by first | exact lx | exact la)]; assumption))))
          (first | (go_at_call 26; refine (toMessage_c (SI.of_args hnc1 hn1 (R1.below B9)).drew).mono ?_; rintro e y1 ⟨P2, q2, r2, rfl, o2, by1⟩) | (go_at_call 28; refine (eqMessage_c (o5.drew.below by1).si o2.si).mono ?_; rintro e y2 ⟨rfl, by2⟩; rw [show ((f1 == f1) && decide (xs1 = xs1)) = true by simp]))
        replace by1 := below_of_drew by1
        have B10 := below_step (below_step B9 by1) by2
        go_wp2_with fail
        go_ret
        exact ⟨rfl, B10⟩
    · have hl1 : szN 1048576 n1 = -1 := by simp [szN]; omega
      have HL1 := hide hl1; clear hl1
      go_enter Try.func5, Try.ntmps5
      go_wp2_with fail
      refine (szMessage_c (by omega) (by omega) (by omega)).mono ?_
      rintro e w2 ⟨rfl, b2⟩
      rw [HL1.out]
      go_wp2_with fail
      go_ret
      exact ⟨rfl, below_step B1 b2⟩
  · go_enter Try.func5, Try.ntmps5
    go_wp2_with fail
    go_ret
    exact ⟨rfl, B1⟩

set_option maxRecDepth 100000 in
theorem lifted (os : Os) (started : os.Started) (H : Type) (enc : TypeId × Value → H) :
    ReturnsInHanded {} Try.checked os 5 .any (Rows.fnExactMayDeliverSpec.pre6 enc Try.prog Try.f5 Rows.fnExactMayDeliverRow.domain false) (Rows.fnExactMayDeliverSpec.post enc Try.prog Try.f5 false true false false) := by
  refine returnsInHanded_of_change (C := Try.checked) own started (by kernel_rfl) Try.func5
    (ChangeSpec.witness6 (enc := enc) (C := Try.checked) false ⟨#[], #[.slice none 0 0, .agg #[.int .i64 0, .slice none 0 0]], []⟩ 8 (by kernel_rfl) (by kernel_rfl) (by kernel_rfl) (by kernel_rfl)) ?_
  intro W base args ds gs before hval0 hW hcnd _
  have hval : ∀ (j : Nat) t v, Try.f5.params[j]? = some t → args[j]? = some v → Value.okWide Try.prog W .any base t v := hval0
  have hW' := hW
  obtain ⟨p, q, hA0, hV, rfl, hfz, hnd⟩ := hW
  have hA : DataW.TrodAll enc Try.prog W 0 (fun _ => true) true Try.f5.params.toList args.toList ds p := hA0
  rw [Try.params5] at hA hval
  obtain ⟨v0, vs0, d0, ds0, p0, q0, hargs, rfl, rfl, h0, r0⟩ := trodAll_cons hA
  obtain ⟨v1, vs1, d1, ds1, p1, q1, rfl, rfl, rfl, h1, r1⟩ := trodAll_cons r0
  obtain ⟨rfl, rfl, rfl⟩ := trodAll_nil r1
  obtain rfl : args = #[v0, v1] := by cases args; simp_all
  obtain ⟨rfl, rfl⟩ := trodVars_none hV
  have k0 := h0
  have lt0 : ∀ x ∈ p0, x.block < W.heap.size := by obtain ⟨m, hm⟩ := k0; exact DataW.trod_lt m _ _ _ hm
  obtain ⟨A0, n0, c0, xs0, rfl, hnc0, hmx0, R0⟩ := open_intsA (hval 0 35 v0 rfl rfl) h0
  have k1 := h1
  have lt1 : ∀ x ∈ p1, x.block < W.heap.size := by obtain ⟨m, hm⟩ := k1; exact DataW.trod_lt m _ _ _ hm
  obtain ⟨f1, A1, n1, c1, xs1, rfl, hnc1, hmx1, R1⟩ := open_MessageA (hval 1 45 v1 rfl rfl) h1
  clear hA0 hval0
  refine (walk A0 n0 c0 xs0 f1 A1 n1 c1 xs1 W hnc0 hmx0 R0 hnc1 hmx1 R1).mono fun e W' ⟨he, bel⟩ => ?_
  subst he
  exact ⟨_, rfl, _, _, _, [], _, [], hW', trodAll_mk1 (shut_bool Try.underlying4 _), (trodAll_cons_mk (Below.trod laidOut (by kernel_rfl) (of_decide_eq_true (by kernel_rfl)) k0 bel lt0) (trodAll_cons_mk (Below.trod laidOut (by kernel_rfl) (of_decide_eq_true (by kernel_rfl)) k1 bel lt1) trodAll_mk0)), rfl, bel.frame _, fun h => by cases h⟩

theorem proved : Rows.FnExactMayDeliverSaid :=
  OpenClaim.holds_of_wide 5 Try.f5 rfl rfl rfl rfl rfl rfl rfl ⟨rfl, rfl, rfl, rfl, rfl⟩ rfl rfl rfl rfl rfl (by kernel_rfl) Try.func5 (by kernel_rfl)
    (of_decide_eq_true (by kernel_rfl)) (by unfold Func.isWrapper; first | (rw [if_pos (by decide +kernel)]; kernel_rfl) | (rw [if_neg (by decide +kernel)]; exact ⟨rfl, rfl⟩))
    (fun os started H enc _ => lifted os started H enc)
end Go.Proofs.Ytbhjmfgldmpjoaa.exactMayDeliver
