/- FnExactLastStamped: for all arguments the program's LastStamped returns what the reference's returns, and leaves its argument as it is. -/
import Derived.Test.YtbhjmfgldmpjoaaLast2
import Derived.Test.YtbhjmfgldmpjoaaOpenR
namespace Go.Proofs.Ytbhjmfgldmpjoaa.exactLastStamped
open Go.ChangeShapes Go.WideShapes Go.ChangeAt Go.RowKit

set_option maxHeartbeats 8000000 in
theorem walk (A0 : Option Addr) (n0 c0 : Nat) (ts0 : List T3) (w : World) (hnc0 : n0 ≤ c0) (hmx0 : c0 ≤ maxLen) (R0 : R3 w A0 n0 ts0) :
    Calls Try.prog 3 #[.slice A0 n0 c0] w fun e w' => e = .returned (.bool true) ∧ Below w.heap.size w w' := by
  by_cases hn0 : n0 ≤ 1048576
  · have hl0 : szN 1048576 n0 = 1048576 - n0 := by unfold szN; rw [if_pos (by omega)]
    have HL0 := hide hl0; clear hl0
    obtain ⟨x, y, z, hV⟩ : ∃ x y z, lastR ts0 = (x, y, z) := ⟨_, _, _, rfl⟩
    obtain ⟨ok, hok⟩ : ∃ ok, lastOk ts0 = ok := ⟨_, rfl⟩
    have HV := hide hV; have HK := hide hok; clear hV hok
    go_enter Try.func3, Try.ntmps3
    go_wp2_with fail
    refine (szStampedS_c (by omega) (by omega) (by omega)).mono ?_
    rintro e w' ⟨rfl, rfl⟩
    rw [HL0.out]
    go_wp2_with fail
    refine (toStampedS_c (S3.of_args hnc0 hn0 R0)).mono ?_
    rintro e w1 ⟨v1, rfl, o1, b1⟩
    go_wp2_with fail
    refine (spec_LastStamped_c o1.s3).mono ?_
    rintro e w2 ⟨rfl, b2⟩
    rw [HV.out, HK.out]
    unfold vT3
    have B2 := below_step b1 b2
    have b3 : Below w2.heap.size w2 (w2.alloc (.cells #[.int .i64 x, .int .i64 y, .int .i64 z] 25)) := (Below.refl _ _).alloc (Nat.le_refl _) _
    have KA := Blk.new w2 25 #[.int .i64 x, .int .i64 y, .int .i64 z]
    have B3 := below_step B2 b3
    clear o1
    go_wp2_with fail
    refine (toStampedS_c (S3.of_args hnc0 hn0 (R0.below B3))).mono ?_
    rintro e w4 ⟨v2, rfl, o2, b4⟩
    have B4 := below_step B3 b4
    replace KA := KA.belowAll b4
    go_wp2_with fail
    refine (impl_LastStamped_c o2.s3).mono ?_
    rintro e w5 ⟨rfl, b5⟩
    rw [HV.out, HK.out]
    unfold vT3
    have B5 := below_step B4 b5
    replace KA := KA.belowAll b5
    replace o2 := o2.below b5
    have KB := Blk.new w5 25 #[.int .i64 x, .int .i64 y, .int .i64 z]
    have KA' := KA.alloc (.cells #[.int .i64 x, .int .i64 y, .int .i64 z] 25)
    obtain ⟨⟨a0, a1, a2⟩, _⟩ := KA'.three
    have b6 : Below w5.heap.size w5 (w5.alloc (.cells #[.int .i64 x, .int .i64 y, .int .i64 z] 25)) := (Below.refl _ _).alloc (Nat.le_refl _) _
    have B6 := below_step B5 b6
    replace o2 := o2.below b6
    go_wp2_with fail
    refine (eqStamped_c).mono ?_
    rintro e w7 ⟨rfl, b7⟩
    rw [show stEq x y z x y z = true by simp [stEq]]
    have B7 := below_step B6 b7
    replace o2 := o2.below b7
    clear a0 a1 a2 KA KB KA'
    cases ok
    all_goals
      go_wp2_with fail
      refine (toStampedS_c (S3.of_args hnc0 hn0 (R0.below B7))).mono ?_
      rintro e w8 ⟨v3, rfl, o3, b8⟩
      have B8 := below_step B7 b8
      replace o2 := o2.below b8
      go_wp2_with fail
      refine (eqStampedS_c o2.s3 o3.s3).mono ?_
      rintro e w9 ⟨rfl, b9⟩
      have B9 := below_step B8 b9
      simp only [decide_true]
      go_wp2_with fail
      go_ret
      exact ⟨rfl, B9⟩
  · have hl0 : szN 1048576 n0 = -1 := by simp [szN]; omega
    have HL0 := hide hl0; clear hl0
    go_enter Try.func3, Try.ntmps3
    go_wp2_with fail
    refine (szStampedS_c (by omega) (by omega) (by omega)).mono ?_
    rintro e w' ⟨rfl, rfl⟩
    rw [HL0.out]
    go_wp2_with fail
    go_ret
    exact ⟨rfl, Below.refl _ _⟩

set_option maxRecDepth 100000 in
theorem lifted (os : Os) (started : os.Started) (H : Type) (enc : TypeId × Value → H) :
    ReturnsInHanded {} Try.checked os 3 .any (Rows.fnExactLastStampedSpec.pre6 enc Try.prog Try.f3 Rows.fnExactLastStampedRow.domain false) (Rows.fnExactLastStampedSpec.post enc Try.prog Try.f3 false true false false) := by
  refine returnsInHanded_of_change (C := Try.checked) own started (by kernel_rfl) Try.func3
    (ChangeSpec.witness6 (enc := enc) (C := Try.checked) false ⟨#[], #[.slice none 0 0], []⟩ 8 (by kernel_rfl) (by kernel_rfl) (by kernel_rfl) (by kernel_rfl)) ?_
  intro W base args ds gs before hval0 hW hcnd _
  have hval : ∀ (j : Nat) t v, Try.f3.params[j]? = some t → args[j]? = some v → Value.okWide Try.prog W .any base t v := hval0
  have hW' := hW
  obtain ⟨p, q, hA0, hV, rfl, hfz, hnd⟩ := hW
  have hA : DataW.TrodAll enc Try.prog W 0 (fun _ => true) true Try.f3.params.toList args.toList ds p := hA0
  rw [Try.params3] at hA hval
  obtain ⟨v0, vs0, d0, ds0, p0, q0, hargs, rfl, rfl, h0, r0⟩ := trodAll_cons hA
  obtain ⟨rfl, rfl, rfl⟩ := trodAll_nil r0
  obtain rfl : args = #[v0] := by cases args; simp_all
  obtain ⟨rfl, rfl⟩ := trodVars_none hV
  have k0 := h0
  have lt0 : ∀ x ∈ p0, x.block < W.heap.size := by obtain ⟨m, hm⟩ := k0; exact DataW.trod_lt m _ _ _ hm
  obtain ⟨A0, n0, c0, ts0, rfl, hnc0, hmx0, R0⟩ := open_StampedsA (hval 0 22 v0 rfl rfl) h0
  clear hA0 hval0
  refine (walk A0 n0 c0 ts0 W hnc0 hmx0 R0).mono fun e W' ⟨he, bel⟩ => ?_
  subst he
  exact ⟨_, rfl, _, _, _, [], _, [], hW', trodAll_mk1 (shut_bool Try.underlying4 _), (trodAll_cons_mk (Below.trod laidOut (by kernel_rfl) (of_decide_eq_true (by kernel_rfl)) k0 bel lt0) trodAll_mk0), rfl, bel.frame _, fun h => by cases h⟩

theorem proved : Rows.FnExactLastStampedSaid :=
  OpenClaim.holds_of_wide 3 Try.f3 rfl rfl rfl rfl rfl rfl rfl ⟨rfl, rfl, rfl, rfl, rfl⟩ rfl rfl rfl rfl rfl (by kernel_rfl) Try.func3 (by kernel_rfl)
    (of_decide_eq_true (by kernel_rfl)) (by unfold Func.isWrapper; first | (rw [if_pos (by decide +kernel)]; kernel_rfl) | (rw [if_neg (by decide +kernel)]; exact ⟨rfl, rfl⟩))
    (fun os started H enc _ => lifted os started H enc)
end Go.Proofs.Ytbhjmfgldmpjoaa.exactLastStamped
