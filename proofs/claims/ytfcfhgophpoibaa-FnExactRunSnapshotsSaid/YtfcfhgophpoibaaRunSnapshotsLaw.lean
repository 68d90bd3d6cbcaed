/- FnExactRunSnapshots: for all arguments the program's RunSnapshots returns what the reference's returns, and leaves its arguments as they are; its result shares no memory with them or with another result. -/
import Derived.Test.YtfcfhgophpoibaaSnapS
import Derived.Test.YtfcfhgophpoibaaSnapI
import Derived.Test.YtfcfhgophpoibaaSnapK2
import Derived.Test.YtfcfhgophpoibaaOpenDr
namespace Go.Proofs.Ytfcfhgophpoibaa.exactRunSnapshots
open Go.ChangeShapes Go.WideShapes Go.ChangeAt Go.RowKit

set_option maxHeartbeats 16000000 in
theorem walk (A0 : Option Addr) (n0 c0 : Nat) (ms0 : Ds) (A1 : Option Addr) (n1 c1 : Nat) (xs1 : List Int) (w : World) (hnc0 : n0 ≤ c0) (hmx0 : c0 ≤ maxLen) (R0 : RDs w A0 n0 ms0) (hnc1 : n1 ≤ c1) (_hmx1 : c1 ≤ maxLen) (R1 : RI w A1 n1 xs1) :
    Calls Try.prog 6 #[.slice A0 n0 c0, .slice A1 n1 c1] w fun e w' => e = .returned (.bool true) ∧ Below w.heap.size w w' := by
  by_cases hn1 : n1 ≤ 1048576
  · obtain ⟨z, hz⟩ : ∃ z, szDS 1048576 ms0 = z := ⟨_, rfl⟩
    have HZ := hide hz
    by_cases h0 : z < 0
    · clear hz
      go_enter Try.func6, Try.ntmps6
      go_wp2_with fail
      refine (szDraftS_c R0 (by omega) (by omega) (by omega)).mono ?_
      rintro e w1 ⟨rfl, b1⟩
      rw [HZ.out]
      go_wp2_with fail
      go_ret
      exact ⟨rfl, b1⟩
    · obtain ⟨hn, hsm, hsum⟩ := szDS_ok R0.1 (by rw [hz]; exact h0)
      have HS := hide hsm; have HSum := hide hsum
      clear hz hsm hsum
      go_enter Try.func6, Try.ntmps6
      go_wp2_with fail
      refine (szDraftS_c R0 (by omega) (by omega) (by omega)).mono ?_
      rintro e w1 ⟨rfl, B1⟩
      rw [HZ.out]
      go_wp2_with fail
      refine (toDraftS_c (R0.below B1) hn HS.out).mono ?_
      rintro e w2 ⟨rfl, R2, b2⟩
      have B2 := below_step B1 b2
      go_wp2_with fail
      refine (toIntS_c (SI.of_args hnc1 hn1 (R1.below B2))).mono ?_
      rintro e w3 ⟨v3, rfl, o3, b3⟩
      have B3 := below_step B2 b3
      replace R2 := R2.below b3
      go_wp2_with fail
      refine (spec_RunSnapshots_c R2 hn HS.out o3.si).mono ?_
      rintro e w4 ⟨v0, m0, es0, rfl, D0, hs0, b4⟩
      have B4 := below_step B3 b4
      clear R2 o3
      have l0 := fun k hk => (D0.range k hk).2
      have HS0 := hide hs0; have L0 := hide l0; clear hs0 l0
      go_wp2_with fail
      refine (toDraftS_d (R0.below B4) hn HS.out).mono ?_
      rintro e w5 ⟨rfl, R5, OM, b5⟩
      have B5 := below_step B4 b5
      replace D0 := D0.below b5
      obtain ⟨cs, is, D, C, hlen⟩ := OM
      have hrg := D.range
      have HR := hide hrg; have HL := hide hlen; clear hrg hlen
      go_wp2_with fail
      refine (toIntS_c (SI.of_args hnc1 hn1 (R1.below B5))).mono ?_
      rintro e w6 ⟨v6, rfl, o6, b6⟩
      have B6 := below_step B5 b6
      replace D0 := D0.below b6
      replace R5 := R5.below b6
      replace D := D.below b6
      have l6 := fun k hk => World.ownsRow.lt o6.1 k hk
      have L6 := hide l6; clear l6
      go_wp2_with fail
      refine (impl_RunSnapshots_c R5 hn HS.out o6.si).mono ?_
      rintro e w7 ⟨v1, m1, es1, rfl, D1, hs1, b7⟩
      have B7 := below_step B6 b7
      have l1 := fun k hk => (D1.range k hk).1
      have HS1 := hide hs1; have L1 := hide l1; clear hs1 l1
      have hsum1 := D1.sum HS1.out (snapL_four ms0 xs1)
      have hsmT := (snapL_four ms0 xs1).small
      have HSM := hide hsmT
      clear hsmT
      replace D0 := D0.below b7
      replace R5 := R5.below b7
      replace D := D.below b7
      replace o6 := o6.below b7
      go_wp2_with fail
      refine (eqTxnS_c (D1.sts HS1.out) (D0.sts HS0.out) HSM.out).mono ?_
      rintro e w8 ⟨rfl, b8⟩
      have B8 := below_step B7 b8
      replace D0 := D0.below b8
      replace D1 := D1.below b8
      replace R5 := R5.below b8
      replace D := D.below b8
      replace o6 := o6.below b8
      go_wp2_with fail
      refine (toDraftS_c (R0.below B8) hn HS.out).mono ?_
      rintro e w9 ⟨rfl, R9, b9⟩
      have B9 := below_step B8 b9
      replace D0 := D0.below b9
      replace D1 := D1.below b9
      replace R5 := R5.below b9
      replace D := D.below b9
      replace o6 := o6.below b9
      go_wp2_with fail
      refine (eqDraftS_c R5 R9 hn HS.out).mono ?_
      rintro e w10 ⟨rfl, b10⟩
      have B10 := below_step B9 b10
      replace D0 := D0.below b10
      replace D1 := D1.below b10
      replace D := D.below b10
      replace o6 := o6.below b10
      clear R5 R9
      go_wp2_with fail
      refine (toIntS_c (SI.of_args hnc1 hn1 (R1.below B10))).mono ?_
      rintro e w11 ⟨v11, rfl, o11, b11⟩
      have B11 := below_step B10 b11
      replace D0 := D0.below b11
      replace D1 := D1.below b11
      replace D := D.below b11
      replace o6 := o6.below b11
      go_wp2_with fail
      refine (eqIntS_c o6.si o11.si).mono ?_
      rintro e w12 ⟨rfl, b12⟩
      have B12 := below_step B11 b12
      replace D0 := D0.below b12
      replace D1 := D1.below b12
      replace D := D.below b12
      replace o6 := o6.below b12
      clear o11
      simp only [decide_true]
      have hil : is.length = n0 := by have := congrArg List.length HL.out; simp at this; rw [this]; exact R0.1
      have hsi : sumD is ≤ 3145728 := by rw [sumD_of HL.out, R0.1]; have := HSum.out; omega
      have HIL := hide hil; clear hil
      go_wp2_with fail
      refine (markDraftS_c (hi := w5.heap.size) D C HIL.out hn HR.out.1.2 (fun j q b h1 h2 => (HR.out.2 j q b h1 h2).2) (by omega) (by omega)).mono ?_
      rintro e w13 ⟨rfl, c13⟩
      have B13 := Chg.below B12 c13 (fun k hk => by have := B4.size; omega)
      have hz6 := b6.size
      replace D0 := D0.chg c13 (fun k hk h => by have := L0.out k hk; omega)
      replace D1 := D1.chg c13 (fun k hk h => by have := L1.out k hk; omega)
      replace o6 := o6.chg c13 (fun k hk h => by have := (L6.out k hk).1; omega)
      clear D c13
      have s0 : 0 ≤ ((sumD is : Nat) : Int) := by omega
      have s1 : ((sumD is : Nat) : Int) ≤ 3145728 := by omega
      go_wp2_with fail
      have oo := o6
      refine (markIntS_c o6 (by omega) (by omega)).mono ?_
      rintro e w14 ⟨rfl, _, g14⟩
      have B14 := B13.grown g14 B13.size (fun k hk => by have := (L6.out k hk).1; have := B5.size; omega)
      replace D0 := D0.grown g14 (fun k hk h => by have := (L6.out k hk).1; have := L0.out k h; have := b5.size; omega)
      replace D1 := D1.grown g14 (fun k hk h => by have := (L6.out k hk).2; have := L1.out k h; omega)
      clear oo o6 g14
      go_wp2_with fail
      refine (eqTxnS_c (D1.sts HS1.out) (D0.sts HS0.out) HSM.out).mono ?_
      rintro e w15 ⟨rfl, b15⟩
      have B15 := below_step B14 b15
      replace D0 := D0.below b15
      replace D1 := D1.below b15
      have hz45 : w4.heap.size ≤ w6.heap.size := Nat.le_trans b5.size b6.size
      go_wp2_with fail
      refine (markTxnS_w (k := 1) D1 (by omega) (by omega)).mono ?_
      rintro e w16 ⟨rfl, E1, c16⟩
      have B16 := Chg.below B15 c16 (fun k hk => by have := L1.out k hk; have := B6.size; omega)
      replace D0 := D0.chg c16 (fun k hk h => by have := L0.out k hk; have := L1.out k h; omega)
      clear D1 c16
      have u0 : 0 ≤ ((sumE es1 : Nat) : Int) := by omega
      have u1 : ((sumE es1 : Nat) : Int) ≤ 56 := by omega
      go_wp2_with fail
      refine (heldTxnS_w (k := 1) E1 (by omega) (by omega)).mono ?_
      rintro e w17 ⟨rfl, b17⟩
      have B17 := below_step B16 b17
      replace D0 := D0.below b17
      replace E1 := E1.below b17
      go_wp2_with fail
      refine (toDraftS_c (R0.below B17) hn HS.out).mono ?_
      rintro e w18 ⟨rfl, R18, b18⟩
      have B18 := below_step B17 b18
      replace D0 := D0.below b18
      replace E1 := E1.below b18
      go_wp2_with fail
      refine (toIntS_c (SI.of_args hnc1 hn1 (R1.below B18))).mono ?_
      rintro e w19 ⟨v19, rfl, o19, b19⟩
      have B19 := below_step B18 b19
      replace D0 := D0.below b19
      replace E1 := E1.below b19
      replace R18 := R18.below b19
      go_wp2_with fail
      refine (impl_RunSnapshots_c R18 hn HS.out o19.si).mono ?_
      rintro e w20 ⟨v2, m2, es2, rfl, D2, hs2, b20⟩
      have B20 := below_step B19 b20
      replace D0 := D0.below b20
      replace E1 := E1.below b20
      have HS2 := hide hs2; clear hs2
      go_wp2_with fail
      refine (eqTxnS_c (D2.sts HS2.out) (D0.sts HS0.out) HSM.out).mono ?_
      rintro e w21 ⟨rfl, b21⟩
      have B21 := below_step B20 b21
      replace E1 := E1.below b21
      go_wp2_with fail
      refine (heldTxnS_w (k := 1) E1 (by omega) (by omega)).mono ?_
      rintro e w22 ⟨rfl, b22⟩
      have B22 := below_step B21 b22
      go_wp2_with fail
      go_ret
      exact ⟨rfl, B22⟩
  · go_enter Try.func6, Try.ntmps6
    go_wp2_with fail
    go_ret
    exact ⟨rfl, Below.refl _ _⟩

set_option maxRecDepth 100000 in
theorem lifted (os : Os) (started : os.Started) (H : Type) (enc : TypeId × Value → H) :
    ReturnsInHanded {} Try.checked os 6 .any (Rows.fnExactRunSnapshotsSpec.pre6 enc Try.prog Try.f6 Rows.fnExactRunSnapshotsRow.domain false) (Rows.fnExactRunSnapshotsSpec.post enc Try.prog Try.f6 false true false false) := by
  refine returnsInHanded_of_change (C := Try.checked) own started (by kernel_rfl) Try.func6
    (ChangeSpec.witness6 (enc := enc) (C := Try.checked) false ⟨#[], #[.slice none 0 0, .slice none 0 0], []⟩ 8 (by kernel_rfl) (by kernel_rfl) (by kernel_rfl) (by kernel_rfl)) ?_
  intro W base args ds gs before hval0 hW hcnd _
  have hval : ∀ (j : Nat) t v, Try.f6.params[j]? = some t → args[j]? = some v → Value.okWide Try.prog W .any base t v := hval0
  have hW' := hW
  obtain ⟨p, q, hA0, hV, rfl, hfz, hnd⟩ := hW
  have hA : DataW.TrodAll enc Try.prog W 0 (fun _ => true) true Try.f6.params.toList args.toList ds p := hA0
  rw [Try.params6] at hA hval
  obtain ⟨v0, vs0, d0, ds0, p0, q0, hargs, rfl, rfl, h0, r0⟩ := trodAll_cons hA
  obtain ⟨v1, vs1, d1, ds1, p1, q1, rfl, rfl, rfl, h1, r1⟩ := trodAll_cons r0
  obtain ⟨rfl, rfl, rfl⟩ := trodAll_nil r1
  obtain rfl : args = #[v0, v1] := by cases args; simp_all
  obtain ⟨rfl, rfl⟩ := trodVars_none hV
  have k0 := h0
  have lt0 : ∀ x ∈ p0, x.block < W.heap.size := by obtain ⟨m, hm⟩ := k0; exact DataW.trod_lt m _ _ _ hm
  obtain ⟨A0, n0, c0, ms0, rfl, hnc0, hmx0, R0⟩ := open_DraftsA (hval 0 22 v0 rfl rfl) h0
  have k1 := h1
  have lt1 : ∀ x ∈ p1, x.block < W.heap.size := by obtain ⟨m, hm⟩ := k1; exact DataW.trod_lt m _ _ _ hm
  obtain ⟨A1, n1, c1, xs1, rfl, hnc1, hmx1, R1⟩ := open_intsA (hval 1 23 v1 rfl rfl) h1
  clear hA0 hval0
  refine (walk A0 n0 c0 ms0 A1 n1 c1 xs1 W hnc0 hmx0 R0 hnc1 hmx1 R1).mono fun e W' ⟨he, bel⟩ => ?_
  subst he
  exact ⟨_, rfl, _, _, _, [], _, [], hW', trodAll_mk1 (shut_bool Try.underlying4 _), (trodAll_cons_mk (Below.trod laidOut (by kernel_rfl) (of_decide_eq_true (by kernel_rfl)) k0 bel lt0) (trodAll_cons_mk (Below.trod laidOut (by kernel_rfl) (of_decide_eq_true (by kernel_rfl)) k1 bel lt1) trodAll_mk0)), rfl, bel.frame _, fun h => by cases h⟩

theorem proved : Rows.FnExactRunSnapshotsSaid :=
  OpenClaim.holds_of_wide 6 Try.f6 rfl rfl rfl rfl rfl rfl rfl ⟨rfl, rfl, rfl, rfl, rfl⟩ rfl rfl rfl rfl rfl (by kernel_rfl) Try.func6 (by kernel_rfl)
    (of_decide_eq_true (by kernel_rfl)) (by unfold Func.isWrapper; first | (rw [if_pos (by decide +kernel)]; kernel_rfl) | (rw [if_neg (by decide +kernel)]; exact ⟨rfl, rfl⟩))
    (fun os started H enc _ => lifted os started H enc)
end Go.Proofs.Ytfcfhgophpoibaa.exactRunSnapshots
