/- FnExactDeliverOrder: for all arguments the program's DeliverOrder returns what the reference's returns, and leaves its arguments as they are; its result shares no memory with them or with another result. -/
import Derived.Test.YtopjdidigfdhbaaDeliverS
import Derived.Test.YtopjdidigfdhbaaDeliverI
import Derived.Test.YtopjdidigfdhbaaMsgs3
import Derived.Test.YtopjdidigfdhbaaOpenMs
namespace Go.Proofs.Ytopjdidigfdhbaa.exactDeliverOrder
open Go.ChangeShapes Go.WideShapes Go.ChangeAt Go.RowKit

theorem szML_sum : ∀ (ms : Ms) (l : Int), 0 ≤ l → ¬ szML l ms < 0 → (((ms.map (·.2.length)).sum : Nat) : Int) ≤ l := by
  intro ms
  induction ms with
  | nil => intro l h _; simpa using h
  | cons m ms ih =>
    intro l hl h
    rw [szML_cons] at h
    by_cases hn : szN l m.2.length < 0
    · rw [if_pos hn] at h; omega
    · rw [if_neg hn] at h
      have e : szN l m.2.length = l - m.2.length ∧ (m.2.length : Int) ≤ l := by
        unfold szN at hn ⊢
        by_cases hh : (m.2.length : Int) ≤ l
        · rw [if_pos hh]; exact ⟨rfl, hh⟩
        · rw [if_neg hh] at hn; omega
      have := ih _ (by omega) h
      simp only [List.map_cons, List.sum_cons]
      omega
theorem szMS_ok {ms : Ms} {n : Nat} (hl : ms.length = n) (h : ¬ szMS 1048576 ms < 0) : n ≤ 1048576 ∧ Small ms ∧ (ms.map (·.2.length)).sum + n ≤ 1048576 := by
  unfold szMS at h
  split at h
  · omega
  · have := szML_ok ms (1048576 - ms.length) (by omega) (by omega)
    have h2 := szML_sum ms (1048576 - ms.length) (by omega) h
    exact ⟨by omega, fun m hm => by have := this.1 m hm; omega, by omega⟩
theorem sumI_of {is : List In} {ms : Ms} (h : is.map (·.2.1) = ms.map (·.2.length)) : sumI is = (ms.map (·.2.length)).sum + ms.length := by
  have hl : is.length = ms.length := by have := congrArg List.length h; simpa using this
  rw [← h, ← hl]
  unfold sumI
  clear h hl
  induction is with
  | nil => rfl
  | cons q is ih => simp only [List.map_cons, List.sum_cons, List.length_cons] at *; omega

set_option maxHeartbeats 8000000 in
theorem walk (A0 : Option Addr) (n0 c0 : Nat) (ms0 : Ms) (w : World) (hnc0 : n0 ≤ c0) (hmx0 : c0 ≤ maxLen) (R0 : RM w A0 n0 ms0) :
    Calls Try.prog 5 #[.slice A0 n0 c0] w fun e w' => e = .returned (.bool true) ∧ Below w.heap.size w w' := by
  obtain ⟨z, hz⟩ : ∃ z, szMS 1048576 ms0 = z := ⟨_, rfl⟩
  have HZ := hide hz
  by_cases h0 : z < 0
  · clear hz
    go_enter Try.func5, Try.ntmps5
    go_wp2_with fail
    refine (szMessageS_c R0 (by omega) (by omega) (by omega)).mono ?_
    rintro e w1 ⟨rfl, b1⟩
    rw [HZ.out]
    go_wp2_with fail
    go_ret
    exact ⟨rfl, b1⟩
  · obtain ⟨hn, hsm, hsum⟩ := szMS_ok R0.1 (by rw [hz]; exact h0)
    have HS := hide hsm; have HSum := hide hsum
    clear hz hsm hsum
    go_enter Try.func5, Try.ntmps5
    go_wp2_with fail
    refine (szMessageS_c R0 (by omega) (by omega) (by omega)).mono ?_
    rintro e w1 ⟨rfl, B1⟩
    rw [HZ.out]
    go_wp2_with fail
    refine (toMessageS_c (R0.below B1) hn HS.out).mono ?_
    rintro e w2 ⟨rfl, R2, b2⟩
    have B2 := below_step B1 b2
    go_wp2_with fail
    refine (spec_DeliverOrder_c R2 hn HS.out).mono ?_
    rintro e w3 ⟨v0, m0, rfl, o0, b3⟩
    have B3 := below_step B2 b3
    have l0 := fun k hk => (World.ownsRow.lt o0.1 k hk).2
    replace o0 := o0.mono B2.size
    have L0 := hide l0; clear l0
    go_wp2_with fail
    refine (toMessageS_d (R0.below B3) hn HS.out).mono ?_
    rintro e w4 ⟨rfl, R4, OM, b4⟩
    have B4 := below_step B3 b4
    replace o0 := o0.below b4
    obtain ⟨cs, is, D, C, hlen⟩ := OM
    have hrg := D.range
    have HR := hide hrg; have HL := hide hlen; clear hrg hlen
    go_wp2_with fail
    refine (impl_DeliverOrder_c R4 hn HS.out).mono ?_
    rintro e w5 ⟨v1, m1, rfl, o1, b5⟩
    have B5 := below_step B4 b5
    have l1 := fun k hk => (World.ownsRow.lt o1.1 k hk).1
    have a01 := own_apart o0.1 o1.1
    have L1 := hide l1; clear l1
    replace o1 := o1.mono B4.size
    replace o0 := o0.below b5
    replace R4 := R4.below b5
    replace D := D.below b5
    go_wp2_with fail
    refine (eqIntS_c o1.si o0.si).mono ?_
    rintro e w6 ⟨rfl, b6⟩
    have B6 := below_step B5 b6
    replace o1 := o1.below b6
    replace o0 := o0.below b6
    replace R4 := R4.below b6
    replace D := D.below b6
    simp only [decide_true]
    go_wp2_with fail
    refine (toMessageS_c (R0.below B6) hn HS.out).mono ?_
    rintro e w7 ⟨rfl, R7, b7⟩
    have B7 := below_step B6 b7
    replace o1 := o1.below b7
    replace o0 := o0.below b7
    replace R4 := R4.below b7
    replace D := D.below b7
    go_wp2_with fail
    refine (eqMessageS_c R4 R7 hn HS.out).mono ?_
    rintro e w8 ⟨rfl, b8⟩
    have B8 := below_step B7 b8
    replace o1 := o1.below b8
    replace o0 := o0.below b8
    replace D := D.below b8
    clear R4 R7
    have hil : is.length = n0 := by have := congrArg List.length HL.out; simp at this; rw [this]; exact R0.1
    have hsi : sumI is ≤ 1048576 := by rw [sumI_of HL.out, R0.1]; exact HSum.out
    have HIL := hide hil; clear hil
    go_wp2_with fail
    refine (markMessageS_c (hi := w4.heap.size) D C HIL.out hn HR.out.1.2 (fun j q b h1 h2 => (HR.out.2 j q b h1 h2).2) (by omega) (by omega)).mono ?_
    rintro e w9 ⟨rfl, c9⟩
    have B9 := Chg.below B8 c9 (fun k hk => by have := B3.size; omega)
    replace o0 := o0.chg c9 (fun k hk h => by have := L0.out k hk; omega)
    replace o1 := o1.chg c9 (fun k hk h => by have := L1.out k hk; omega)
    clear D c9
    have s0 : 0 ≤ ((sumI is : Nat) : Int) := by omega
    go_wp2_with fail
    refine (eqIntS_c o1.si o0.si).mono ?_
    rintro e w10 ⟨rfl, b10⟩
    have B10 := below_step B9 b10
    replace o1 := o1.below b10
    replace o0 := o0.below b10
    simp only [decide_true]
    have hb1 := o1.2
    go_wp2_with fail
    have oo := o1
    refine (markIntS_c o1 (by omega) (by omega)).mono ?_
    rintro e w11 ⟨rfl, o', g11⟩
    clear o1; have o1 := o'; clear o'
    have B11 := B10.grown g11 B10.size (own_grown_le oo.1 (Nat.le_refl _))
    replace o0 := o0.grown g11 a01
    clear oo
    go_wp2_with fail
    refine (heldIntS_c o1.si (by omega) (by omega)).mono ?_
    rintro e w12 ⟨rfl, b12⟩
    have B12 := below_step B11 b12
    replace o1 := o1.below b12
    replace o0 := o0.below b12
    go_wp2_with fail
    refine (toMessageS_c (R0.below B12) hn HS.out).mono ?_
    rintro e w13 ⟨rfl, R13, b13⟩
    have B13 := below_step B12 b13
    replace o1 := o1.below b13
    replace o0 := o0.below b13
    go_wp2_with fail
    refine (impl_DeliverOrder_c R13 hn HS.out).mono ?_
    rintro e w14 ⟨v2, m2, rfl, o2, b14⟩
    have B14 := below_step B13 b14
    replace o1 := o1.below b14
    replace o0 := o0.below b14
    go_wp2_with fail
    refine (eqIntS_c o2.si o0.si).mono ?_
    rintro e w15 ⟨rfl, b15⟩
    have B15 := below_step B14 b15
    replace o1 := o1.below b15
    simp only [decide_true]
    go_wp2_with fail
    refine (heldIntS_c o1.si (by omega) (by omega)).mono ?_
    rintro e w16 ⟨rfl, b16⟩
    have B16 := below_step B15 b16
    go_wp2_with fail
    go_ret
    exact ⟨rfl, B16⟩

set_option maxRecDepth 100000 in
theorem lifted (os : Os) (started : os.Started) (H : Type) (enc : TypeId × Value → H) :
    ReturnsInHanded {} Try.checked os 5 .any (Rows.fnExactDeliverOrderSpec.pre6 enc Try.prog Try.f5 Rows.fnExactDeliverOrderRow.domain false) (Rows.fnExactDeliverOrderSpec.post enc Try.prog Try.f5 false true false false) := by
  refine returnsInHanded_of_change (C := Try.checked) own started (by kernel_rfl) Try.func5
    (ChangeSpec.witness6 (enc := enc) (C := Try.checked) false ⟨#[], #[.slice none 0 0], []⟩ 8 (by kernel_rfl) (by kernel_rfl) (by kernel_rfl) (by kernel_rfl)) ?_
  intro W base args ds gs before hval0 hW hcnd _
  have hval : ∀ (j : Nat) t v, Try.f5.params[j]? = some t → args[j]? = some v → Value.okWide Try.prog W .any base t v := hval0
  have hW' := hW
  obtain ⟨p, q, hA0, hV, rfl, hfz, hnd⟩ := hW
  have hA : DataW.TrodAll enc Try.prog W 0 (fun _ => true) true Try.f5.params.toList args.toList ds p := hA0
  rw [Try.params5] at hA hval
  obtain ⟨v0, vs0, d0, ds0, p0, q0, hargs, rfl, rfl, h0, r0⟩ := trodAll_cons hA
  obtain ⟨rfl, rfl, rfl⟩ := trodAll_nil r0
  obtain rfl : args = #[v0] := by cases args; simp_all
  obtain ⟨rfl, rfl⟩ := trodVars_none hV
  have k0 := h0
  have lt0 : ∀ x ∈ p0, x.block < W.heap.size := by obtain ⟨m, hm⟩ := k0; exact DataW.trod_lt m _ _ _ hm
  obtain ⟨A0, n0, c0, ms0, rfl, hnc0, hmx0, R0⟩ := open_MessagesA (hval 0 32 v0 rfl rfl) h0
  clear hA0 hval0
  refine (walk A0 n0 c0 ms0 W hnc0 hmx0 R0).mono fun e W' ⟨he, bel⟩ => ?_
  subst he
  exact ⟨_, rfl, _, _, _, [], _, [], hW', trodAll_mk1 (shut_bool Try.underlying4 _), (trodAll_cons_mk (Below.trod laidOut (by kernel_rfl) (of_decide_eq_true (by kernel_rfl)) k0 bel lt0) trodAll_mk0), rfl, bel.frame _, fun h => by cases h⟩

theorem proved : Rows.FnExactDeliverOrderSaid :=
  OpenClaim.holds_of_wide 5 Try.f5 rfl rfl rfl rfl rfl rfl rfl ⟨rfl, rfl, rfl, rfl, rfl⟩ rfl rfl rfl rfl rfl (by kernel_rfl) Try.func5 (by kernel_rfl)
    (of_decide_eq_true (by kernel_rfl)) (by unfold Func.isWrapper; first | (rw [if_pos (by decide +kernel)]; kernel_rfl) | (rw [if_neg (by decide +kernel)]; exact ⟨rfl, rfl⟩))
    (fun os started H enc _ => lifted os started H enc)
end Go.Proofs.Ytopjdidigfdhbaa.exactDeliverOrder
