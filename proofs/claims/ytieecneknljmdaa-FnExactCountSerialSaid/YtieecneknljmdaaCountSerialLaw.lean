/- FnExactCountSerial: for all arguments the program's CountSerial returns what the reference's returns, and leaves its arguments as they are. -/
import Derived.Test.YtieecneknljmdaaSerN
import Derived.Test.YtieecneknljmdaaTxs
import Derived.Test.YtieecneknljmdaaOpenTx
namespace Go.Proofs.Ytieecneknljmdaa.exactCountSerial
open Go.ChangeShapes Go.WideShapes Go.ChangeAt Go.RowKit

theorem allOps_len (ts : List Tx) : (allOps ts).length = (ts.map (·.2.1.length)).sum := by
  induction ts with
  | nil => rfl
  | cons t ts ih => simp only [allOps, List.flatMap_cons, List.length_append, List.map_cons, List.sum_cons] at *; rw [ih]

set_option maxHeartbeats 16000000 in
theorem walk (A0 : Option Addr) (n0 c0 : Nat) (ts0 : List Tx) (w : World) (hnc0 : n0 ≤ c0) (hmx0 : c0 ≤ maxLen) (R0 : RTs w A0 n0 ts0) :
    Calls Try.prog 3 #[.slice A0 n0 c0] w fun e w' => e = .returned (.bool true) ∧ Below w.heap.size w w' := by
  obtain ⟨z, hz⟩ : ∃ z, szTS 1048576 ts0 = z := ⟨_, rfl⟩
  have HZ := hide hz
  by_cases h0 : z < 0
  · clear hz
    go_enter Try.func3, Try.ntmps3
    go_wp2_with fail
    refine (szTxnS_c R0 (by omega) (by omega) (by omega)).mono ?_
    rintro e w1 ⟨rfl, b1⟩
    rw [HZ.out]
    go_wp2_with fail
    go_ret
    exact ⟨rfl, b1⟩
  · obtain ⟨hn, hsm, hsum⟩ := szTS_ok R0.1 (by rw [hz]; exact h0)
    have hall : (allOps ts0).length ≤ 1048576 := by rw [allOps_len]; omega
    have HS := hide hsm; have HA := hide hall
    clear hz hsm hsum hall
    go_enter Try.func3, Try.ntmps3
    go_wp2_with fail
    refine (szTxnS_c R0 (by omega) (by omega) (by omega)).mono ?_
    rintro e w1 ⟨rfl, B1⟩
    rw [HZ.out]
    go_wp2_with fail
    refine (toTxnS_c (R0.below B1) hn HS.out).mono ?_
    rintro e w2 ⟨rfl, R2, b2⟩
    have B2 := below_step B1 b2
    go_wp2_with fail
    refine (spec_CountSerial_c R2 hn HA.out HS.out).mono ?_
    rintro e w3 ⟨rfl, b3⟩
    have B3 := below_step B2 b3
    clear R2
    go_wp2_with fail
    refine (toTxnS_c (R0.below B3) hn HS.out).mono ?_
    rintro e w4 ⟨rfl, R4, b4⟩
    have B4 := below_step B3 b4
    go_wp2_with fail
    refine (impl_CountSerial_c R4 hn HS.out).mono ?_
    rintro e w5 ⟨rfl, b5⟩
    have B5 := below_step B4 b5
    have s5 : STs w5 (.slice (some ⟨w3.heap.size, 0, none⟩) n0 n0) n0 ts0 := ⟨_, n0, rfl, Nat.le_refl _, hn, R4.below b5⟩
    clear R4
    have hmm : (cntV ts0 != cntV ts0) = false := by simp
    go_wp2_with fail
    refine (toTxnS_c (R0.below B5) hn HS.out).mono ?_
    rintro e w6 ⟨rfl, R6, b6⟩
    have B6 := below_step B5 b6
    have s6 : STs w6 (.slice (some ⟨w5.heap.size, 0, none⟩) n0 n0) n0 ts0 := ⟨_, n0, rfl, Nat.le_refl _, hn, R6⟩
    clear R6
    go_wp2_with fail
    refine (eqTxnS_c (s5.below b6) s6 HS.out).mono ?_
    rintro e w7 ⟨rfl, b7⟩
    go_wp2_with fail
    go_ret
    exact ⟨rfl, below_step B6 b7⟩

set_option maxRecDepth 100000 in
theorem lifted (os : Os) (started : os.Started) (H : Type) (enc : TypeId × Value → H) :
    ReturnsInHanded {} Try.checked os 3 .any (Rows.fnExactCountSerialSpec.pre6 enc Try.prog Try.f3 Rows.fnExactCountSerialRow.domain false) (Rows.fnExactCountSerialSpec.post enc Try.prog Try.f3 false true false false) := by
  refine returnsInHanded_of_change (C := Try.checked) own started (by kernel_rfl) Try.func3
    (ChangeSpec.witness6 (enc := enc) (C := Try.checked) false ⟨#[], #[.slice none 0 0], []⟩ 8 (by kernel_rfl) (by kernel_rfl) (by kernel_rfl) (by kernel_rfl)) ?_
  intro W base args ds gs before hval0 hW hcnd _
  have hval : ∀ (j : Nat) t v, Try.f3.params[j]? = some t → args[j]? = some v → Value.okWide Try.prog W .any base t v := hval0
  have hW' := hW
  obtain ⟨p, q, hA0, hV, rfl, hfz, hnd⟩ := hW
  have hA : DataW.TrodAll enc Try.prog W 0 (fun _ => true) true Try.f3.params.toList args.toList ds p := hA0
  rw [Try.params3] at hA hval
  obtain ⟨v0, vs0, d0, ds0, p0, q0, hargs, rfl, rfl, h0, r0⟩ := trodAll_cons hA
  obtain ⟨rfl, rfl, rfl⟩ := trodAll_nil r0
  obtain rfl : args = #[v0] := by cases args; simp_all
  obtain ⟨rfl, rfl⟩ := trodVars_none hV
  have k0 := h0
  have lt0 : ∀ x ∈ p0, x.block < W.heap.size := by obtain ⟨m, hm⟩ := k0; exact DataW.trod_lt m _ _ _ hm
  obtain ⟨A0, n0, c0, ts0, rfl, hnc0, hmx0, R0⟩ := open_TxnsA (hval 0 22 v0 rfl rfl) h0
  clear hA0 hval0
  refine (walk A0 n0 c0 ts0 W hnc0 hmx0 R0).mono fun e W' ⟨he, bel⟩ => ?_
  subst he
  exact ⟨_, rfl, _, _, _, [], _, [], hW', trodAll_mk1 (shut_bool Try.underlying4 _), (trodAll_cons_mk (Below.trod laidOut (by kernel_rfl) (of_decide_eq_true (by kernel_rfl)) k0 bel lt0) trodAll_mk0), rfl, bel.frame _, fun h => by cases h⟩

theorem proved : Rows.FnExactCountSerialSaid :=
  OpenClaim.holds_of_wide 3 Try.f3 rfl rfl rfl rfl rfl rfl rfl ⟨rfl, rfl, rfl, rfl, rfl⟩ rfl rfl rfl rfl rfl (by kernel_rfl) Try.func3 (by kernel_rfl)
    (of_decide_eq_true (by kernel_rfl)) (by unfold Func.isWrapper; first | (rw [if_pos (by decide +kernel)]; kernel_rfl) | (rw [if_neg (by decide +kernel)]; exact ⟨rfl, rfl⟩))
    (fun os started H enc _ => lifted os started H enc)
end Go.Proofs.Ytieecneknljmdaa.exactCountSerial
