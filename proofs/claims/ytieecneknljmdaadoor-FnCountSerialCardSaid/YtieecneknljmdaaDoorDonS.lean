/- The reference's DoneTxns. -/
import Derived.Test.YtieecneknljmdaaDoorHistS
import Derived.Test.YtieecneknljmdaaDoorHistI
import Derived.Test.YtieecneknljmdaaDoorApp
import Derived.Deep.DeepCutAuto
namespace Go.Proofs.YtieecneknljmdaaDoor
open Go.RowKit

set_option maxRecDepth 100000 in
set_option maxHeartbeats 4000000 in
theorem spec_DoneTxns_c {A : Option Addr} {n c : Nat} {ts : List Tx} {w : World} (hr : RTs w A n ts) (hn : n ≤ 1048576) (hsum : (allOps ts).length ≤ 1048576) (hsm : SmallT ts) :
    Calls Tryd.prog 26 #[.slice A n c] w (RetI w (doneV ts)) := by
  have hl := hide hr.1
  have o0 := hide (OI.empty w)
  have B0 := hide ((Below.refl w.heap.size w).alloc (Nat.le_refl _) (.cells #[] 3))
  cases hv : histB ts
  · have hf : doneV ts = [] := by simp [doneV, hv]
    have F := hide hf; have V := hide hv; clear hf hv
    by_cases h0 : n = 0
    · subst h0
      go_enter Tryd.func26, Tryd.ntmps26
      go_wp2_with fail
      refine wp_loop_rounds 1 ?_
      rw [rounds_succ]
      go_wp2_with fail
      go_ret
      exact ⟨_, 0, rfl, by rw [F.out]; exact o0.out, B0.out⟩
    · have hr2 := hr.below ((Below.refl w.heap.size w).alloc (Nat.le_refl _) (.cells #[] 3))
      have n0 : (0 : Int) < n := by omega
      go_enter Tryd.func26, Tryd.ntmps26
      go_wp2_with fail
      refine wp_loop_rounds 1 ?_
      rw [rounds_succ]
      go_wp2_with (go_at_call 24; refine (spec_HistoryValid_c hr2 hn hsum hsm).mono ?_; rintro e w2 ⟨rfl, b2⟩; rw [V.out])
      go_ret
      exact ⟨_, 0, rfl, by rw [F.out]; exact o0.out.below b2, below_step B0.out b2⟩
  · have hf : doneV ts = doneL ts := by simp [doneV, hv]
    have h6 := (histB_parts hv).1
    have F := hide hf; have V := hide hv; clear hf hv
    go_enter Tryd.func26, Tryd.ntmps26
    go_wp2_with fail
    go_loopw [3, 4] (fun v i W => ∃ k : Nat, i = .int .i64 k ∧ k ≤ n ∧ OI W w.heap.size v (doneTo ts k).length (doneTo ts k) ∧ Below w.heap.size w W) (fun _ i _ => n - (intOf i).toNat)
    case atStart => exact ⟨0, rfl, Nat.zero_le _, o0.out, B0.out⟩
    case round =>
      clear o0 B0
      obtain ⟨k, rfl, hk, ho, bw⟩ := hrel
      by_cases hkn : k < n
      · obtain ⟨b, off, f, ys, dn, B, kk, d, rfl, hbb, hx, q0, q1, q2, hkd, hdm, hri⟩ := hr.at_ hkn
        have hr2 := hr.below bw
        have k0 : (0 : Int) ≤ k := by omega
        have k2 : (k : Int) < n := by omega
        have hln := hl.out
        obtain ⟨Ao, co, rfl⟩ := ho.shape
        have hlk := doneTo_len ts k
        have HO := hide ho; have BW := hide bw
        have Q2 := hide q2; have HX := hide hx
        clear ho q0 q1 q2 hx
        cases dn
        · have hst := doneTo_no HX.out rfl
          have HST := hide hst; clear hst
          go_wp2_with (go_at_call 24; refine (spec_HistoryValid_c hr2 hn hsum hsm).mono ?_; rintro e w2 ⟨rfl, b2⟩; rw [V.out]; have c2 := ((below_step BW.out b2).cell (p := ⟨b, off + k * 3 + 2, none⟩) hbb).trans Q2.out)
          go_roundw
          case rel => exact ⟨k + 1, by go_num, by omega, by rw [HST.out]; exact HO.out.below b2, below_step BW.out b2⟩
          case measure => simp [intOf]; omega
        · have hst := doneTo_yes HX.out rfl
          have HST := hide hst; clear hst
          go_upto_region 6 with (go_at_call 24; refine (spec_HistoryValid_c hr2 hn hsum hsm).mono ?_; rintro e w2 ⟨rfl, b2⟩; rw [V.out]; have c2 := ((below_step BW.out b2).cell (p := ⟨b, off + k * 3 + 2, none⟩) hbb).trans Q2.out)
          have B2 := below_step BW.out b2
          have HO2 := (HO.out.below b2).alloc (.cells #[.int .i64 (k : Int)] 3)
          go_wp2_with (at_builtin; refine wpList_appI rfl _ _ rfl rfl HO2 rfl (SI.one _ _ _ (by omega)) (by omega) (by have := B2.size; simp; omega) ?_; intro v4 w4 o4 hg4 hat)
          have B4 := below_of_grown (B2.alloc B2.size (.cells #[.int .i64 (k : Int)] 3)) hg4 (by have := B2.size; simp; omega) (HO2.grown_le (Nat.le_refl _))
          go_roundw
          case rel => exact ⟨k + 1, by go_num, by omega, by rw [HST.out, List.length_append, List.length_singleton]; exact o4, B4⟩
          case measure => simp [intOf]; omega
      · obtain rfl : k = n := by omega
        have hf : doneTo ts k = doneL ts := by unfold doneL; rw [hl.out]
        rw [hf] at ho
        have HO := hide ho; have BW := hide bw
        clear ho bw hf
        go_wp2_with fail
        go_ret
        exact ⟨_, _, rfl, by rw [F.out]; exact HO.out, BW.out⟩

end Go.Proofs.YtieecneknljmdaaDoor
