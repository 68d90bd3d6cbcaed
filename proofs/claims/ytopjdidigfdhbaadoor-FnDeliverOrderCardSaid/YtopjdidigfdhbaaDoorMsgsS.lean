/- spec.MessagesValid. -/
import Derived.Test.YtopjdidigfdhbaaDoorMsgsP
import Derived.Test.YtopjdidigfdhbaaDoorMsgs2
import Derived.BigQuiet
namespace Go.Proofs.YtopjdidigfdhbaaDoor
open Go.RowKit

theorem msgOk_from {f : Int} {ys : List Int} (h : inB f 0 3 = false) : msgOk (f, ys) = false := by simp [msgOk, h]
theorem msgOk_clock {f : Int} {ys : List Int} (h : clockB ys = false) : msgOk (f, ys) = false := by simp [msgOk, h]
theorem msgOk_zero {f : Int} {ys : List Int} (h : ys.getD f.toNat 0 = 0) : msgOk (f, ys) = false := by unfold msgOk cntM; simp only [h]; simp
theorem msgOk_good {f : Int} {ys : List Int} (h : inB f 0 3 = true) (h2 : clockB ys = true) (h3 : ys.getD f.toNat 0 ≠ 0) : msgOk (f, ys) = true := by
  unfold msgOk cntM; dsimp only; rw [h, h2]; simpa using h3

set_option maxRecDepth 100000 in
set_option maxHeartbeats 8000000 in
theorem spec_MessagesValid_c {A : Option Addr} {n c : Nat} {ms : Ms} {w : World} (hr : RM w A n ms) (hn : n ≤ 1048576) (hsm : Small ms) :
    Calls Tryd.prog 30 #[.slice A n c] w fun e w' => e = .returned (.bool (mvB ms)) ∧ Below w.heap.size w w' := by
  have hl := hide hr.1
  go_enter Tryd.func30, Tryd.ntmps30
  go_wp2_with fail
  go_loopw [3] (fun i wr => ∃ k : Nat, k ≤ n ∧ i = .int .i64 k ∧ MvTo ms k ∧ Below w.heap.size w wr) (fun i _ => n - (intOf i).toNat)
  case atStart => exact ⟨0, Nat.zero_le _, rfl, MvTo.zero, Below.refl _ _⟩
  case round =>
    obtain ⟨k, hk, rfl, hmv, bw⟩ := hrel
    have Hmv := hide hmv; clear hmv
    by_cases hkn : k < n
    · obtain ⟨b, off, f, ys, B, kk, d, rfl, hbb, hx, q0, q1, hkd, hdm, hri⟩ := hr.at_ hkn
      have e0 := (bw.cell (p := ⟨b, off + k * 2, none⟩) hbb).trans q0
      have e1 := (bw.cell (p := ⟨b, off + k * 2 + 1, none⟩) hbb).trans q1
      have hsz := hsm _ (List.mem_of_getElem? hx)
      have hk1 : kk ≤ 1048576 := by have := hri.len; dsimp only at hsz; omega
      have s1 : SI w (.slice B kk d) kk ys := SI.of_args hkd hk1 hri
      have b1 : Below w.heap.size w (wr.alloc (.cells #[.int .i64 f, .slice B kk d] 55)) := bw.alloc bw.size _
      have K0 := Blk.new wr 55 #[.int .i64 f, .slice B kk d]
      have s2 := s1.below b1
      have s3 := hide hri
      have hkl : k < ms.length := by rw [hl.out]; exact hkn
      have hat := atM_get hx
      have At := hide hat; have Hkl := hide hkl; clear hat hkl hx q0 q1 hsz hri
      have k0 : (0 : Int) ≤ k := by omega
      have k2 : (k : Int) < n := by omega
      cases hF : inB f 0 3
      · have hf := mvB_bad Hkl.out (by rw [At.out]; exact msgOk_from hF)
        have F := hide hf; have Z := hide hF; clear hf hF
        go_wp2_with (go_at_call 46; refine (l1In_c).mono ?_; rintro e w' ⟨rfl, rfl⟩; rw [Z.out])
        go_ret
        exact ⟨by rw [F.out]; rfl, b1⟩
      · cases hY : clockB ys
        · have hf := mvB_bad Hkl.out (by rw [At.out]; exact msgOk_clock hY)
          have F := hide hf; have Z := hide hF; have Y := hide hY; clear hf hF hY
          go_wp2_with (go_at_call 46; refine (l1In_c).mono ?_; rintro e w' ⟨rfl, rfl⟩; rw [Z.out])
          refine (spec_ClockValid_c s2).mono ?_
          rintro e w' ⟨rfl, rfl⟩
          rw [Y.out]
          go_wp2_with fail
          go_ret
          exact ⟨by rw [F.out]; rfl, b1⟩
        · obtain ⟨f, rfl⟩ : ∃ g : Nat, f = g := ⟨f.toNat, by have := (inB_iff _ _ _).1 hF; omega⟩
          have hf4 : f < 4 := by have := (inB_iff _ _ _).1 hF; omega
          obtain rfl : kk = 4 := by rw [← s3.out.len]; exact ((clockB_iff _).1 hY).1
          obtain ⟨bb, ob, y, rfl, hbb2, hy, hc2⟩ := s3.out.at_ hf4
          have e2 := (b1.cell (p := ⟨bb, ob + f, none⟩) hbb2).trans hc2
          have hgd : ys.getD (f : Int).toNat 0 = y := by simp [List.getD, hy]
          have Z := hide hF; have Y := hide hY; have Gd := hide hgd
          by_cases hy0 : y = 0
          · have hf := mvB_bad Hkl.out (by rw [At.out]; exact msgOk_zero (by rw [hgd, hy0]))
            have F := hide hf; clear hf hF hY hgd hy
            subst hy0
            go_wp2_with (go_at_call 46; refine (l1In_c).mono ?_; rintro e w' ⟨rfl, rfl⟩; rw [Z.out])
            refine (spec_ClockValid_c s2).mono ?_
            rintro e w' ⟨rfl, rfl⟩
            rw [Y.out]
            go_wp2_with fail
            go_ret
            exact ⟨by rw [F.out]; rfl, b1⟩
          · have hok : msgOk (atM ms k) = true := by rw [At.out]; exact msgOk_good hF hY (by rw [hgd]; exact hy0)
            have Ok := hide hok
            have hye : (y == 0) = false := by simpa using hy0
            clear hok hF hY hgd hy hy0
            go_wp2_with (go_at_call 46; refine (l1In_c).mono ?_; rintro e w' ⟨rfl, rfl⟩; rw [Z.out])
            refine (spec_ClockValid_c s2).mono ?_
            rintro e w' ⟨rfl, rfl⟩
            rw [Y.out]
            go_wp2_with fail
            go_loopw [5] (fun i wj => ∃ j : Nat, j ≤ k ∧ i = .int .i64 j ∧ FreeTo ms k j ∧ Blk wj wr.heap.size 55 #[.int .i64 f, .slice (some ⟨bb, ob, none⟩) 4 d] ∧ Below w.heap.size w wj) (fun i _ => k - (intOf i).toNat)
            case atStart => exact ⟨0, Nat.zero_le _, rfl, FreeTo.zero, K0, b1⟩
            case round =>
              obtain ⟨j, hj, rfl, hfree, KR, hbel⟩ := hrel
              have Hfree := hide hfree; clear hfree K0 b1 e0 e1 e2 s2
              obtain ⟨g0, g1, _, _⟩ := KR.two
              have KR' := hide KR; clear KR
              by_cases hjk : j < k
              · obtain ⟨b', off', f', ys', B', kk', d', hA, hbb', hx', q0, q1, hkd', hdm', hri'⟩ := hr.at_ (show j < n by omega)
                cases hA
                have e0 := (hbel.cell (p := ⟨b, off + j * 2, none⟩) hbb).trans q0
                have e1 := (hbel.cell (p := ⟨b, off + j * 2 + 1, none⟩) hbb).trans q1
                have e2 := (hbel.cell (p := ⟨bb, ob + f, none⟩) hbb2).trans hc2
                have hat' := atM_get hx'
                have hoj := (Hmv.out j hjk).1
                rw [hat'] at hoj
                unfold msgOk at hoj
                simp only [Bool.and_eq_true] at hoj
                have hF' := (inB_iff _ _ _).1 hoj.1
                have hY' := ((clockB_iff _).1 hoj.2.1).1
                have hky : keyM (atM ms k) = ((f : Int), y) := by unfold keyM cntM; rw [At.out]; dsimp only; rw [Gd.out]
                have j0 : (0 : Int) ≤ j := by omega
                have j2 : (j : Int) < n := by omega
                have j3 : (j : Int) < k := by omega
                by_cases hff : f' = (f : Int)
                · subst hff
                  obtain rfl : kk' = 4 := by rw [← hri'.len]; exact hY'
                  obtain ⟨bc, oc, y', rfl, hbc, hy', hc'⟩ := hri'.at_ hf4
                  have e3 := (hbel.cell (p := ⟨bc, oc + f, none⟩) hbc).trans hc'
                  have hkj : keyM (atM ms j) = ((f : Int), y') := by unfold keyM cntM; rw [hat']; simp [List.getD, hy']
                  by_cases hyy : y' = y
                  · subst hyy
                    have hf := mvB_twice Hkl.out hjk (hkj.trans hky.symm)
                    have F := hide hf
                    clear hf hkj hky hoj hat' hF' hY' hy' hx' q0 q1 hri'
                    go_wp2
                    go_quiet (fail)
                    go_wp2
                    go_ret
                    exact ⟨by rw [F.out]; rfl, below_drewN hbel _⟩
                  · have hne : keyM (atM ms j) ≠ keyM (atM ms k) := by rw [hkj, hky]; simpa using hyy
                    have Hne := hide hne
                    have hyf : (y' == y) = false := by simpa using hyy
                    clear hne hkj hky hoj hat' hF' hY' hy' hx' q0 q1 hri' hyy
                    go_wp2
                    go_quiet (fail)
                    go_wp2
                    go_roundw
                    case rel => exact ⟨j + 1, by omega, by go_num, Hfree.out.step Hne.out, KR'.out.drewN _, below_drewN hbel _⟩
                    case measure => simp [intOf]; omega
                · have hne : keyM (atM ms j) ≠ keyM (atM ms k) := by rw [hky]; unfold keyM; rw [hat']; simp [hff]
                  have Hne := hide hne
                  have hfe : (f' == (f : Int)) = false := by simpa using hff
                  clear hne hky hoj hat' hF' hY' hx' q0 q1 hri' hff
                  go_wp2
                  go_quiet (fail)
                  go_wp2
                  go_roundw
                  case rel => exact ⟨j + 1, by omega, by go_num, Hfree.out.step Hne.out, KR'.out.drewN _, below_drewN hbel _⟩
                  case measure => simp [intOf]; omega
              · obtain rfl : j = k := by omega
                go_wp2_with fail
                go_roundw
                case rel => exact ⟨j + 1, by omega, by go_num, Hmv.out.step Ok.out Hfree.out, hbel⟩
                case measure => simp [intOf]; omega
    · obtain rfl : k = n := by omega
      have hf : mvB ms = decide (k ≤ 12) := by rw [mvB_all (by rw [hl.out]; exact Hmv.out), hl.out]
      have F := hide hf; clear hf
      go_wp2_with fail
      go_ret
      exact ⟨by rw [F.out]; simp [go_sem]; omega, bw⟩

end Go.Proofs.YtopjdidigfdhbaaDoor
