/- spec.WaitingTxns. -/
import Derived.Test.YtfcfhgophpoibaaDoorRunLS
import Derived.Test.YtfcfhgophpoibaaDoorWaitI
import Derived.Test.YtfcfhgophpoibaaDoorLockW
namespace Go.Proofs.YtfcfhgophpoibaaDoor
open Go.RowKit

set_option maxRecDepth 100000 in
set_option maxHeartbeats 4000000 in
theorem spec_WaitingTxns_c {A : Option Addr} {n c : Nat} {ms : Ds} {sv : Value} {m : Nat} {xs : List Int} {w : World} (hr : RDs w A n ms) (hn : n ≤ 1048576) (hsm : SmallD ms) (hs : SI w sv m xs) :
    Calls Tryd.prog 17 #[.slice A n c, sv] w (RetI w (waitL ms xs)) := by
  have ss := hs
  have o1 := OI.empty w
  have B1 : Below w.heap.size w (w.alloc (.cells #[] 3)) := (Below.refl _ _).alloc (Nat.le_refl _) _
  go_enter Tryd.func17, Tryd.ntmps17
  go_wp2_with fail
  refine (spec_RunLocks_c (hr.below B1) (by omega) hsm (ss.below B1)).mono ?_
  rintro e w2 ⟨v, k, es, rfl, D, hsy, b2⟩
  have B2 := below_step B1 b2
  have o2 := o1.below b2
  simp only [World.size_alloc] at D
  obtain ⟨Ah, ch, rfl, _, _, hrt⟩ := D.sts hsy
  have hlen := hide hrt.1
  have hk := D.small
  have HO := hide o2; have HD := hide D; have HS := hide hsy; have HB := hide B2
  have hz2 : w.heap.size < w2.heap.size := by have := b2.size; simp at this; omega
  clear o1 o2 D hsy B1 B2 b2 hrt
  go_wp2_with fail
  go_loopw [5, 7] (fun s i wr => ∃ j : Nat, i = .int .i64 j ∧ j ≤ k ∧ OI wr w.heap.size s (waitTo (lockL ms xs) j).length (waitTo (lockL ms xs) j) ∧ OT wr (w.heap.size + 1) (.slice Ah k ch) k es ∧ (∀ q, s.ownBlock = some q → ¬ OT.S (.slice Ah k ch) es q) ∧ w.heap.size < wr.heap.size ∧ Below w.heap.size w wr) (fun _ i _ => k - (intOf i).toNat)
  case atStart => exact ⟨0, rfl, Nat.zero_le _, HO.out, HD.out, fun q hq hs => by
    have h1 := (HD.out.range q hs).1
    have h2 : w.heap.size = q := by simpa [Value.ownBlock] using hq
    omega, by omega, HB.out⟩
  case round =>
    clear HO HD HB
    obtain ⟨j, rfl, hj, ho, hd, hne, hzr, bw⟩ := hrel
    have HO := hide ho; have HD := hide hd; have HN := hide hne; have HB := hide bw
    obtain ⟨Ao, co, rfl⟩ := ho.shape
    have hol := waitTo_len (lockL ms xs) j
    clear ho hd hne bw
    by_cases hjk : j < k
    · obtain ⟨A', c', hA', _, _, hrt⟩ := HD.out.sts HS.out
      obtain ⟨rfl, rfl⟩ : Ah = A' ∧ ch = c' := by simpa using hA'
      obtain ⟨bb, oo, f, ys, dn, B, kk, d, rfl, hbb, hx, p0, p1, p2, _, _, hr3⟩ := hrt.at_ hjk
      have hyl := hr3.len
      have j0 : (0 : Int) ≤ j := by omega
      have j1 : (j : Int) < k := by omega
      have Hx := hide hx
      clear hx hrt hA' hr3
      by_cases hk0 : 0 < kk
      · have kk0 : (0 : Int) < kk := by omega
        cases dn
        · have hw := waitTo_yes Hx.out (by unfold waitB; simp; omega)
          have HW := hide hw
          clear hw
          have o4 := HO.out.alloc (.cells #[.int .i64 (j : Int)] 3)
          have HD4 := hide (HD.out.alloc (.cells #[.int .i64 (j : Int)] 3))
          have HB4 := hide (HB.out.alloc HB.out.size (.cells #[.int .i64 (j : Int)] 3))
          have s4 := SI.one wr (j : Int) 1 (Nat.le_refl _)
          have hln : (waitTo (lockL ms xs) j).length + 1 ≤ 1048576 := by omega
          have hbz : w.heap.size ≤ (wr.alloc (.cells #[.int .i64 (j : Int)] 3)).heap.size := by simp; omega
          go_wp2_with (at_builtin; refine wpList_appI rfl _ _ rfl rfl o4 rfl s4 hln hbz ?_; intro v5 w5 h5 hg5 hat; have hat2 : v5.ownBlock = (Value.slice Ao (waitTo (lockL ms xs) j).length co).ownBlock ∨ v5.ownBlock = some (wr.alloc (.cells #[.int .i64 (j : Int)] 3)).heap.size := hat)
          go_roundw
          case rel => exact ⟨j + 1, by go_num, by omega, by rw [HW.out, List.length_append]; exact h5, HD4.out.grown hg5 (fun q hq => HN.out q hq), fun q hq hs => by
            rcases hat2 with e | e
            · exact HN.out q (by rw [← e]; exact hq) hs
            · rw [e] at hq; injection hq with hq
              have := (HD.out.range q hs).2
              simp at hq; omega, by have := hg5.size; simp at this; omega, HB4.out.grown hg5 HB4.out.size (fun q hq => (World.ownsRow.lt HO.out.1 q hq).1)⟩
          case measure => simp [intOf]; omega
        · have hw := waitTo_no Hx.out (by unfold waitB; simp)
          have HW := hide hw
          clear hw
          go_wp2_with fail
          go_roundw
          case rel => exact ⟨j + 1, by go_num, by omega, by rw [HW.out]; exact HO.out, HD.out, HN.out, hzr, HB.out⟩
          case measure => simp [intOf]; omega
      · obtain rfl : kk = 0 := by omega
        have hw := waitTo_no Hx.out (by unfold waitB; simp [hyl])
        have HW := hide hw
        clear hw
        go_wp2_with fail
        go_roundw
        case rel => exact ⟨j + 1, by go_num, by omega, by rw [HW.out]; exact HO.out, HD.out, HN.out, hzr, HB.out⟩
        case measure => simp [intOf]; omega
    · obtain rfl : j = k := by omega
      go_wp2_with fail
      go_ret
      refine ⟨_, (waitTo (lockL ms xs) j).length, rfl, ?_, HB.out⟩
      have hz1 : waitL ms xs = waitTo (lockL ms xs) j := by unfold waitL; rw [hlen.out]
      rw [hz1]
      exact HO.out
theorem waitL_len (ms : Ds) (xs : List Int) : (waitL ms xs).length ≤ 4 := Nat.le_trans (waitTo_len _ _) (lockL_four ms xs).1

end Go.Proofs.YtfcfhgophpoibaaDoor
