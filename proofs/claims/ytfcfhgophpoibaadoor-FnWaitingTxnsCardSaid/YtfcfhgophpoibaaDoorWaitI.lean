/- impl.RunLocks, impl.WaitingTxns. -/
import Derived.Test.YtfcfhgophpoibaaDoorLockI
namespace Go.Proofs.YtfcfhgophpoibaaDoor
open Go.RowKit

/-- Begun and not committed. -/
def waitB (t : Tx) : Bool := decide (0 < t.2.1.length) && !t.2.2
def waitTo (ts : List Tx) : Nat → List Int
  | 0 => []
  | k + 1 => waitTo ts k ++ (match ts[k]? with | some t => if waitB t then [(k : Int)] else [] | none => [])
theorem waitTo_yes {ts : List Tx} {k : Nat} {t : Tx} (h : ts[k]? = some t) (hb : waitB t = true) : waitTo ts (k + 1) = waitTo ts k ++ [(k : Int)] := by
  rw [waitTo, h]; simp [hb]
theorem waitTo_no {ts : List Tx} {k : Nat} {t : Tx} (h : ts[k]? = some t) (hb : waitB t = false) : waitTo ts (k + 1) = waitTo ts k := by
  rw [waitTo, h]; simp [hb]
theorem waitTo_len (ts : List Tx) (k : Nat) : (waitTo ts k).length ≤ k := by
  induction k with
  | zero => simp [waitTo]
  | succ k ih =>
    rw [waitTo, List.length_append]
    have : (match ts[k]? with | some t => if waitB t then [(k : Int)] else [] | none => []).length ≤ 1 := by split <;> (try split) <;> simp
    omega
def waitL (ds : Ds) (xs : List Int) : List Int := waitTo (lockL ds xs) (lockL ds xs).length
theorem lockL_len {ds : Ds} {xs : List Int} (h : Fits ds (lockR ds xs).1) (hr : runB ds xs = true) : (lockL ds xs).length = ds.length := by
  have : lockL ds xs = (lockR ds xs).1 := by simp [lockL, hr]
  rw [this]; exact h.1

theorem run_make_I0 (c : Nat) (hc : c ≤ 1048576) (w : World) :
    (Instr.makeSlice 24 (.int .i64 0) (.int .i64 (c : Int))).run Tryd.prog w = .ok (.slice (some ⟨w.heap.size, 0, none⟩) 0 c) (w.alloc (.cells (madeCells #[.int .i64 0] c) 3)) := by
  obtain ⟨i, hi, hz, hs, hb⟩ := info_parts intInfo
  have := run_make_rowN 24 3 i (.int .i64 0) Tryd.underlying24 hi hz .i64 .i64 0 c (Nat.zero_le _) (by rw [hb]; omega) (by omega) w
  rw [hs, Nat.mul_one] at this
  exact this
theorem own_I0 (w : World) (c : Nat) (hc : c ≤ 1048576) : OI (w.alloc (.cells (madeCells #[.int .i64 0] c) 3)) w.heap.size (.slice (some ⟨w.heap.size, 0, none⟩) 0 c) 0 [] :=
  ⟨⟨rfl, .inr ⟨w.heap.size, c, _, rfl, Nat.le_refl _, Blk.new w _ _, Nat.zero_le _, by simp [maxLen]; omega, by simp [madeCells], by simp⟩⟩, by omega⟩

set_option maxRecDepth 100000 in
set_option maxHeartbeats 4000000 in
theorem impl_RunLocks_c {A : Option Addr} {n c : Nat} {ms : Ds} {sv : Value} {m : Nat} {xs : List Int} {w : World} (hr : RDs w A n ms) (hn : n ≤ 1048576) (hsm : SmallD ms) (hs : SI w sv m xs) :
    Calls Tryd.prog 18 #[.slice A n c, sv] w fun e w' => ∃ v m es, e = .returned v ∧ OV w' w.heap.size v m es ∧ SaysT es (lockL ms xs) ∧ Below w.heap.size w w' := by
  have ss := hs
  have hl := hide hr.1
  cases hrun : runB ms xs
  · have hf : lockL ms xs = [] := by simp [lockL, hrun]
    have F := hide hf; have Q := hide hrun; clear hf hrun
    go_enter Tryd.func18, Tryd.ntmps18
    go_wp2_with fail
    refine (runnable_c hr (by omega) hsm ss).mono ?_
    rintro e w1 ⟨rfl, b1⟩
    rw [Q.out]
    go_wp2_with fail
    go_ret
    exact ⟨_, 0, [], rfl, ⟨⟨rfl, .inl ⟨rfl, rfl⟩⟩, fun j e h => by simp at h, fun i j p q _ h => by simp at h, by omega⟩, by rw [F.out]; rfl, b1⟩
  · have hf : lockL ms xs = (lockR ms xs).1 := by simp [lockL, hrun]
    have F := hide hf; have Q := hide hrun; clear hf hrun
    go_enter Tryd.func18, Tryd.ntmps18
    go_wp2_with fail
    refine (runnable_c hr (by omega) hsm ss).mono ?_
    rintro e w1 ⟨rfl, b1⟩
    rw [Q.out]
    go_wp2_with fail
    refine (impl_runLocks_c (hr.below b1) (by omega) hsm (ss.below b1) Q.out).mono ?_
    rintro e w2 ⟨v, k, es, rfl, D, hsy, b2⟩
    go_wp2_with fail
    go_ret
    exact ⟨_, k, es, rfl, D.mono b1.size, by rw [F.out]; exact hsy, below_step b1 b2⟩
set_option maxRecDepth 100000 in
set_option maxHeartbeats 4000000 in
theorem impl_WaitingTxns_c {A : Option Addr} {n c : Nat} {ms : Ds} {sv : Value} {m : Nat} {xs : List Int} {w : World} (hr : RDs w A n ms) (hn : n ≤ 1048576) (hsm : SmallD ms) (hs : SI w sv m xs) :
    Calls Tryd.prog 15 #[.slice A n c, sv] w (RetI w (waitL ms xs)) := by
  have ss := hs
  have hl := hide hr.1
  cases hrun : runB ms xs
  · have h0 : lockL ms xs = [] := by simp [lockL, hrun]
    have hf : waitL ms xs = [] := by unfold waitL; rw [h0]; rfl
    clear h0
    have F := hide hf; have Q := hide hrun; clear hf hrun
    go_enter Tryd.func15, Tryd.ntmps15
    go_wp2_with fail
    refine (runnable_c hr (by omega) hsm ss).mono ?_
    rintro e w1 ⟨rfl, b1⟩
    rw [Q.out]
    go_wp2_with fail
    go_ret
    exact ⟨_, 0, rfl, by rw [F.out]; exact OI.nil, b1⟩
  · have hf : lockL ms xs = (lockR ms xs).1 := by simp [lockL, hrun]
    have F := hide hf; have Q := hide hrun; clear hf hrun
    have hmk := run_make_I0 n hn
    go_enter Tryd.func15, Tryd.ntmps15
    go_wp2_with fail
    refine (runnable_c hr (by omega) hsm ss).mono ?_
    rintro e w1 ⟨rfl, b1⟩
    rw [Q.out]
    have o1 := own_I0 w1 n hn
    have B1 : Below w.heap.size w (w1.alloc (.cells (madeCells #[.int .i64 0] n) 3)) := b1.alloc b1.size _
    go_wp2_with fail
    refine (impl_runLocks_c (hr.below B1) (by omega) hsm (ss.below B1) Q.out).mono ?_
    rintro e w2 ⟨v, k, es, rfl, D, hsy, b2⟩
    have B2 := below_step B1 b2
    have o2 := o1.below b2
    simp only [World.size_alloc] at D
    obtain ⟨Ah, ch, rfl, _, _, hrt⟩ := D.sts hsy
    have hlen := hide hrt.1
    have hk := D.small
    have HZ := hide b1.size; have HO := hide o2; have HD := hide D; have HS := hide hsy; have HB := hide B2
    have hz2 : w1.heap.size < w2.heap.size := by have := b2.size; simp at this; omega
    clear o1 o2 D hsy B1 B2 b2 hrt hmk
    go_wp2_with fail
    go_loopw [5, 19] (fun s i wr => ∃ j : Nat, i = .int .i64 j ∧ j ≤ k ∧ OI wr w1.heap.size s (waitTo (lockR ms xs).1 j).length (waitTo (lockR ms xs).1 j) ∧ OV wr (w1.heap.size + 1) (.slice Ah k ch) k es ∧ (∀ q, s.ownBlock = some q → ¬ OV.S (.slice Ah k ch) es q) ∧ w1.heap.size ≤ wr.heap.size ∧ Below w.heap.size w wr) (fun _ i _ => k - (intOf i).toNat)
    case atStart => exact ⟨0, rfl, Nat.zero_le _, HO.out, HD.out, fun q hq hs => by
      have h1 := (HD.out.range q hs).1
      have h2 : w1.heap.size = q := by simpa [Value.ownBlock] using hq
      omega, by omega, HB.out⟩
    case round =>
      clear HO HD HB
      obtain ⟨j, rfl, hj, ho, hd, hne, hzr, bw⟩ := hrel
      have HO := hide ho; have HD := hide hd; have HN := hide hne; have HB := hide bw
      obtain ⟨Ao, co, rfl⟩ := ho.shape
      have hol := waitTo_len (lockR ms xs).1 j
      clear ho hd hne bw
      by_cases hjk : j < k
      · obtain ⟨A', c', hA', _, _, hrt⟩ := HD.out.sts HS.out
        obtain ⟨rfl, rfl⟩ : Ah = A' ∧ ch = c' := by simpa using hA'
        obtain ⟨bb, oo, f, ys, dn, B, kk, d, rfl, hbb, hx, p0, p1, p2, _, _, hr3⟩ := hrt.at_ hjk
        have hyl := hr3.len
        have j0 : (0 : Int) ≤ j := by omega
        have j1 : (j : Int) < k := by omega
        have Hx := hide hx
        clear hx hrt hA' hr3
        by_cases hk0 : 0 < kk
        · have kk0 : (0 : Int) < kk := by omega
          cases dn
          · have hw := waitTo_yes Hx.out (by unfold waitB; simp; omega)
            have HW := hide hw
            clear hw
            have oA := HO.out.alloc (.cells #[.int .i64 f, .slice B kk d, .bool false] 35)
            have o4 := oA.alloc (.cells #[.int .i64 (j : Int)] 3)
            have HD4 := hide ((HD.out.alloc (.cells #[.int .i64 f, .slice B kk d, .bool false] 35)).alloc (.cells #[.int .i64 (j : Int)] 3))
            have HB4 := hide ((HB.out.alloc HB.out.size (.cells #[.int .i64 f, .slice B kk d, .bool false] 35)).alloc (by have := HB.out.size; simp; omega) (.cells #[.int .i64 (j : Int)] 3))
            have s4 := SI.one (wr.alloc (.cells #[.int .i64 f, .slice B kk d, .bool false] 35)) (j : Int) 1 (Nat.le_refl _)
            simp only [World.size_alloc] at s4
            have hln : (waitTo (lockR ms xs).1 j).length + 1 ≤ 1048576 := by omega
            have hbz : w1.heap.size ≤ ((wr.alloc (.cells #[.int .i64 f, .slice B kk d, .bool false] 35)).alloc (.cells #[.int .i64 (j : Int)] 3)).heap.size := by
              simp; omega
            go_wp2_with (at_builtin; refine wpList_appI rfl _ _ rfl rfl o4 rfl s4 hln hbz ?_; intro v5 w5 h5 hg5 hat; have hat2 : v5.ownBlock = (Value.slice Ao (waitTo (lockR ms xs).1 j).length co).ownBlock ∨ v5.ownBlock = some ((wr.alloc (.cells #[.int .i64 f, .slice B kk d, .bool false] 35)).alloc (.cells #[.int .i64 (j : Int)] 3)).heap.size := hat)
            go_roundw
            case rel => exact ⟨j + 1, by go_num, by omega, by rw [HW.out, List.length_append]; exact h5, HD4.out.grown hg5 (fun q hq => HN.out q hq), fun q hq hs => by
              rcases hat2 with e | e
              · exact HN.out q (by rw [← e]; exact hq) hs
              · rw [e] at hq; injection hq with hq
                have := (HD.out.range q hs).2
                simp at hq; omega, by have := hg5.size; simp at this; omega, HB4.out.grown hg5 HB4.out.size (fun q hq => by have := (World.ownsRow.lt HO.out.1 q hq).1; have := HZ.out; omega)⟩
            case measure => simp [intOf]; omega
          · have hw := waitTo_no Hx.out (by unfold waitB; simp)
            have HW := hide hw
            clear hw
            go_wp2_with fail
            go_roundw
            case rel => exact ⟨j + 1, by go_num, by omega, by rw [HW.out]; exact HO.out.alloc _, HD.out.alloc _, HN.out, by simp; omega, HB.out.alloc HB.out.size _⟩
            case measure => simp [intOf]; omega
        · obtain rfl : kk = 0 := by omega
          have hw := waitTo_no Hx.out (by unfold waitB; simp [hyl])
          have HW := hide hw
          clear hw
          go_wp2_with fail
          go_roundw
          case rel => exact ⟨j + 1, by go_num, by omega, by rw [HW.out]; exact HO.out.alloc _, HD.out.alloc _, HN.out, by simp; omega, HB.out.alloc HB.out.size _⟩
          case measure => simp [intOf]; omega
      · obtain rfl : j = k := by omega
        go_wp2_with fail
        go_ret
        refine ⟨_, (waitTo (lockR ms xs).1 j).length, rfl, ?_, HB.out⟩
        have hz1 : waitL ms xs = waitTo (lockR ms xs).1 j := by unfold waitL; rw [F.out, hlen.out]
        rw [hz1]
        exact HO.out.mono (by have := HZ.out; omega)

end Go.Proofs.YtfcfhgophpoibaaDoor
