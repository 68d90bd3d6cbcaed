/- sameTally; the plain laws of counted and joined tallies. -/
import Derived.Test.YtopjdidigfdhbaaDoorSame
import Derived.Test.YtopjdidigfdhbaaDoorClockP
import Derived.Test.YtopjdidigfdhbaaDoorTally5
namespace Go.Proofs.YtopjdidigfdhbaaDoor
open Go.RowKit

set_option maxHeartbeats 2000000 in
theorem sameTally_c {u v u' v' : Value} {n m n' m' : Nat} {xs ys xs' ys' : List Int} {w : World} (hu : SI w u n xs) (hv : SI w v m ys) (hu' : SI w u' n' xs') (hv' : SI w v' m' ys') :
    Calls Tryd.prog 24 #[.agg #[u, v], .agg #[u', v']] w fun e w' => e = .returned (.bool (decide (xs = xs') && decide (ys = ys'))) ∧ Below w.heap.size w w' := by
  obtain ⟨A, c, rfl⟩ := hu.shape
  obtain ⟨B, d, rfl⟩ := hv.shape
  obtain ⟨A', c', rfl⟩ := hu'.shape
  obtain ⟨B', d', rfl⟩ := hv'.shape
  have B0 : Below w.heap.size w ((w.alloc (.cells #[.slice A n c, .slice B m d] 43)).alloc (.cells #[.slice A' n' c', .slice B' m' d'] 43)) := ((Below.refl _ _).alloc (Nat.le_refl _) _).alloc (by simp) _
  have K0 := (Blk.new w 43 #[.slice A n c, .slice B m d]).alloc (.cells #[.slice A' n' c', .slice B' m' d'] 43)
  have K1 := Blk.new (w.alloc (.cells #[.slice A n c, .slice B m d] 43)) 43 #[.slice A' n' c', .slice B' m' d']
  simp only [World.size_alloc] at K1
  obtain ⟨p, hp⟩ : ∃ p, decide (xs = xs') = p := ⟨_, rfl⟩
  obtain ⟨q, hq⟩ : ∃ q, decide (ys = ys') = q := ⟨_, rfl⟩
  rw [hp, hq]
  have HP := hide hp; have HQ := hide hq; clear hp hq
  go_enter Tryd.func24, Tryd.ntmps24
  go_wp2_with fail
  refine (sameInts_c (hu.below B0) (hu'.below B0)).mono ?_
  rintro e w1 ⟨rfl, b1⟩
  rw [HP.out]
  have B1 := below_step B0 b1
  obtain ⟨p0, p1, _, _⟩ := (K0.belowAll b1).two
  obtain ⟨q0, q1, _, _⟩ := (K1.belowAll b1).two
  cases p
  · go_wp2_with fail
    go_ret
    exact ⟨rfl, B1⟩
  · go_wp2_with fail
    refine (sameInts_c (hv.below B1) (hv'.below B1)).mono ?_
    rintro e w2 ⟨rfl, b2⟩
    rw [HQ.out]
    go_wp2_with fail
    go_ret
    exact ⟨by cases q <;> rfl, below_step B1 b2⟩

theorem tsum4 (a b c d a' b' c' d' : Int) : tsum [a, b, c, d] [a', b', c', d'] = (a - a') + (b - b') + (c - c') + (d - d') := by simp [tsum]; omega
theorem step_form {xs : List Int} {at_ : Int} (h : stepOk xs at_ = true) : clockB (stepL xs at_) = true ∧ clockB xs = true ∧ ∀ ys, clockB ys = true → tsum (stepL xs at_) ys = tsum xs ys + 1 ∧ tsum ys (stepL xs at_) = tsum ys xs - 1 := by
  have h0 := h
  unfold stepOk at h0
  simp only [Bool.and_eq_true, Bool.not_eq_true', decide_eq_false_iff_not] at h0
  obtain ⟨⟨hc, hp⟩, hne⟩ := h0
  obtain ⟨a, b, c, d, rfl, ha, hb, hcc, hd⟩ := clock_form hc
  have hs : stepL [a, b, c, d] at_ = [a, b, c, d].set at_.toNat ([a, b, c, d][at_.toNat]?.getD 0 + 1) := by simp [stepL, hc, h]
  rw [hs]
  rcases inB_place hp with rfl | rfl | rfl | rfl
  · simp at hne
    refine ⟨clockB_mk (a := a + 1) (by omega) hb hcc hd, hc, fun ys hy => ?_⟩
    obtain ⟨a', b', c', d', rfl, _⟩ := clock_form hy
    constructor
    · show tsum [a + 1, b, c, d] _ = _; rw [tsum4, tsum4]; omega
    · show tsum _ [a + 1, b, c, d] = _; rw [tsum4, tsum4]; omega
  · simp at hne
    refine ⟨clockB_mk (b := b + 1) ha (by omega) hcc hd, hc, fun ys hy => ?_⟩
    obtain ⟨a', b', c', d', rfl, _⟩ := clock_form hy
    constructor
    · show tsum [a, b + 1, c, d] _ = _; rw [tsum4, tsum4]; omega
    · show tsum _ [a, b + 1, c, d] = _; rw [tsum4, tsum4]; omega
  · simp at hne
    refine ⟨clockB_mk (c := c + 1) ha hb (by omega) hd, hc, fun ys hy => ?_⟩
    obtain ⟨a', b', c', d', rfl, _⟩ := clock_form hy
    constructor
    · show tsum [a, b, c + 1, d] _ = _; rw [tsum4, tsum4]; omega
    · show tsum _ [a, b, c + 1, d] = _; rw [tsum4, tsum4]; omega
  · simp at hne
    refine ⟨clockB_mk (d := d + 1) ha hb hcc (by omega), hc, fun ys hy => ?_⟩
    obtain ⟨a', b', c', d', rfl, _⟩ := clock_form hy
    constructor
    · show tsum [a, b, c, d + 1] _ = _; rw [tsum4, tsum4]; omega
    · show tsum _ [a, b, c, d + 1] = _; rw [tsum4, tsum4]; omega
theorem before_refl {xs : List Int} (h : clockB xs = true) : beforeB xs xs = true := by
  obtain ⟨a, b, c, d, rfl, _⟩ := clock_form h
  rw [before4 h h]; simp
theorem cnt_no {xs ys : List Int} {who : Int} {up : Bool} (h : cntOk xs ys who up = false) : (ctU xs ys who up = xs ∧ ctD xs ys who up = ys) ∨ ctU xs ys who up = [] := by
  unfold cntOk at h
  cases ht : (tallyB xs ys && inB who 0 3)
  · right; simp [ctU, ht]
  · left
    rw [ht] at h
    have hx : clockB xs = true ∧ clockB ys = true := by
      simp only [Bool.and_eq_true] at ht; have := ht.1; unfold tallyB at this; simpa using this
    cases up
    · simp at h; simp [ctU, ctD, ht, stepL, hx.2, h]
    · simp at h; simp [ctU, ctD, ht, stepL, hx.1, h]
theorem cnt_yes {xs ys : List Int} {who : Int} {up : Bool} (h : cntOk xs ys who up = true) :
    tallyN (ctU xs ys who up) (ctD xs ys who up) = tallyN xs ys + (if up then 1 else -1) ∧ beforeB xs (ctU xs ys who up) = true ∧ beforeB ys (ctD xs ys who up) = true := by
  unfold cntOk at h
  simp only [Bool.and_eq_true] at h
  obtain ⟨⟨ht, hw⟩, hs⟩ := h
  have hx : clockB xs = true ∧ clockB ys = true := by unfold tallyB at ht; simpa using ht
  cases up
  · simp only [Bool.false_eq_true, if_false] at hs
    obtain ⟨h1, _, h3⟩ := step_form hs
    have e1 : ctU xs ys who false = xs := by simp [ctU, ht, hw]
    have e2 : ctD xs ys who false = stepL ys who := by simp [ctD, ht, hw]
    rw [e1, e2]
    refine ⟨?_, before_refl hx.1, (step_law hs).1⟩
    unfold tallyN
    rw [if_pos ht, if_pos (by unfold tallyB; rw [hx.1, h1]; rfl), (h3 xs hx.1).2]; simp; omega
  · simp only [if_true] at hs
    obtain ⟨h1, _, h3⟩ := step_form hs
    have e1 : ctU xs ys who true = stepL xs who := by simp [ctU, ht, hw]
    have e2 : ctD xs ys who true = ys := by simp [ctD, ht, hw]
    rw [e1, e2]
    refine ⟨?_, (step_law hs).1, before_refl hx.2⟩
    unfold tallyN
    rw [if_pos ht, if_pos (by unfold tallyB; rw [h1, hx.2]; rfl), (h3 ys hx.2).1]; simp
theorem join_le {xs ys : List Int} (hx : clockB xs = true) (hy : clockB ys = true) (h : beforeB xs ys = true) : joinL ys xs = ys := by
  obtain ⟨a, b, c, d, rfl, _⟩ := clock_form hx
  obtain ⟨a', b', c', d', rfl, _⟩ := clock_form hy
  rw [before4 hx hy] at h
  simp only [Bool.and_eq_true, decide_eq_true_eq] at h
  rw [join4 hy hx]
  have e : ∀ x y : Int, x ≤ y → mx y x = y := fun x y h => by unfold mx; split <;> omega
  rw [e a a' h.1, e b b' h.2.1, e c c' h.2.2.1, e d d' h.2.2.2]
theorem jt_comm (xs ys xs' ys' : List Int) : jtU xs' ys' xs ys = jtU xs ys xs' ys' ∧ jtD xs' ys' xs ys = jtD xs ys xs' ys' := by
  unfold jtU jtD; rw [Bool.and_comm, join_comm xs xs', join_comm ys ys']; exact ⟨rfl, rfl⟩
theorem jt_law {xs ys xs' ys' : List Int} (h : (tallyB xs ys && tallyB xs' ys') = true) :
    tallyB (jtU xs ys xs' ys') (jtD xs ys xs' ys') = true ∧ jtU (jtU xs ys xs' ys') (jtD xs ys xs' ys') xs ys = jtU xs ys xs' ys' ∧ jtD (jtU xs ys xs' ys') (jtD xs ys xs' ys') xs ys = jtD xs ys xs' ys' ∧ (jtU xs ys xs' ys').length = 4 := by
  have h0 := h
  simp only [Bool.and_eq_true] at h0
  obtain ⟨h1, h2⟩ := h0
  have e1 : jtU xs ys xs' ys' = joinL xs xs' := by unfold jtU; rw [h]; rfl
  have e2 : jtD xs ys xs' ys' = joinL ys ys' := by unfold jtD; rw [h]; rfl
  have t1 := h1; have t2 := h2
  unfold tallyB at t1 t2
  simp only [Bool.and_eq_true] at t1 t2
  obtain ⟨a1, a2, a3, a4, _, _, a7, _⟩ := join_law (xs := xs) (ys := xs') (by rw [t1.1, t2.1]; rfl)
  obtain ⟨c1, c2, c3, c4, _, _, _, _⟩ := join_law (xs := ys) (ys := ys') (by rw [t1.2, t2.2]; rfl)
  rw [e1, e2]
  have ht : tallyB (joinL xs xs') (joinL ys ys') = true := by unfold tallyB; rw [a1, c1]; rfl
  exact ⟨ht, by unfold jtU; rw [ht, h1]; exact a4, by unfold jtD; rw [ht, h1]; exact c4, a7⟩
theorem jt_cnt {xs ys : List Int} {who : Int} {up : Bool} (h : cntOk xs ys who up = true) :
    jtU (ctU xs ys who up) (ctD xs ys who up) xs ys = ctU xs ys who up ∧ jtD (ctU xs ys who up) (ctD xs ys who up) xs ys = ctD xs ys who up := by
  obtain ⟨_, b1, b2⟩ := cnt_yes h
  have t1 : beforeB xs (ctU xs ys who up) = true := b1
  have t2 := b2
  unfold beforeB at t1 t2
  simp only [Bool.and_eq_true] at t1 t2
  have ht : (tallyB (ctU xs ys who up) (ctD xs ys who up) && tallyB xs ys) = true := by unfold tallyB; rw [t1.1.1, t1.1.2, t2.1.1, t2.1.2]; rfl
  refine ⟨?_, ?_⟩
  · unfold jtU; rw [ht]; exact join_le t1.1.1 t1.1.2 b1
  · unfold jtD; rw [ht]; exact join_le t2.1.1 t2.1.2 b2

end Go.Proofs.YtopjdidigfdhbaaDoor
