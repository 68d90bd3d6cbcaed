/- Contracts of the laws' own helpers on a struct of two []int (Shared). -/
import Derived.Test.YtcoienlblhbkpaaDoorLib2
namespace Go.Proofs.YtcoienlblhbkpaaDoor
open Go.RowKit

/-- What is left of a purse of rooms. -/
def szR (left n : Int) : Int := if n ≤ left then left - n else -1

theorem szR_le (left n : Int) (h0 : 0 ≤ left) (hn : 0 ≤ n) : -1 ≤ szR left n ∧ szR left n ≤ left := by unfold szR; split <;> omega
theorem szR_ok {left n : Int} (h : 0 ≤ szR left n) : n ≤ left ∧ szR left n = left - n := by
  unfold szR at *; split at h
  · rename_i hc; exact ⟨hc, by rw [if_pos hc]⟩
  · omega

set_option maxHeartbeats 400000 in
theorem szIntS_c {A : Option Addr} {n c : Nat} {left : Int} {w : World} (h0 : -1 ≤ left) (h1 : left ≤ 1048576) (hn : n ≤ maxLen) :
    Calls Tryd.prog 42 #[.slice A n c, .int .i64 left] w fun e w' => e = .returned (.int .i64 (szR left n)) ∧ w = w' := by
  unfold maxLen at hn
  by_cases h : (n : Int) ≤ left
  · have hf : szR left n = left - n := by simp [szR, h]
    have F := hide hf; clear hf
    go_enter Tryd.func42, Tryd.ntmps42
    go_wp2
    go_ret
    exact ⟨by rw [F.out]; rfl, rfl⟩
  · have hf : szR left n = -1 := by simp [szR, h]
    have F := hide hf; clear hf
    go_enter Tryd.func42, Tryd.ntmps42
    go_wp2
    go_ret
    exact ⟨by rw [F.out]; rfl, rfl⟩

set_option maxHeartbeats 400000 in
theorem szShared_c {A B : Option Addr} {n c m d : Nat} {left : Int} {w : World} (h0 : 0 ≤ left) (h1 : left ≤ 1048576) (hn : n ≤ maxLen) (hm : m ≤ maxLen) :
    Calls Tryd.prog 12 #[.agg #[.slice A n c, .slice B m d], .int .i64 left] w fun e w' => e = .returned (.int .i64 (szR left (n + m))) ∧ Below w.heap.size w w' := by
  by_cases h : (n : Int) ≤ left
  · have e1 : szR left n = left - n := by simp [szR, h]
    have E1 := hide e1; clear e1
    by_cases h2 : (m : Int) ≤ left - n
    · have e2 : szR (left - n) m = left - n - m := by simp [szR, h2]
      have hf : szR left (n + m) = left - n - m := by unfold szR; rw [if_pos (by omega)]; omega
      have E2 := hide e2; have F := hide hf; clear e2 hf
      go_enter Tryd.func12, Tryd.ntmps12
      go_wp2_with fail
      refine (szIntS_c (by omega) h1 hn).mono ?_
      rintro e w' ⟨rfl, rfl⟩
      rw [E1.out]
      go_wp2_with fail
      refine (szIntS_c (by omega) (by omega) hm).mono ?_
      rintro e w' ⟨rfl, rfl⟩
      rw [E2.out]
      go_wp2_with fail
      go_ret
      exact ⟨by rw [F.out]; rfl, (Below.refl _ _).alloc (Nat.le_refl _) _⟩
    · have e2 : szR (left - n) m = -1 := by simp [szR, h2]
      have hf : szR left (n + m) = -1 := by unfold szR; rw [if_neg (by omega)]
      have E2 := hide e2; have F := hide hf; clear e2 hf
      go_enter Tryd.func12, Tryd.ntmps12
      go_wp2_with fail
      refine (szIntS_c (by omega) h1 hn).mono ?_
      rintro e w' ⟨rfl, rfl⟩
      rw [E1.out]
      go_wp2_with fail
      refine (szIntS_c (by omega) (by omega) hm).mono ?_
      rintro e w' ⟨rfl, rfl⟩
      rw [E2.out]
      go_wp2_with fail
      go_ret
      exact ⟨by rw [F.out]; rfl, (Below.refl _ _).alloc (Nat.le_refl _) _⟩
  · have e1 : szR left n = -1 := by simp [szR, h]
    have hf : szR left (n + m) = -1 := by unfold szR; rw [if_neg (by omega)]
    have E1 := hide e1; have F := hide hf; clear e1 hf
    go_enter Tryd.func12, Tryd.ntmps12
    go_wp2_with fail
    refine (szIntS_c (by omega) h1 hn).mono ?_
    rintro e w' ⟨rfl, rfl⟩
    rw [E1.out]
    go_wp2_with fail
    go_ret
    exact ⟨by rw [F.out]; rfl, (Below.refl _ _).alloc (Nat.le_refl _) _⟩

set_option maxHeartbeats 1000000 in
theorem toShared_c {u v : Value} {n m : Nat} {xs ys : List Int} {w : World} (hu : SI w u n xs) (hv : SI w v m ys) :
    Calls Tryd.prog 14 #[.agg #[u, v]] w (RetP w xs ys) := by
  have su := hu; have sv := hv
  obtain ⟨A, c, rfl, _, _, _⟩ := hu
  obtain ⟨B, d, rfl, _, _, _⟩ := hv
  go_enter Tryd.func14, Tryd.ntmps14
  go_wp2_with fail
  refine (toIntS_c (su.below (((((Below.refl _ _).alloc (Nat.le_refl _) _).alloc (by simp) _)).alloc (by simp; omega) _))).mono ?_
  rintro e w1 ⟨v1, rfl, o1, b1⟩
  obtain ⟨A1, c1, rfl⟩ := o1.shape
  have B1 : Below w.heap.size w w1 := (((((Below.refl _ _).alloc (Nat.le_refl _) _).alloc (by simp) _)).alloc (by simp; omega) _).trans (b1.mono (by simp; omega))
  have hz1 : w.heap.size + 3 ≤ w1.heap.size := by have := b1.size; simp at this; omega
  have K2 := (Blk.new ((w.alloc (.cells #[.slice A n c, .slice B m d] 24)).alloc (.cells #[.slice none 0 0, .slice none 0 0] 27)) 27 #[.slice none 0 0, .slice none 0 0]).belowAll b1
  have K1 := ((Blk.new (w.alloc (.cells #[.slice A n c, .slice B m d] 24)) 27 #[.slice none 0 0, .slice none 0 0]).alloc (.cells #[.slice none 0 0, .slice none 0 0] 27)).belowAll b1
  have K0 := (((Blk.new w 24 #[.slice A n c, .slice B m d]).alloc (.cells #[.slice none 0 0, .slice none 0 0] 27)).alloc (.cells #[.slice none 0 0, .slice none 0 0] 27)).belowAll b1
  simp only [World.size_alloc] at K1 K2 o1
  have K0' := K0.far (p := ⟨w.heap.size + 1 + 1, 0, none⟩) (by simp; omega) (.slice A1 n c1)
  have K1' := K1.far (p := ⟨w.heap.size + 1 + 1, 0, none⟩) (by simp) (.slice A1 n c1)
  have K2' := K2.set_ 0 (.slice A1 n c1)
  have o1' := o1.set_low (p := ⟨w.heap.size + 1 + 1, 0, none⟩) (by simp) (.slice A1 n c1)
  have B1' := below_setCell_self B1 (p := ⟨w.heap.size + 1 + 1, 0, none⟩) (by simp; omega) (.slice A1 n c1)
  obtain ⟨p0, p1, p2, p3⟩ := K2.two
  obtain ⟨q0, q1, _, _⟩ := K0'.two
  clear K0 K1 K2
  go_wp2_with fail
  refine (toIntS_c (sv.below B1')).mono ?_
  rintro e w2 ⟨v2, rfl, o2, b2⟩
  obtain ⟨A2, c2, rfl⟩ := o2.shape
  have ap := OI.apart o1' o2
  have o1'' := o1'.below b2
  have K1'' := K1'.belowAll b2
  have K2'' := K2'.belowAll b2
  have B2 := below_step B1' b2
  have hz2 : w1.heap.size ≤ w2.heap.size := by have := b2.size; simpa [World.setCell] using this
  simp only [size_setCell] at o2
  obtain ⟨p0, p1, p2, p3⟩ := K2''.two
  have K1s := K1''.far (p := ⟨w.heap.size + 1 + 1, 1, none⟩) (by simp) (.slice A2 m c2)
  obtain ⟨r0, r1, r2, r3⟩ := K1s.two
  clear q0 q1
  go_wp2_with fail
  have Kf := (K1s.set_ 0 (.slice A1 n c1)).set_ 1 (.slice A2 m c2)
  obtain ⟨t0, t1, _, _⟩ := Kf.two
  refine bodyPost_ret (v := .agg #[.slice A1 n c1, .slice A2 m c2]) (by simp [results, Tryd.results14, go_sem, t0, t1]) rfl ⟨A1, n, c1, A2, m, c2, rfl, ?_, ?_, ap, ?_⟩
  · exact (((o1''.set_low (by simp) _).set_low (by simp) _).set_low (by simp) _).mono (by omega)
  · exact (((o2.set_low (by simp; omega) _).set_low (by simp; omega) _).set_low (by simp; omega) _).mono (by omega)
  · exact ((B2.setCell (by simp; omega) _).setCell (by simp) _).setCell (by simp) _

set_option maxHeartbeats 1000000 in
theorem eqShared_c {u v u' v' : Value} {n m n' m' : Nat} {xs ys xs' ys' : List Int} {w : World} (hu : SI w u n xs) (hv : SI w v m ys) (hu' : SI w u' n' xs') (hv' : SI w v' m' ys') :
    Calls Tryd.prog 17 #[.agg #[u, v], .agg #[u', v']] w fun e w' => e = .returned (.bool (decide (xs = xs') && decide (ys = ys'))) ∧ Below w.heap.size w w' := by
  obtain ⟨A, c, rfl⟩ := hu.shape
  obtain ⟨B, d, rfl⟩ := hv.shape
  obtain ⟨A', c', rfl⟩ := hu'.shape
  obtain ⟨B', d', rfl⟩ := hv'.shape
  have B0 : Below w.heap.size w ((w.alloc (.cells #[.slice A n c, .slice B m d] 27)).alloc (.cells #[.slice A' n' c', .slice B' m' d'] 27)) := ((Below.refl _ _).alloc (Nat.le_refl _) _).alloc (by simp) _
  have K0 := (Blk.new w 27 #[.slice A n c, .slice B m d]).alloc (.cells #[.slice A' n' c', .slice B' m' d'] 27)
  have K1 := Blk.new (w.alloc (.cells #[.slice A n c, .slice B m d] 27)) 27 #[.slice A' n' c', .slice B' m' d']
  simp only [World.size_alloc] at K1
  by_cases hx : xs = xs'
  · by_cases hy : ys = ys'
    · subst hx; subst hy
      go_enter Tryd.func17, Tryd.ntmps17
      go_wp2_with fail
      refine (eqIntS_c (hu.below B0) (hu'.below B0)).mono ?_
      rintro e w1 ⟨rfl, b1⟩
      have B1 := B0.trans (b1.mono (by simp; omega))
      obtain ⟨p0, p1, _, _⟩ := (K0.belowAll b1).two
      obtain ⟨q0, q1, _, _⟩ := (K1.belowAll b1).two
      go_wp2_with fail
      refine (eqIntS_c (hv.below B1) (hv'.below B1)).mono ?_
      rintro e w2 ⟨rfl, b2⟩
      go_wp2_with fail
      go_ret
      exact ⟨by simp, below_step B1 b2⟩
    · subst hx
      have Hy := hide hy; clear hy
      go_enter Tryd.func17, Tryd.ntmps17
      go_wp2_with fail
      refine (eqIntS_c (hu.below B0) (hu'.below B0)).mono ?_
      rintro e w1 ⟨rfl, b1⟩
      have B1 := B0.trans (b1.mono (by simp; omega))
      obtain ⟨p0, p1, _, _⟩ := (K0.belowAll b1).two
      obtain ⟨q0, q1, _, _⟩ := (K1.belowAll b1).two
      go_wp2_with fail
      refine (eqIntS_c (hv.below B1) (hv'.below B1)).mono ?_
      rintro e w2 ⟨rfl, b2⟩
      rw [decide_eq_false Hy.out]
      go_wp2_with fail
      go_ret
      exact ⟨by have h := Hy.out; simp [h], below_step B1 b2⟩
  · have Hx := hide hx; clear hx
    go_enter Tryd.func17, Tryd.ntmps17
    go_wp2_with fail
    refine (eqIntS_c (hu.below B0) (hu'.below B0)).mono ?_
    rintro e w1 ⟨rfl, b1⟩
    have B1 := B0.trans (b1.mono (by simp; omega))
    rw [decide_eq_false Hx.out]
    go_wp2_with fail
    go_ret
    exact ⟨by have h := Hx.out; simp [h], B1⟩

end Go.Proofs.YtcoienlblhbkpaaDoor
