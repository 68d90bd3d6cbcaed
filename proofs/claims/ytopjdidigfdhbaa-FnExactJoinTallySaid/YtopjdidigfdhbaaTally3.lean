/- Contracts of the tallies: JoinTally of both. -/
import Derived.Test.YtopjdidigfdhbaaTally2
import Derived.RegionCalls
import Derived.Deep.RegionWith
namespace Go.Proofs.Ytopjdidigfdhbaa
open Go.RowKit

def jtU (xs ys xs' ys' : List Int) : List Int := if tallyB xs ys && tallyB xs' ys' then joinL xs xs' else []
def jtD (xs ys xs' ys' : List Int) : List Int := if tallyB xs ys && tallyB xs' ys' then joinL ys ys' else []

set_option maxHeartbeats 2000000 in
theorem impl_JoinTally_c {u v u' v' : Value} {n m n' m' : Nat} {xs ys xs' ys' : List Int} {w : World} (hu : SI w u n xs) (hv : SI w v m ys) (hu' : SI w u' n' xs') (hv' : SI w v' m' ys') :
    Calls Try.prog 9 #[.agg #[u, v], .agg #[u', v']] w (RetP w (jtU xs ys xs' ys') (jtD xs ys xs' ys')) := by
  obtain ⟨A, c, rfl⟩ := hu.shape
  obtain ⟨B, d, rfl⟩ := hv.shape
  obtain ⟨A', c', rfl⟩ := hu'.shape
  obtain ⟨B', d', rfl⟩ := hv'.shape
  have B0 : Below w.heap.size w (((w.alloc (.cells #[.slice A n c, .slice B m d] 26)).alloc (.cells #[.slice A' n' c', .slice B' m' d'] 26)).alloc (.cells #[.slice none 0 0, .slice none 0 0] 26)) := (((Below.refl _ _).alloc (Nat.le_refl _) _).alloc (by simp) _).alloc (by simp; omega) _
  have K2 := ((Blk.new w 26 #[.slice A n c, .slice B m d]).alloc (.cells #[.slice A' n' c', .slice B' m' d'] 26)).alloc (.cells #[.slice none 0 0, .slice none 0 0] 26)
  have K3 := (Blk.new (w.alloc (.cells #[.slice A n c, .slice B m d] 26)) 26 #[.slice A' n' c', .slice B' m' d']).alloc (.cells #[.slice none 0 0, .slice none 0 0] 26)
  have K4 := Blk.new ((w.alloc (.cells #[.slice A n c, .slice B m d] 26)).alloc (.cells #[.slice A' n' c', .slice B' m' d'] 26)) 26 #[.slice none 0 0, .slice none 0 0]
  simp only [World.size_alloc] at K3 K4
  cases hT : tallyB xs ys
  · have f1 : jtU xs ys xs' ys' = [] := by simp [jtU, hT]
    have f2 : jtD xs ys xs' ys' = [] := by simp [jtD, hT]
    have F1 := hide f1; have F2 := hide f2; have HT := hide hT; clear f1 f2 hT
    go_enter Try.func9, Try.ntmps9
    go_wp2_with fail
    refine (impl_TallyValid_c (hu.below B0) (hv.below B0)).mono ?_
    rintro e w1 ⟨rfl, b1⟩
    rw [HT.out]
    have B1 := B0.trans (b1.mono (by simp; omega))
    have K4' := K4.belowAll b1
    obtain ⟨p0, p1, p2, p3⟩ := K4'.two
    go_wp2_with fail
    have Kf := (K4'.set_ 0 (.slice none 0 0)).set_ 1 (.slice none 0 0)
    obtain ⟨t0, t1, _, _⟩ := Kf.two
    exact bodyPost_ret (v := .agg #[.slice none 0 0, .slice none 0 0]) (by simp [results, Try.results9, go_sem, t0, t1]) rfl ⟨none, 0, 0, none, 0, 0, rfl, by rw [F1.out]; exact OI.nil, by rw [F2.out]; exact OI.nil, .inl rfl, (B1.setCell (by simp; omega) _).setCell (by simp; omega) _⟩
  · cases hT' : tallyB xs' ys'
    · have f1 : jtU xs ys xs' ys' = [] := by simp [jtU, hT']
      have f2 : jtD xs ys xs' ys' = [] := by simp [jtD, hT']
      have F1 := hide f1; have F2 := hide f2; have HT := hide hT; have HT' := hide hT'; clear f1 f2 hT hT'
      go_enter Try.func9, Try.ntmps9
      go_wp2_with fail
      refine (impl_TallyValid_c (hu.below B0) (hv.below B0)).mono ?_
      rintro e w1 ⟨rfl, b1⟩
      rw [HT.out]
      have B1 := B0.trans (b1.mono (by simp; omega))
      have K3' := K3.belowAll b1
      have K4' := K4.belowAll b1
      obtain ⟨q0, q1, _, _⟩ := K3'.two
      go_wp2_with fail
      refine (impl_TallyValid_c (hu'.below B1) (hv'.below B1)).mono ?_
      rintro e w2 ⟨rfl, b2⟩
      rw [HT'.out]
      have B2 := below_step B1 b2
      have K4'' := K4'.belowAll b2
      obtain ⟨p0, p1, p2, p3⟩ := K4''.two
      clear q0 q1
      go_wp2_with fail
      have Kf := (K4''.set_ 0 (.slice none 0 0)).set_ 1 (.slice none 0 0)
      obtain ⟨t0, t1, _, _⟩ := Kf.two
      exact bodyPost_ret (v := .agg #[.slice none 0 0, .slice none 0 0]) (by simp [results, Try.results9, go_sem, t0, t1]) rfl ⟨none, 0, 0, none, 0, 0, rfl, by rw [F1.out]; exact OI.nil, by rw [F2.out]; exact OI.nil, .inl rfl, (B2.setCell (by simp; omega) _).setCell (by simp; omega) _⟩
    · have f1 : jtU xs ys xs' ys' = joinL xs xs' := by simp [jtU, hT, hT']
      have f2 : jtD xs ys xs' ys' = joinL ys ys' := by simp [jtD, hT, hT']
      have F1 := hide f1; have F2 := hide f2; have HT := hide hT; have HT' := hide hT'; clear f1 f2 hT hT'
      go_enter Try.func9, Try.ntmps9
      go_wp2_with fail
      refine (impl_TallyValid_c (hu.below B0) (hv.below B0)).mono ?_
      rintro e w1 ⟨rfl, b1⟩
      rw [HT.out]
      have B1 := B0.trans (b1.mono (by simp; omega))
      have K2' := K2.belowAll b1
      have K3' := K3.belowAll b1
      have K4' := K4.belowAll b1
      obtain ⟨q0, q1, _, _⟩ := K3'.two
      go_wp2_with fail
      refine (impl_TallyValid_c (hu'.below B1) (hv'.below B1)).mono ?_
      rintro e w2 ⟨rfl, b2⟩
      rw [HT'.out]
      have B2 := below_step B1 b2
      have K2'' := K2'.belowAll b2
      have K3'' := K3'.belowAll b2
      have K4'' := K4'.belowAll b2
      have su2 := hu.below B2; have sv2 := hv.below B2; have su2' := hu'.below B2; have sv2' := hv'.below B2
      obtain ⟨a0, a1, _, _⟩ := K2''.two
      obtain ⟨c0, c1, _, _⟩ := K3''.two
      clear q0 q1 K2 K3 K4 K2' K3' K4'
      go_wp2_with fail
      have hz2 : w.heap.size + 3 ≤ w2.heap.size := by have := b1.size; have := b2.size; simp at *; omega
      go_region_held3 (fun W => W.cell? ⟨w.heap.size, 0, none⟩ = some (.slice A n c) ∧ W.cell? ⟨w.heap.size, 1, none⟩ = some (.slice B m d) ∧ W.cell? ⟨w.heap.size + 1, 0, none⟩ = some (.slice A' n' c') ∧ W.cell? ⟨w.heap.size + 1, 1, none⟩ = some (.slice B' m' d'))
        (first | (go_keep; done) | (go_split_ands; refine ⟨?_, ?_, ?_, ?_⟩ <;> (rw [cell_set2 (by omega)]; assumption)) | (go_split_ands; refine ⟨?_, ?_, ?_, ?_⟩ <;> (rw [bb.cell (by have := ba.size; simp at this ⊢; omega)]; assumption)) | (go_split_ands; refine ⟨?_, ?_, ?_, ?_⟩ <;> (rw [ba.cell (by simp; omega)]; assumption)))
        (first | (go_at_call_of 30 (Value.slice A n c); refine (impl_ClockJoin_c su2.drew su2'.drew).mono ?_; rintro e wa ⟨ra, ka, rfl, oa, ba⟩; obtain ⟨Ra, ca, rfl⟩ := oa.shape) | (go_at_call_of 30 (Value.slice B m d); refine (impl_ClockJoin_c (sv2.drew.below ba) (sv2'.drew.below ba)).mono ?_; rintro e wb ⟨rb, kb, rfl, ob, bb⟩; obtain ⟨Rb, cb, rfl⟩ := ob.shape; obtain ⟨e0, e1, e2, e3⟩ := ((K4''.drew.belowAll ba).belowAll bb).two))
      go_wp2_with fail
      have ap := OI.apart oa ob
      have K5 := ((K4''.drew.belowAll ba).belowAll bb)
      have Kf := (K5.set_ 0 (.slice Ra ka ca)).set_ 1 (.slice Rb kb cb)
      obtain ⟨t0, t1, _, _⟩ := Kf.two
      have hza := ba.size; have hzb := bb.size
      simp at hza
      refine bodyPost_ret (v := .agg #[.slice Ra ka ca, .slice Rb kb cb]) (by simp [results, Try.results9, go_sem, t0, t1]) rfl ⟨Ra, ka, ca, Rb, kb, cb, rfl, ?_, ?_, ap, ?_⟩
      · rw [F1.out]; exact (((oa.below bb).set_low (by simp; omega) _).set_low (by simp; omega) _).mono (by simp; omega)
      · rw [F2.out]; exact ((ob.set_low (by simp; omega) _).set_low (by simp; omega) _).mono (by omega)
      · exact ((((B2.drew.trans (ba.mono (by simp; omega))).trans (bb.mono (by omega))).setCell (by simp; omega) _).setCell (by simp; omega) _)

end Go.Proofs.Ytopjdidigfdhbaa
