/- Contracts of the tallies: the reference's copy, JoinTally of the reference. -/
import Derived.Test.YtopjdidigfdhbaaTally3
namespace Go.Proofs.Ytopjdidigfdhbaa
open Go.RowKit

theorem Blk.after_app {w w' : World} {g B : Nat} {t : TypeId} {cs : Array Value} {v : Value} {n : Nat} {xs : List Int} (h : Blk w g t cs) (hg : w.grownBy w' v.ownBlock) (ho : OI w B v n xs) (hB : g < B) : Blk w' g t cs := h.grown hg (ho.far hB)

set_option maxHeartbeats 2000000 in
theorem l1OwnTally_c {u v : Value} {n m : Nat} {xs ys : List Int} {w : World} (hu : SI w u n xs) (hv : SI w v m ys) :
    Calls Try.prog 25 #[.agg #[u, v]] w (RetP w xs ys) := by
  have hn := hu.bd; have hm := hv.bd
  obtain ⟨A, c, rfl⟩ := hu.shape
  obtain ⟨B, d, rfl⟩ := hv.shape
  have B0 : Below w.heap.size w (((w.alloc (.cells #[.slice A n c, .slice B m d] 26)).alloc (.cells #[.slice none 0 0, .slice none 0 0] 26)).alloc (.cells #[.slice A n c, .slice B m d] 26)) := (((Below.refl _ _).alloc (Nat.le_refl _) _).alloc (by simp) _).alloc (by simp; omega) _
  have K1 := ((Blk.new w 26 #[.slice A n c, .slice B m d]).alloc (.cells #[.slice none 0 0, .slice none 0 0] 26)).alloc (.cells #[.slice A n c, .slice B m d] 26)
  have K2 := (Blk.new (w.alloc (.cells #[.slice A n c, .slice B m d] 26)) 26 #[.slice none 0 0, .slice none 0 0]).alloc (.cells #[.slice A n c, .slice B m d] 26)
  have K3 := Blk.new ((w.alloc (.cells #[.slice A n c, .slice B m d] 26)).alloc (.cells #[.slice none 0 0, .slice none 0 0] 26)) 26 #[.slice A n c, .slice B m d]
  simp only [World.size_alloc] at K2 K3
  have oe : OI ((((w.alloc (.cells #[.slice A n c, .slice B m d] 26)).alloc (.cells #[.slice none 0 0, .slice none 0 0] 26)).alloc (.cells #[.slice A n c, .slice B m d] 26)).alloc (.cells #[] 3)) (w.heap.size + 1 + 1 + 1) (.slice (some ⟨w.heap.size + 1 + 1 + 1, 0, none⟩) 0 0) 0 [] := by
    have := OI.empty (((w.alloc (.cells #[.slice A n c, .slice B m d] 26)).alloc (.cells #[.slice none 0 0, .slice none 0 0] 26)).alloc (.cells #[.slice A n c, .slice B m d] 26))
    simpa using this
  have su1 := (hu.below B0).alloc (.cells #[] 3)
  have sv1 := (hv.below B0).alloc (.cells #[] 3)
  have K1e := K1.alloc (.cells #[] 3); have K2e := K2.alloc (.cells #[] 3); have K3e := K3.alloc (.cells #[] 3)
  have B1 : Below w.heap.size w ((((w.alloc (.cells #[.slice A n c, .slice B m d] 26)).alloc (.cells #[.slice none 0 0, .slice none 0 0] 26)).alloc (.cells #[.slice A n c, .slice B m d] 26)).alloc (.cells #[] 3)) := B0.alloc (by simp; omega) _
  clear K1 K2 K3 B0
  go_enter Try.func25, Try.ntmps25
  go_wp2_with (first
    | (at_builtin
       refine wpList_appI rfl (.tmp 5) (.tmp 7) rfl rfl oe rfl su1 (by omega) (by simp) ?_
       intro v1 w1 ho hg hat
       simp only [Nat.zero_add, List.nil_append] at ho
       obtain ⟨A1, c1, rfl⟩ := ho.shape
       have K1w := K1e.after_app hg oe (by omega)
       have K2w := K2e.after_app hg oe (by omega)
       have K3w := K3e.after_app hg oe (by omega)
       obtain ⟨p0, p1, p2, p3⟩ := K3w.two
       have hz1 : w.heap.size + 4 ≤ w1.heap.size := by have := hg.size; simp at this; omega
       have K1x := (K1w.far (p := ⟨w.heap.size + 1 + 1, 0, none⟩) (by simp; omega) (.slice A1 n c1)).alloc (.cells #[] 3)
       have K2x := (K2w.far (p := ⟨w.heap.size + 1 + 1, 0, none⟩) (by simp) (.slice A1 n c1)).alloc (.cells #[] 3)
       have K3x := (K3w.set_ 0 (.slice A1 n c1)).alloc (.cells #[] 3)
       obtain ⟨q0, q1, _, _⟩ := K1x.two
       have ho2 := (ho.set_low (p := ⟨w.heap.size + 1 + 1, 0, none⟩) (by simp) (.slice A1 n c1)).alloc (.cells #[] 3)
       have B2 := ((below_app B1 oe (by omega) hg).setCell (p := ⟨w.heap.size + 1 + 1, 0, none⟩) (by simp; omega) (.slice A1 n c1)).alloc (by simp; omega) (.cells #[] 3)
       have sv2 := hv.below B2
       have oe2 : OI ((w1.setCell ⟨w.heap.size + 1 + 1, 0, none⟩ (.slice A1 n c1)).alloc (.cells #[] 3)) w1.heap.size (.slice (some ⟨w1.heap.size, 0, none⟩) 0 0) 0 [] := by
         have := OI.empty (w1.setCell ⟨w.heap.size + 1 + 1, 0, none⟩ (.slice A1 n c1))
         simpa [size_setCell] using this
       clear K1w K2w K3w K1x)
    | (at_builtin
       refine wpList_appI rfl (.tmp 10) (.tmp 12) rfl rfl oe2 rfl sv2 (by omega) (by simp) ?_
       intro v2 w2 ho3 hg2 hat2
       simp only [Nat.zero_add, List.nil_append] at ho3
       obtain ⟨A2, c2, rfl⟩ := ho3.shape
       have K2y := K2x.after_app hg2 oe2 (by omega)
       have K3y := K3x.after_app hg2 oe2 (by omega)
       obtain ⟨r0, r1, r2, r3⟩ := K3y.two
       have K2z := K2y.far (p := ⟨w.heap.size + 1 + 1, 1, none⟩) (by simp) (.slice A2 m c2)
       have K3z := K3y.set_ 1 (.slice A2 m c2)
       obtain ⟨s0, s1, s2, s3⟩ := K2z.two))
  have Kf := (K2z.set_ 0 (.slice A1 n c1)).set_ 1 (.slice A2 m c2)
  obtain ⟨t0, t1, _, _⟩ := Kf.two
  have hz2 : w1.heap.size + 1 ≤ w2.heap.size := by have := hg2.size; simp at this; omega
  have apt : Apart (.slice A1 n c1) (.slice A2 m c2) := by
    have h1 : Apart (.slice A1 n c1) (.slice (some ⟨w1.heap.size, 0, none⟩) 0 0) := by
      cases hv : (Value.slice A1 n c1).ownBlock with
      | none => exact .inl hv
      | some k => right; rw [hv]; intro e; have e' : some k = some w1.heap.size := e; injection e' with e'; have := (World.ownsRow.lt ho.1 k hv).2; omega
    unfold Apart at h1 ⊢
    rcases h1 with h1 | h1
    · exact .inl h1
    · right; rcases hat2 with e | e
      · rw [e]; exact h1
      · rw [e]; cases hv : (Value.slice A1 n c1).ownBlock with
        | none => simp
        | some k => intro e2; injection e2 with e2; have := (World.ownsRow.lt ho.1 k hv).2; simp at e2; omega
  have ho4 := ho2.grown hg2 (by have := (OI.apart (ho.drew) oe2); exact this)
  refine bodyPost_ret (v := .agg #[.slice A1 n c1, .slice A2 m c2]) (by simp [results, Try.results25, go_sem, t0, t1]) rfl ⟨A1, n, c1, A2, m, c2, rfl, ?_, ?_, apt, ?_⟩
  · exact (((ho4.set_low (by simp) _).set_low (by simp) _).set_low (by simp) _).mono (by omega)
  · exact (((ho3.set_low (by simp; omega) _).set_low (by simp; omega) _).set_low (by simp; omega) _).mono (by omega)
  · exact (((below_app B2 oe2 (by omega) hg2).setCell (by simp; omega) _).setCell (by simp) _).setCell (by simp) _

set_option maxHeartbeats 4000000 in
theorem spec_JoinTally_c {u v u' v' : Value} {n m n' m' : Nat} {xs ys xs' ys' : List Int} {w : World} (hu : SI w u n xs) (hv : SI w v m ys) (hu' : SI w u' n' xs') (hv' : SI w v' m' ys') :
    Calls Try.prog 7 #[.agg #[u, v], .agg #[u', v']] w (RetP w (jtU xs ys xs' ys') (jtD xs ys xs' ys')) := by
  obtain ⟨A0, c0, rfl⟩ := hu.shape
  obtain ⟨B0, d0, rfl⟩ := hv.shape
  obtain ⟨A0', c0', rfl⟩ := hu'.shape
  obtain ⟨B0', d0', rfl⟩ := hv'.shape
  have X0 : Below w.heap.size w (((w.alloc (.cells #[.slice A0 n c0, .slice B0 m d0] 26)).alloc (.cells #[.slice A0' n' c0', .slice B0' m' d0'] 26)).alloc (.cells #[.slice none 0 0, .slice none 0 0] 26)) := (((Below.refl _ _).alloc (Nat.le_refl _) _).alloc (by simp) _).alloc (by simp; omega) _
  have K2 := ((Blk.new w 26 #[.slice A0 n c0, .slice B0 m d0]).alloc (.cells #[.slice A0' n' c0', .slice B0' m' d0'] 26)).alloc (.cells #[.slice none 0 0, .slice none 0 0] 26)
  have K3 := (Blk.new (w.alloc (.cells #[.slice A0 n c0, .slice B0 m d0] 26)) 26 #[.slice A0' n' c0', .slice B0' m' d0']).alloc (.cells #[.slice none 0 0, .slice none 0 0] 26)
  have K4 := Blk.new ((w.alloc (.cells #[.slice A0 n c0, .slice B0 m d0] 26)).alloc (.cells #[.slice A0' n' c0', .slice B0' m' d0'] 26)) 26 #[.slice none 0 0, .slice none 0 0]
  simp only [World.size_alloc] at K3 K4
  go_enter Try.func7, Try.ntmps7
  go_wp2_with fail
  refine (l1OwnTally_c (hu.below X0) (hv.below X0)).mono ?_
  rintro e w1 ⟨A, n1, c, B, m1, d, rfl, ou, ov, apu, b1⟩
  have e1 := ou.len; have e2 := hu.len; have e3 := ov.len; have e4 := hv.len
  obtain rfl : n1 = n := by omega
  obtain rfl : m1 = m := by omega
  have X1 := X0.trans (b1.mono (by simp; omega))
  have hz1 : w.heap.size + 3 ≤ w1.heap.size := by have := b1.size; simp at this; omega
  have K2a := K2.belowAll b1; have K3a := K3.belowAll b1; have K4a := K4.belowAll b1
  obtain ⟨p0, p1, p2, p3⟩ := K2a.two
  have K2b := (K2a.set_ 0 (.slice A n1 c)).set_ 1 (.slice B m1 d)
  have K3b := (K3a.far (p := ⟨w.heap.size, 0, none⟩) (by simp) (.slice A n1 c)).far (p := ⟨w.heap.size, 1, none⟩) (by simp) (.slice B m1 d)
  have K4b := (K4a.far (p := ⟨w.heap.size, 0, none⟩) (by simp; omega) (.slice A n1 c)).far (p := ⟨w.heap.size, 1, none⟩) (by simp; omega) (.slice B m1 d)
  simp only [World.size_alloc] at ou ov
  have ou1 := (ou.set_low (p := ⟨w.heap.size, 0, none⟩) (by simp; omega) (.slice A n1 c)).set_low (p := ⟨w.heap.size, 1, none⟩) (by simp; omega) (.slice B m1 d)
  have ov1 := (ov.set_low (p := ⟨w.heap.size, 0, none⟩) (by simp; omega) (.slice A n1 c)).set_low (p := ⟨w.heap.size, 1, none⟩) (by simp; omega) (.slice B m1 d)
  have X1b := (X1.setCell (p := ⟨w.heap.size, 0, none⟩) (Nat.le_refl _) (.slice A n1 c)).setCell (p := ⟨w.heap.size, 1, none⟩) (Nat.le_refl _) (.slice B m1 d)
  obtain ⟨q0, q1, _, _⟩ := K3b.two
  clear K2 K3 K4 K2a K3a K4a ou ov e1 e2 e3 e4
  go_wp2_with fail
  refine (l1OwnTally_c (hu'.below X1b) (hv'.below X1b)).mono ?_
  rintro e w2 ⟨A', n1', c', B', m1', d', rfl, ou', ov', apu', b2⟩
  have e1 := ou'.len; have e2 := hu'.len; have e3 := ov'.len; have e4 := hv'.len
  obtain rfl : n1' = n' := by omega
  obtain rfl : m1' = m' := by omega
  have X2 := below_step X1b b2
  have hz2 : w.heap.size + 3 ≤ w2.heap.size := by have := b2.size; simp at this; omega
  have K2c := K2b.belowAll b2; have K3c := K3b.belowAll b2; have K4c := K4b.belowAll b2
  have ou2 := ou1.below b2; have ov2 := ov1.below b2
  obtain ⟨r0, r1, r2, r3⟩ := K3c.two
  have K3d := (K3c.set_ 0 (.slice A' n1' c')).set_ 1 (.slice B' m1' d')
  have K2d := (K2c.far (p := ⟨w.heap.size + 1, 0, none⟩) (by simp) (.slice A' n1' c')).far (p := ⟨w.heap.size + 1, 1, none⟩) (by simp) (.slice B' m1' d')
  have K4d := (K4c.far (p := ⟨w.heap.size + 1, 0, none⟩) (by simp) (.slice A' n1' c')).far (p := ⟨w.heap.size + 1, 1, none⟩) (by simp) (.slice B' m1' d')
  have ou3 := (ou2.set_low (p := ⟨w.heap.size + 1, 0, none⟩) (by simp <;> omega) (.slice A' n1' c')).set_low (p := ⟨w.heap.size + 1, 1, none⟩) (by simp <;> omega) (.slice B' m1' d')
  have ov3 := (ov2.set_low (p := ⟨w.heap.size + 1, 0, none⟩) (by simp <;> omega) (.slice A' n1' c')).set_low (p := ⟨w.heap.size + 1, 1, none⟩) (by simp <;> omega) (.slice B' m1' d')
  have ou3' := (ou'.set_low (p := ⟨w.heap.size + 1, 0, none⟩) (by simp <;> omega) (.slice A' n1' c')).set_low (p := ⟨w.heap.size + 1, 1, none⟩) (by simp <;> omega) (.slice B' m1' d')
  have ov3' := (ov'.set_low (p := ⟨w.heap.size + 1, 0, none⟩) (by simp <;> omega) (.slice A' n1' c')).set_low (p := ⟨w.heap.size + 1, 1, none⟩) (by simp <;> omega) (.slice B' m1' d')
  have X2b := (X2.setCell (p := ⟨w.heap.size + 1, 0, none⟩) (by simp) (.slice A' n1' c')).setCell (p := ⟨w.heap.size + 1, 1, none⟩) (by simp) (.slice B' m1' d')
  obtain ⟨s0, s1, _, _⟩ := K2d.two
  obtain ⟨s2, s3, _, _⟩ := K3d.two
  clear K2b K3b K4b K2c K3c K4c ou' ov' ou1 ov1 ou2 ov2 p0 p1 p2 p3 q0 q1 e1 e2 e3 e4
  go_wp2_with fail
  have hzW : w.heap.size + 3 ≤ ((w2.setCell ⟨w.heap.size + 1, 0, none⟩ (.slice A' n1' c')).setCell ⟨w.heap.size + 1, 1, none⟩ (.slice B' m1' d')).heap.size := by simp; omega
  generalize (w2.setCell ⟨w.heap.size + 1, 0, none⟩ (.slice A' n1' c')).setCell ⟨w.heap.size + 1, 1, none⟩ (.slice B' m1' d') = W at *
  clear r0 r1 r2 r3 b1 b2 X0 X1 X1b X2
  cases hT : tallyB xs ys
  · have f1 : jtU xs ys xs' ys' = [] := by simp [jtU, hT]
    have f2 : jtD xs ys xs' ys' = [] := by simp [jtD, hT]
    have F1 := hide f1; have F2 := hide f2; have HT := hide hT; clear f1 f2 hT
    refine (spec_TallyValid_c ou3.si ov3.si).mono ?_
    rintro e w3 ⟨rfl, b3⟩
    rw [HT.out]
    have X3 := below_step X2b b3
    have K4e := K4d.belowAll b3
    obtain ⟨p0, p1, p2, p3⟩ := K4e.two
    go_wp2_with fail
    have Kf := (K4e.set_ 0 (.slice none 0 0)).set_ 1 (.slice none 0 0)
    obtain ⟨t0, t1, _, _⟩ := Kf.two
    exact bodyPost_ret (v := .agg #[.slice none 0 0, .slice none 0 0]) (by simp [results, Try.results7, go_sem, t0, t1]) rfl ⟨none, 0, 0, none, 0, 0, rfl, by rw [F1.out]; exact OI.nil, by rw [F2.out]; exact OI.nil, .inl rfl, (X3.setCell (by simp; omega) _).setCell (by simp; omega) _⟩
  · cases hT' : tallyB xs' ys'
    · have f1 : jtU xs ys xs' ys' = [] := by simp [jtU, hT']
      have f2 : jtD xs ys xs' ys' = [] := by simp [jtD, hT']
      have F1 := hide f1; have F2 := hide f2; have HT := hide hT; have HT' := hide hT'; clear f1 f2 hT hT'
      refine (spec_TallyValid_c ou3.si ov3.si).mono ?_
      rintro e w3 ⟨rfl, b3⟩
      rw [HT.out]
      have X3 := below_step X2b b3
      obtain ⟨q0, q1, _, _⟩ := (K3d.belowAll b3).two
      go_wp2_with fail
      refine (spec_TallyValid_c (ou3'.si.below b3) (ov3'.si.below b3)).mono ?_
      rintro e w4 ⟨rfl, b4⟩
      rw [HT'.out]
      have X4 := below_step X3 b4
      have K4e := (K4d.belowAll b3).belowAll b4
      obtain ⟨p0, p1, p2, p3⟩ := K4e.two
      go_wp2_with fail
      have Kf := (K4e.set_ 0 (.slice none 0 0)).set_ 1 (.slice none 0 0)
      obtain ⟨t0, t1, _, _⟩ := Kf.two
      exact bodyPost_ret (v := .agg #[.slice none 0 0, .slice none 0 0]) (by simp [results, Try.results7, go_sem, t0, t1]) rfl ⟨none, 0, 0, none, 0, 0, rfl, by rw [F1.out]; exact OI.nil, by rw [F2.out]; exact OI.nil, .inl rfl, (X4.setCell (by simp; omega) _).setCell (by simp; omega) _⟩
    · have f1 : jtU xs ys xs' ys' = joinL xs xs' := by simp [jtU, hT, hT']
      have f2 : jtD xs ys xs' ys' = joinL ys ys' := by simp [jtD, hT, hT']
      have F1 := hide f1; have F2 := hide f2; have HT := hide hT; have HT' := hide hT'; clear f1 f2 hT hT'
      refine (spec_TallyValid_c ou3.si ov3.si).mono ?_
      rintro e w3 ⟨rfl, b3⟩
      rw [HT.out]
      have X3 := below_step X2b b3
      obtain ⟨q0, q1, _, _⟩ := (K3d.belowAll b3).two
      go_wp2_with fail
      refine (spec_TallyValid_c (ou3'.si.below b3) (ov3'.si.below b3)).mono ?_
      rintro e w2' ⟨rfl, b4⟩
      rw [HT'.out]
      have B2 := below_step X3 b4
      have K2'' := (K2d.belowAll b3).belowAll b4
      have K3'' := (K3d.belowAll b3).belowAll b4
      have K4'' := (K4d.belowAll b3).belowAll b4
      have su2 := (ou3.si.below b3).below b4; have sv2 := (ov3.si.below b3).below b4; have su2' := (ou3'.si.below b3).below b4; have sv2' := (ov3'.si.below b3).below b4
      have hz3 := b3.size; have hz4 := b4.size
      clear q0 q1 s0 s1 s2 s3 K2d K3d K4d
      obtain ⟨a0, a1, _, _⟩ := K2''.two
      obtain ⟨c0, c1, _, _⟩ := K3''.two
      go_wp2_with fail
      go_region_held3 (fun W => W.cell? ⟨w.heap.size, 0, none⟩ = some (.slice A n1 c) ∧ W.cell? ⟨w.heap.size, 1, none⟩ = some (.slice B m1 d) ∧ W.cell? ⟨w.heap.size + 1, 0, none⟩ = some (.slice A' n1' c') ∧ W.cell? ⟨w.heap.size + 1, 1, none⟩ = some (.slice B' m1' d'))
        (first | (go_keep; done) | (go_split_ands; refine ⟨?_, ?_, ?_, ?_⟩ <;> (rw [cell_set2 (by omega)]; assumption)) | (go_split_ands; refine ⟨?_, ?_, ?_, ?_⟩ <;> (rw [bb.cell (by have := ba.size; simp at this ⊢; omega)]; assumption)) | (go_split_ands; refine ⟨?_, ?_, ?_, ?_⟩ <;> (rw [ba.cell (by simp; omega)]; assumption)))
        (first | (go_at_call_of 27 (Value.slice A n1 c); refine (spec_ClockJoin_c su2.drew su2'.drew).mono ?_; rintro e wa ⟨ra, ka, rfl, oa, ba⟩; obtain ⟨Ra, ca, rfl⟩ := oa.shape) | (go_at_call_of 27 (Value.slice B m1 d); refine (spec_ClockJoin_c (sv2.drew.below ba) (sv2'.drew.below ba)).mono ?_; rintro e wb ⟨rb, kb, rfl, ob, bb⟩; obtain ⟨Rb, cb, rfl⟩ := ob.shape; obtain ⟨e0, e1, e2, e3⟩ := ((K4''.drew.belowAll ba).belowAll bb).two))
      go_wp2_with fail
      have ap := OI.apart oa ob
      have K5 := ((K4''.drew.belowAll ba).belowAll bb)
      have Kf := (K5.set_ 0 (.slice Ra ka ca)).set_ 1 (.slice Rb kb cb)
      obtain ⟨t0, t1, _, _⟩ := Kf.two
      have hza := ba.size; have hzb := bb.size
      simp at hza
      refine bodyPost_ret (v := .agg #[.slice Ra ka ca, .slice Rb kb cb]) (by simp [results, Try.results7, go_sem, t0, t1]) rfl ⟨Ra, ka, ca, Rb, kb, cb, rfl, ?_, ?_, ap, ?_⟩
      · rw [F1.out]; exact (((oa.below bb).set_low (by simp; omega) _).set_low (by simp; omega) _).mono (by simp; omega)
      · rw [F2.out]; exact ((ob.set_low (by simp; omega) _).set_low (by simp; omega) _).mono (by omega)
      · exact ((((B2.drew.trans (ba.mono (by simp; omega))).trans (bb.mono (by omega))).setCell (by simp; omega) _).setCell (by simp; omega) _)

end Go.Proofs.Ytopjdidigfdhbaa
