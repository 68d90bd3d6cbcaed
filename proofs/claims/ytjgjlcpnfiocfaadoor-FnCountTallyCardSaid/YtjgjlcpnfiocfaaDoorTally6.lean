/- Contracts of the tallies: CountTally of the reference. -/
import Derived.Test.YtjgjlcpnfiocfaaDoorTally5
namespace Go.Proofs.YtjgjlcpnfiocfaaDoor
open Go.RowKit


set_option maxHeartbeats 8000000 in
theorem spec_CountTally_c {u v : Value} {n m : Nat} {xs ys : List Int} {who : Int} {up : Bool} {w : World} (hu : SI w u n xs) (hv : SI w v m ys) :
    Calls Tryd.prog 45 #[.agg #[u, v], .int .i64 who, .bool up] w (RetPB w (ctU xs ys who up) (ctD xs ys who up) (cntOk xs ys who up)) := by
  obtain ⟨A0, c0, rfl⟩ := hu.shape
  obtain ⟨B0, d0, rfl⟩ := hv.shape
  have hn := hu.bd; have hm := hv.bd
  have X0 : Below w.heap.size w ((w.alloc (.cells #[.slice A0 n c0, .slice B0 m d0] 46)).alloc (.cells #[.slice none 0 0, .slice none 0 0] 46)) := ((Below.refl _ _).alloc (Nat.le_refl _) _).alloc (by simp) _
  have K1 := (Blk.new w 46 #[.slice A0 n c0, .slice B0 m d0]).alloc (.cells #[.slice none 0 0, .slice none 0 0] 46)
  have K2 := Blk.new (w.alloc (.cells #[.slice A0 n c0, .slice B0 m d0] 46)) 46 #[.slice none 0 0, .slice none 0 0]
  simp only [World.size_alloc] at K2
  go_enter Tryd.func45, Tryd.ntmps45
  go_wp2_with fail
  refine (l1OwnTally_c (hu.below X0) (hv.below X0)).mono ?_
  rintro e w1 ⟨A, n1, c, B, m1, d, rfl, ou, ov, ap, b1⟩
  have e1 := ou.len; have e2 := hu.len; have e3 := ov.len; have e4 := hv.len
  obtain rfl : n1 = n := by omega
  obtain rfl : m1 = m := by omega
  have X1 := X0.trans (b1.mono (by simp <;> omega))
  have hz1 : w.heap.size + 2 ≤ w1.heap.size := by have := b1.size; simp at this; omega
  have K1a := K1.belowAll b1; have K2a := K2.belowAll b1
  obtain ⟨p0, p1, p2, p3⟩ := K1a.two
  have K1b := (K1a.set_ 0 (.slice A n1 c)).set_ 1 (.slice B m1 d)
  have K2b := (K2a.far (p := ⟨w.heap.size, 0, none⟩) (by simp) (.slice A n1 c)).far (p := ⟨w.heap.size, 1, none⟩) (by simp) (.slice B m1 d)
  simp only [World.size_alloc] at ou ov
  have ou1 := (ou.set_low (p := ⟨w.heap.size, 0, none⟩) (by simp <;> omega) (.slice A n1 c)).set_low (p := ⟨w.heap.size, 1, none⟩) (by simp <;> omega) (.slice B m1 d)
  have ov1 := (ov.set_low (p := ⟨w.heap.size, 0, none⟩) (by simp <;> omega) (.slice A n1 c)).set_low (p := ⟨w.heap.size, 1, none⟩) (by simp <;> omega) (.slice B m1 d)
  have X1b := (X1.setCell (p := ⟨w.heap.size, 0, none⟩) (Nat.le_refl _) (.slice A n1 c)).setCell (p := ⟨w.heap.size, 1, none⟩) (Nat.le_refl _) (.slice B m1 d)
  go_wp2_with fail
  have hzW : w.heap.size + 2 ≤ ((w1.setCell ⟨w.heap.size, 0, none⟩ (.slice A n1 c)).setCell ⟨w.heap.size, 1, none⟩ (.slice B m1 d)).heap.size := by simp <;> omega
  generalize (w1.setCell ⟨w.heap.size, 0, none⟩ (.slice A n1 c)).setCell ⟨w.heap.size, 1, none⟩ (.slice B m1 d) = W at *
  clear p0 p1 p2 p3 K1 K2 K1a K2a ou ov X0 X1 b1 e1 e2 e3 e4
  refine (spec_TallyValid_c ou1.si ov1.si).mono ?_
  rintro e w2 ⟨rfl, b2⟩
  have X2 := below_step X1b b2
  have hz2 : w.heap.size + 2 ≤ w2.heap.size := by have := b2.size; omega
  have K1c := K1b.belowAll b2; have K2c := K2b.belowAll b2
  have ou2 := ou1.below b2; have ov2 := ov1.below b2
  clear b2 K1b K2b ou1 ov1 X1b
  have zero : ∀ t0 t1, Hid (ctU xs ys who up = []) → Hid (ctD xs ys who up = []) → Hid (cntOk xs ys who up = false) → Blk w2 (w.heap.size + 1) 46 #[t0, t1] →
      RetPB w (ctU xs ys who up) (ctD xs ys who up) (cntOk xs ys who up) (.returned (.tuple #[.agg #[.slice none 0 0, .slice none 0 0], .bool false])) ((w2.setCell ⟨w.heap.size + 1, 0, none⟩ (.slice none 0 0)).setCell ⟨w.heap.size + 1, 1, none⟩ (.slice none 0 0)) :=
    fun _ _ F1 F2 F3 _ => ⟨none, 0, 0, none, 0, 0, by rw [F3.out], by rw [F1.out]; exact OI.nil, by rw [F2.out]; exact OI.nil, .inl rfl, (X2.setCell (by simp <;> omega) _).setCell (by simp <;> omega) _⟩
  have Zero := hide zero; clear zero
  cases hT : tallyB xs ys
  · skip
    have f1 : ctU xs ys who up = [] := by simp [ctU, hT]
    have f2 : ctD xs ys who up = [] := by simp [ctD, hT]
    have f3 : cntOk xs ys who up = false := by simp [cntOk, hT]
    have F1 := hide f1; have F2 := hide f2; have F3 := hide f3; clear f1 f2 f3
    obtain ⟨p0, p1, p2, p3⟩ := K2c.two
    have Kf := (K2c.set_ 0 (.slice none 0 0)).set_ 1 (.slice none 0 0)
    obtain ⟨t0, t1, _, _⟩ := Kf.two
    go_wp2_with fail
    exact bodyPost_ret (v := .tuple #[.agg #[.slice none 0 0, .slice none 0 0], .bool false]) (by simp [results, Tryd.results45, go_sem, t0, t1]) rfl (Zero.out _ _ F1 F2 F3 K2c)
  · cases hp : inB who 0 3
    · skip
      have f1 : ctU xs ys who up = [] := by simp [ctU, hp]
      have f2 : ctD xs ys who up = [] := by simp [ctD, hp]
      have f3 : cntOk xs ys who up = false := by simp [cntOk, hp]
      have F1 := hide f1; have F2 := hide f2; have F3 := hide f3; clear f1 f2 f3
      obtain ⟨p0, p1, p2, p3⟩ := K2c.two
      have Kf := (K2c.set_ 0 (.slice none 0 0)).set_ 1 (.slice none 0 0)
      obtain ⟨t0, t1, _, _⟩ := Kf.two
      go_wp2_with (go_at_call 53; refine (l1In_c).mono ?_; rintro e w' ⟨rfl, rfl⟩; rw [hp])
      exact bodyPost_ret (v := .tuple #[.agg #[.slice none 0 0, .slice none 0 0], .bool false]) (by simp [results, Tryd.results45, go_sem, t0, t1]) rfl (Zero.out _ _ F1 F2 F3 K2c)
    · cases up
      · have f1 : ctU xs ys who false = xs := by simp [ctU, hT, hp]
        have f2 : ctD xs ys who false = stepL ys who := by simp [ctD, hT, hp]
        have f3 : cntOk xs ys who false = stepOk ys who := by simp [cntOk, hT, hp]
        have F1 := hide f1; have F2 := hide f2; have F3 := hide f3; have HP := hide hp; clear f1 f2 f3 hT hp Zero
        obtain ⟨a0, a1, _, _⟩ := (K1c.alloc (.cells #[] 3)).two
        go_wp2_with (first
          | (go_at_call 53; refine (l1In_c).mono ?_; rintro e w' ⟨rfl, rfl⟩; rw [HP.out])
          | (at_builtin
             refine wpList_appI rfl (.tmp 26) (.tmp 28) rfl rfl (OI.empty w2) rfl (ou2.si.alloc _) (by omega) (by simp) ?_
             intro v1 w3 ho hg hat
             simp only [Nat.zero_add, List.nil_append] at ho
             obtain ⟨A1, c1, rfl⟩ := ho.shape
             have hz3 : w2.heap.size + 1 ≤ w3.heap.size := by have := hg.size; simp at this; omega
             have K1d := (K1c.alloc (.cells #[] 3)).after_app hg (OI.empty w2) (by omega)
             have K2d := (K2c.alloc (.cells #[] 3)).after_app hg (OI.empty w2) (by omega)
             have ou3 := (ou2.alloc (.cells #[] 3)).grown hg (OI.apart ou2 (OI.empty w2))
             have ov3 := (ov2.alloc (.cells #[] 3)).grown hg (OI.apart ov2 (OI.empty w2))
             have X3 := below_app (X2.alloc (by omega) (.cells #[] 3)) (OI.empty w2) (by omega) hg
             obtain ⟨g0, g1, _, _⟩ := (K1d.alloc (.cells #[] 3)).two)
          | (at_builtin
             refine wpList_appI rfl (.tmp 30) (.tmp 32) rfl rfl (OI.empty w3) rfl (ov3.si.alloc _) (by omega) (by simp) ?_
             intro v2 w4 ho2 hg2 hat2
             simp only [Nat.zero_add, List.nil_append] at ho2
             obtain ⟨A2, c2, rfl⟩ := ho2.shape
             have hz4 : w3.heap.size + 1 ≤ w4.heap.size := by have := hg2.size; simp at this; omega
             have K1e := (K1d.alloc (.cells #[] 3)).after_app hg2 (OI.empty w3) (by omega)
             have K2e := (K2d.alloc (.cells #[] 3)).after_app hg2 (OI.empty w3) (by omega)
             have ou4 := (ou3.alloc (.cells #[] 3)).grown hg2 (OI.apart ou3 (OI.empty w3))
             have ov4 := (ov3.alloc (.cells #[] 3)).grown hg2 (OI.apart ov3 (OI.empty w3))
             have ho4 := (ho.alloc (.cells #[] 3)).grown hg2 (OI.apart ho (OI.empty w3))
             have X4 := below_app (X3.alloc (by omega) (.cells #[] 3)) (OI.empty w3) (by omega) hg2
             obtain ⟨j0, j1, _, _⟩ := K1e.two))
        refine (spec_ClockStep_c ov4.si).mono ?_
        rintro e w5 ⟨r, k, rfl, orr, b5⟩
        obtain ⟨R, rc, rfl⟩ := orr.shape
        have K2f := K2e.belowAll b5
        have X5 := below_step X4 b5
        have hz5 := b5.size
        obtain ⟨s0, s1, s2, s3⟩ := K2f.two
        have apA := OI.apart ho4 orr
        have apB := OI.apart ho2 orr
        have ho5 := ho4.below b5; have ho6 := ho2.below b5
        go_wp2_with fail
        have Kf := (K2f.set_ 0 (.slice A1 n1 c1)).set_ 1 (.slice R k rc)
        obtain ⟨t0, t1, _, _⟩ := Kf.two
        refine bodyPost_ret (v := .tuple #[.agg #[.slice A1 n1 c1, .slice R k rc], .bool (stepOk ys who)]) (by simp [results, Tryd.results45, go_sem, t0, t1]) rfl ⟨A1, n1, c1, R, k, rc, by rw [F3.out], ?_, ?_, ?_, ?_⟩
        · rw [F1.out]; exact ((ho5.set_low (by simp <;> omega) _).set_low (by simp <;> omega) _).mono (by omega)
        · rw [F2.out]; exact ((orr.set_low (by simp <;> omega) _).set_low (by simp <;> omega) _).mono (by omega)
        · exact apA
        · exact (X5.setCell (by simp <;> omega) _).setCell (by simp <;> omega) _

      · have f1 : ctU xs ys who true = stepL xs who := by simp [ctU, hT, hp]
        have f2 : ctD xs ys who true = ys := by simp [ctD, hT, hp]
        have f3 : cntOk xs ys who true = stepOk xs who := by simp [cntOk, hT, hp]
        have F1 := hide f1; have F2 := hide f2; have F3 := hide f3; have HP := hide hp; clear f1 f2 f3 hT hp Zero
        obtain ⟨a0, a1, _, _⟩ := (K1c.alloc (.cells #[] 3)).two
        go_wp2_with (first
          | (go_at_call 53; refine (l1In_c).mono ?_; rintro e w' ⟨rfl, rfl⟩; rw [HP.out])
          | (at_builtin
             refine wpList_appI rfl (.tmp 26) (.tmp 28) rfl rfl (OI.empty w2) rfl (ou2.si.alloc _) (by omega) (by simp) ?_
             intro v1 w3 ho hg hat
             simp only [Nat.zero_add, List.nil_append] at ho
             obtain ⟨A1, c1, rfl⟩ := ho.shape
             have hz3 : w2.heap.size + 1 ≤ w3.heap.size := by have := hg.size; simp at this; omega
             have K1d := (K1c.alloc (.cells #[] 3)).after_app hg (OI.empty w2) (by omega)
             have K2d := (K2c.alloc (.cells #[] 3)).after_app hg (OI.empty w2) (by omega)
             have ou3 := (ou2.alloc (.cells #[] 3)).grown hg (OI.apart ou2 (OI.empty w2))
             have ov3 := (ov2.alloc (.cells #[] 3)).grown hg (OI.apart ov2 (OI.empty w2))
             have X3 := below_app (X2.alloc (by omega) (.cells #[] 3)) (OI.empty w2) (by omega) hg
             obtain ⟨g0, g1, _, _⟩ := (K1d.alloc (.cells #[] 3)).two)
          | (at_builtin
             refine wpList_appI rfl (.tmp 30) (.tmp 32) rfl rfl (OI.empty w3) rfl (ov3.si.alloc _) (by omega) (by simp) ?_
             intro v2 w4 ho2 hg2 hat2
             simp only [Nat.zero_add, List.nil_append] at ho2
             obtain ⟨A2, c2, rfl⟩ := ho2.shape
             have hz4 : w3.heap.size + 1 ≤ w4.heap.size := by have := hg2.size; simp at this; omega
             have K1e := (K1d.alloc (.cells #[] 3)).after_app hg2 (OI.empty w3) (by omega)
             have K2e := (K2d.alloc (.cells #[] 3)).after_app hg2 (OI.empty w3) (by omega)
             have ou4 := (ou3.alloc (.cells #[] 3)).grown hg2 (OI.apart ou3 (OI.empty w3))
             have ov4 := (ov3.alloc (.cells #[] 3)).grown hg2 (OI.apart ov3 (OI.empty w3))
             have ho4 := (ho.alloc (.cells #[] 3)).grown hg2 (OI.apart ho (OI.empty w3))
             have X4 := below_app (X3.alloc (by omega) (.cells #[] 3)) (OI.empty w3) (by omega) hg2
             obtain ⟨j0, j1, _, _⟩ := K1e.two))
        refine (spec_ClockStep_c ou4.si).mono ?_
        rintro e w5 ⟨r, k, rfl, orr, b5⟩
        obtain ⟨R, rc, rfl⟩ := orr.shape
        have K2f := K2e.belowAll b5
        have X5 := below_step X4 b5
        have hz5 := b5.size
        obtain ⟨s0, s1, s2, s3⟩ := K2f.two
        have apA := OI.apart ho4 orr
        have apB := OI.apart ho2 orr
        have ho5 := ho4.below b5; have ho6 := ho2.below b5
        go_wp2_with fail
        have Kf := (K2f.set_ 0 (.slice R k rc)).set_ 1 (.slice A2 m1 c2)
        obtain ⟨t0, t1, _, _⟩ := Kf.two
        refine bodyPost_ret (v := .tuple #[.agg #[.slice R k rc, .slice A2 m1 c2], .bool (stepOk xs who)]) (by simp [results, Tryd.results45, go_sem, t0, t1]) rfl ⟨R, k, rc, A2, m1, c2, by rw [F3.out], ?_, ?_, ?_, ?_⟩
        · rw [F1.out]; exact ((orr.set_low (by simp <;> omega) _).set_low (by simp <;> omega) _).mono (by omega)
        · rw [F2.out]; exact ((ho6.set_low (by simp <;> omega) _).set_low (by simp <;> omega) _).mono (by omega)
        · exact apB.symm
        · exact (X5.setCell (by simp <;> omega) _).setCell (by simp <;> omega) _

end Go.Proofs.YtjgjlcpnfiocfaaDoor
