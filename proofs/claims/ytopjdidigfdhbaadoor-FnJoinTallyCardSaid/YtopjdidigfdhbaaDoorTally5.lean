/- Contracts of the tallies: copyOf, CountTally of both. -/
import Derived.Test.YtopjdidigfdhbaaDoorTally4
namespace Go.Proofs.YtopjdidigfdhbaaDoor
open Go.RowKit

set_option maxHeartbeats 4000000 in
theorem copyOf_c {u v : Value} {n m : Nat} {xs ys : List Int} {w : World} (hu : SI w u n xs) (hv : SI w v m ys) (hT : tallyB xs ys = true) :
    Calls Tryd.prog 54 #[.agg #[u, v]] w (RetP w xs ys) := by
  obtain ⟨A, c, rfl⟩ := hu.shape
  obtain ⟨B, d, rfl⟩ := hv.shape
  have hX : clockB xs = true := by revert hT; unfold tallyB; cases clockB xs <;> simp
  have hY : clockB ys = true := by revert hT; unfold tallyB; cases clockB ys <;> simp
  have HX := hide hX; have HY := hide hY; clear hX hY hT
  have X0 : Below w.heap.size w ((w.alloc (.cells #[.slice A n c, .slice B m d] 43)).alloc (.cells #[.slice none 0 0, .slice none 0 0] 43)) := ((Below.refl _ _).alloc (Nat.le_refl _) _).alloc (by simp) _
  have K2 := Blk.new (w.alloc (.cells #[.slice A n c, .slice B m d] 43)) 43 #[.slice none 0 0, .slice none 0 0]
  simp only [World.size_alloc] at K2
  go_enter Tryd.func54, Tryd.ntmps54
  go_wp2_with fail
  refine (clocksOf_c (hu.below X0) (hv.below X0)).mono ?_
  rintro e w1 ⟨x0, x1, x2, x3, y0, y1, y2, y3, rfl, hx, hy, b1⟩
  have ex := hx.of HX.out; have ey := hy.of HY.out
  have EX := hide ex; have EY := hide ey; clear ex ey hx hy
  have X1 := X0.trans (b1.mono (by simp <;> omega))
  have hz1 : w.heap.size + 2 ≤ w1.heap.size := by have := b1.size; simp at this; omega
  have K2a := ((K2.belowAll b1).alloc (.cells #[.int .i64 x0, .int .i64 x1, .int .i64 x2, .int .i64 x3] 81)).alloc (.cells #[.int .i64 y0, .int .i64 y1, .int .i64 y2, .int .i64 y3] 81)
  have K3 := (Blk.new w1 81 #[.int .i64 x0, .int .i64 x1, .int .i64 x2, .int .i64 x3]).alloc (.cells #[.int .i64 y0, .int .i64 y1, .int .i64 y2, .int .i64 y3] 81)
  have K4 := Blk.new (w1.alloc (.cells #[.int .i64 x0, .int .i64 x1, .int .i64 x2, .int .i64 x3] 81)) 81 #[.int .i64 y0, .int .i64 y1, .int .i64 y2, .int .i64 y3]
  have X2 := (X1.alloc (by omega) (.cells #[.int .i64 x0, .int .i64 x1, .int .i64 x2, .int .i64 x3] 81)).alloc (by simp <;> omega) (.cells #[.int .i64 y0, .int .i64 y1, .int .i64 y2, .int .i64 y3] 81)
  simp only [World.size_alloc] at K4
  go_wp2_with fail
  have hzW : w1.heap.size + 2 ≤ ((w1.alloc (.cells #[.int .i64 x0, .int .i64 x1, .int .i64 x2, .int .i64 x3] 81)).alloc (.cells #[.int .i64 y0, .int .i64 y1, .int .i64 y2, .int .i64 y3] 81)).heap.size := by simp <;> omega
  generalize (w1.alloc (.cells #[.int .i64 x0, .int .i64 x1, .int .i64 x2, .int .i64 x3] 81)).alloc (.cells #[.int .i64 y0, .int .i64 y1, .int .i64 y2, .int .i64 y3] 81) = W at *
  obtain ⟨⟨a0, a1, a2, a3⟩, _⟩ := K3.four
  obtain ⟨⟨c0, c1, c2, c3⟩, _⟩ := K4.four
  clear b1 X0 X1
  go_region_held3 (fun w' => w'.cell? ⟨w1.heap.size, 0, none⟩ = some (.int .i64 x0) ∧ w'.cell? ⟨w1.heap.size, 1, none⟩ = some (.int .i64 x1) ∧ w'.cell? ⟨w1.heap.size, 2, none⟩ = some (.int .i64 x2) ∧ w'.cell? ⟨w1.heap.size, 3, none⟩ = some (.int .i64 x3) ∧
      w'.cell? ⟨w1.heap.size + 1, 0, none⟩ = some (.int .i64 y0) ∧ w'.cell? ⟨w1.heap.size + 1, 1, none⟩ = some (.int .i64 y1) ∧ w'.cell? ⟨w1.heap.size + 1, 2, none⟩ = some (.int .i64 y2) ∧ w'.cell? ⟨w1.heap.size + 1, 3, none⟩ = some (.int .i64 y3))
    (first | (go_keep; done) | (go_split_ands; refine ⟨?_, ?_, ?_, ?_, ?_, ?_, ?_, ?_⟩ <;> (rw [cell_set2 (by omega)]; assumption)) | (go_split_ands; refine ⟨?_, ?_, ?_, ?_, ?_, ?_, ?_, ?_⟩ <;> (rw [bb.cell (by have := ba.size; simp at this ⊢; omega)]; assumption)) | (go_split_ands; refine ⟨?_, ?_, ?_, ?_, ?_, ?_, ?_, ?_⟩ <;> (rw [ba.cell (by simp <;> omega)]; assumption)))
    (first | (go_at_call_of 72 (Value.agg #[Value.int .i64 x0, Value.int .i64 x1, Value.int .i64 x2, Value.int .i64 x3]); refine (list_c).mono ?_; rintro e wa ⟨ra, rfl, oa, ba⟩; obtain ⟨Ra, ca, rfl⟩ := oa.shape) | (go_at_call 72; refine (list_c).mono ?_; rintro e wb ⟨rb, rfl, ob, bb⟩; obtain ⟨Rb, cb, rfl⟩ := ob.shape; obtain ⟨e0, e1, e2, e3⟩ := ((K2a.drew.belowAll ba).belowAll bb).two))
  go_wp2_with fail
  have ap := OI.apart oa ob
  have hza := ba.size; have hzb := bb.size
  have Kf := (((K2a.drew.belowAll ba).belowAll bb).set_ 0 (.slice Ra 4 ca)).set_ 1 (.slice Rb 4 cb)
  obtain ⟨t0, t1, _, _⟩ := Kf.two
  have hn : n = 4 := by rw [← hu.len, EX.out]; rfl
  have hm : m = 4 := by rw [← hv.len, EY.out]; rfl
  simp at hza
  refine bodyPost_ret (v := .agg #[.slice Ra 4 ca, .slice Rb 4 cb]) (by simp [results, Tryd.results54, go_sem, t0, t1]) rfl ⟨Ra, 4, ca, Rb, 4, cb, rfl, ?_, ?_, ap, ?_⟩
  · rw [EX.out]; exact (((oa.below bb).set_low (by simp <;> omega) _).set_low (by simp <;> omega) _).mono (by simp <;> omega)
  · rw [EY.out]; exact ((ob.set_low (by simp <;> omega) _).set_low (by simp <;> omega) _).mono (by omega)
  · exact ((((X2.drew.trans (ba.mono (by simp <;> omega))).trans (bb.mono (by omega))).setCell (by simp <;> omega) _).setCell (by simp <;> omega) _)

def cntOk (xs ys : List Int) (who : Int) (up : Bool) : Bool := tallyB xs ys && inB who 0 3 && (if up then stepOk xs who else stepOk ys who)
def ctU (xs ys : List Int) (who : Int) (up : Bool) : List Int := if tallyB xs ys && inB who 0 3 then (if up then stepL xs who else xs) else []
def ctD (xs ys : List Int) (who : Int) (up : Bool) : List Int := if tallyB xs ys && inB who 0 3 then (if up then ys else stepL ys who) else []
/-- The post of a function that returns a struct of two new slices, and a bool. -/
def RetPB (w : World) (xs ys : List Int) (b : Bool) (e : Ending) (w' : World) : Prop :=
  ∃ A n c B m d, e = .returned (.tuple #[.agg #[.slice A n c, .slice B m d], .bool b]) ∧ OI w' w.heap.size (.slice A n c) n xs ∧ OI w' w.heap.size (.slice B m d) m ys ∧ Apart (.slice A n c) (.slice B m d) ∧ Below w.heap.size w w'

set_option maxHeartbeats 4000000 in
theorem impl_CountTally_c {u v : Value} {n m : Nat} {xs ys : List Int} {who : Int} {up : Bool} {w : World} (hu : SI w u n xs) (hv : SI w v m ys) :
    Calls Tryd.prog 26 #[.agg #[u, v], .int .i64 who, .bool up] w (RetPB w (ctU xs ys who up) (ctD xs ys who up) (cntOk xs ys who up)) := by
  obtain ⟨A, c, rfl⟩ := hu.shape
  obtain ⟨B, d, rfl⟩ := hv.shape
  have X0 : Below w.heap.size w ((w.alloc (.cells #[.slice A n c, .slice B m d] 43)).alloc (.cells #[.slice none 0 0, .slice none 0 0] 43)) := ((Below.refl _ _).alloc (Nat.le_refl _) _).alloc (by simp) _
  have K1 := (Blk.new w 43 #[.slice A n c, .slice B m d]).alloc (.cells #[.slice none 0 0, .slice none 0 0] 43)
  have K2 := Blk.new (w.alloc (.cells #[.slice A n c, .slice B m d] 43)) 43 #[.slice none 0 0, .slice none 0 0]
  simp only [World.size_alloc] at K2
  cases hT : tallyB xs ys
  · have f1 : ctU xs ys who up = [] := by simp [ctU, hT]
    have f2 : ctD xs ys who up = [] := by simp [ctD, hT]
    have f3 : cntOk xs ys who up = false := by simp [cntOk, hT]
    have F1 := hide f1; have F2 := hide f2; have F3 := hide f3; have HT := hide hT; clear f1 f2 f3 hT
    go_enter Tryd.func26, Tryd.ntmps26
    go_wp2_with fail
    refine (impl_TallyValid_c (hu.below X0) (hv.below X0)).mono ?_
    rintro e w1 ⟨rfl, b1⟩
    rw [HT.out]
    have X1 := X0.trans (b1.mono (by simp <;> omega))
    obtain ⟨p0, p1, p2, p3⟩ := (K2.belowAll b1).two
    go_wp2_with fail
    have Kf := ((K2.belowAll b1).set_ 0 (.slice none 0 0)).set_ 1 (.slice none 0 0)
    obtain ⟨t0, t1, _, _⟩ := Kf.two
    exact bodyPost_ret (v := .tuple #[.agg #[.slice none 0 0, .slice none 0 0], .bool false]) (by simp [results, Tryd.results26, go_sem, t0, t1]) rfl ⟨none, 0, 0, none, 0, 0, by rw [F3.out], by rw [F1.out]; exact OI.nil, by rw [F2.out]; exact OI.nil, .inl rfl, (X1.setCell (by simp) _).setCell (by simp) _⟩
  · cases hp : inB who 0 3
    · have f1 : ctU xs ys who up = [] := by simp [ctU, hp]
      have f2 : ctD xs ys who up = [] := by simp [ctD, hp]
      have f3 : cntOk xs ys who up = false := by simp [cntOk, hp]
      have F1 := hide f1; have F2 := hide f2; have F3 := hide f3; have HT := hide hT; have HP := hide hp; clear f1 f2 f3 hT hp
      go_enter Tryd.func26, Tryd.ntmps26
      go_wp2_with fail
      refine (impl_TallyValid_c (hu.below X0) (hv.below X0)).mono ?_
      rintro e w1 ⟨rfl, b1⟩
      rw [HT.out]
      have X1 := X0.trans (b1.mono (by simp <;> omega))
      obtain ⟨p0, p1, p2, p3⟩ := (K2.belowAll b1).two
      go_wp2_with (go_at_call 41; refine (placeOk_c).mono ?_; rintro e w' ⟨rfl, rfl⟩; rw [HP.out])
      have Kf := ((K2.belowAll b1).set_ 0 (.slice none 0 0)).set_ 1 (.slice none 0 0)
      obtain ⟨t0, t1, _, _⟩ := Kf.two
      exact bodyPost_ret (v := .tuple #[.agg #[.slice none 0 0, .slice none 0 0], .bool false]) (by simp [results, Tryd.results26, go_sem, t0, t1]) rfl ⟨none, 0, 0, none, 0, 0, by rw [F3.out], by rw [F1.out]; exact OI.nil, by rw [F2.out]; exact OI.nil, .inl rfl, (X1.setCell (by simp) _).setCell (by simp) _⟩
    · have HT := hide hT; have HP := hide hp
      cases up
      · have f1 : ctU xs ys who false = xs := by simp [ctU, hT, hp]
        have f2 : ctD xs ys who false = stepL ys who := by simp [ctD, hT, hp]
        have f3 : cntOk xs ys who false = stepOk ys who := by simp [cntOk, hT, hp]
        have F1 := hide f1; have F2 := hide f2; have F3 := hide f3; clear f1 f2 f3 hT hp
        go_enter Tryd.func26, Tryd.ntmps26
        go_wp2_with fail
        refine (impl_TallyValid_c (hu.below X0) (hv.below X0)).mono ?_
        rintro e w1 ⟨rfl, b1⟩
        rw [HT.out]
        have X1 := X0.trans (b1.mono (by simp <;> omega))
        obtain ⟨q0, q1, _, _⟩ := (K1.belowAll b1).two
        go_wp2_with (go_at_call 41; refine (placeOk_c).mono ?_; rintro e w' ⟨rfl, rfl⟩; rw [HP.out])
        refine (copyOf_c (hu.below X1) (hv.below X1) HT.out).mono ?_
        rintro e w2 ⟨A1, n1, c1, B1, m1, d1, rfl, ou, ov, ap, b2⟩
        have X2 := below_step X1 b2
        have hz1 : w.heap.size + 2 ≤ w1.heap.size := by have := b1.size; simp at *; omega
        have hz2 : w1.heap.size ≤ w2.heap.size := b2.size
        have B8 : Below w.heap.size w (w2.alloc (.cells #[.slice A1 n1 c1, .slice B1 m1 d1] 43)) := X2.alloc (by omega) _
        have K8 := Blk.new w2 43 #[.slice A1 n1 c1, .slice B1 m1 d1]
        have K2b := ((K2.belowAll b1).belowAll b2).alloc (.cells #[.slice A1 n1 c1, .slice B1 m1 d1] 43)
        have ok2 := ou.alloc (.cells #[.slice A1 n1 c1, .slice B1 m1 d1] 43)
        clear q0 q1
        go_wp2_with fail
        refine (impl_ClockStep_c (ov.alloc _).si).mono ?_
        rintro e w3 ⟨r, k, rfl, orr, b3⟩
        obtain ⟨R, rc, rfl⟩ := orr.shape
        have apk := OI.apart ok2 orr
        have ok3 := ok2.below b3
        have K8c := K8.belowAll b3; have K2c := K2b.belowAll b3
        have B9 := below_step B8 b3
        have hz3 : w2.heap.size + 1 ≤ w3.heap.size := by have := b3.size; simp at this; omega
        obtain ⟨p0, p1, p2, p3⟩ := K8c.two
        have K2d := K2c.far (p := ⟨w2.heap.size, 1, none⟩) (by simp <;> omega) (.slice R k rc)
        have K8d := K8c.set_ 1 (.slice R k rc)
        obtain ⟨q0, q1, q2, q3⟩ := K2d.two
        have Kf := (K2d.set_ 0 (.slice A1 n1 c1)).set_ 1 (.slice R k rc)
        obtain ⟨t0, t1, _, _⟩ := Kf.two
        simp only [World.size_alloc] at orr
        go_wp2_with fail
        refine bodyPost_ret (v := .tuple #[.agg #[.slice A1 n1 c1, .slice R k rc], .bool (stepOk ys who)]) (by simp [results, Tryd.results26, go_sem, t0, t1]) rfl ⟨A1, n1, c1, R, k, rc, by rw [F3.out], ?_, ?_, ?_, ?_⟩
        · rw [F1.out]; exact (((ok3.set_far ou (Nat.le_refl _) _).set_low (by simp <;> omega) _).set_low (by simp <;> omega) _).mono (by omega)
        · rw [F2.out]; exact (((orr.set_low (by simp <;> omega) _).set_low (by simp <;> omega) _).set_low (by simp <;> omega) _).mono (by first | omega | (simp <;> omega))
        · exact apk
        · exact (((B9.setCell (by simp <;> omega) _).setCell (by simp <;> omega) _).setCell (by simp <;> omega) _)
      · have f1 : ctU xs ys who true = stepL xs who := by simp [ctU, hT, hp]
        have f2 : ctD xs ys who true = ys := by simp [ctD, hT, hp]
        have f3 : cntOk xs ys who true = stepOk xs who := by simp [cntOk, hT, hp]
        have F1 := hide f1; have F2 := hide f2; have F3 := hide f3; clear f1 f2 f3 hT hp
        go_enter Tryd.func26, Tryd.ntmps26
        go_wp2_with fail
        refine (impl_TallyValid_c (hu.below X0) (hv.below X0)).mono ?_
        rintro e w1 ⟨rfl, b1⟩
        rw [HT.out]
        have X1 := X0.trans (b1.mono (by simp <;> omega))
        obtain ⟨q0, q1, _, _⟩ := (K1.belowAll b1).two
        go_wp2_with (go_at_call 41; refine (placeOk_c).mono ?_; rintro e w' ⟨rfl, rfl⟩; rw [HP.out])
        refine (copyOf_c (hu.below X1) (hv.below X1) HT.out).mono ?_
        rintro e w2 ⟨A1, n1, c1, B1, m1, d1, rfl, ou, ov, ap, b2⟩
        have X2 := below_step X1 b2
        have hz1 : w.heap.size + 2 ≤ w1.heap.size := by have := b1.size; simp at *; omega
        have hz2 : w1.heap.size ≤ w2.heap.size := b2.size
        have B8 : Below w.heap.size w (w2.alloc (.cells #[.slice A1 n1 c1, .slice B1 m1 d1] 43)) := X2.alloc (by omega) _
        have K8 := Blk.new w2 43 #[.slice A1 n1 c1, .slice B1 m1 d1]
        have K2b := ((K2.belowAll b1).belowAll b2).alloc (.cells #[.slice A1 n1 c1, .slice B1 m1 d1] 43)
        have ok2 := ov.alloc (.cells #[.slice A1 n1 c1, .slice B1 m1 d1] 43)
        clear q0 q1
        go_wp2_with fail
        refine (impl_ClockStep_c (ou.alloc _).si).mono ?_
        rintro e w3 ⟨r, k, rfl, orr, b3⟩
        obtain ⟨R, rc, rfl⟩ := orr.shape
        have apk := OI.apart ok2 orr
        have ok3 := ok2.below b3
        have K8c := K8.belowAll b3; have K2c := K2b.belowAll b3
        have B9 := below_step B8 b3
        have hz3 : w2.heap.size + 1 ≤ w3.heap.size := by have := b3.size; simp at this; omega
        obtain ⟨p0, p1, p2, p3⟩ := K8c.two
        have K2d := K2c.far (p := ⟨w2.heap.size, 0, none⟩) (by simp <;> omega) (.slice R k rc)
        have K8d := K8c.set_ 0 (.slice R k rc)
        obtain ⟨q0, q1, q2, q3⟩ := K2d.two
        have Kf := (K2d.set_ 0 (.slice R k rc)).set_ 1 (.slice B1 m1 d1)
        obtain ⟨t0, t1, _, _⟩ := Kf.two
        simp only [World.size_alloc] at orr
        go_wp2_with fail
        refine bodyPost_ret (v := .tuple #[.agg #[.slice R k rc, .slice B1 m1 d1], .bool (stepOk xs who)]) (by simp [results, Tryd.results26, go_sem, t0, t1]) rfl ⟨R, k, rc, B1, m1, d1, by rw [F3.out], ?_, ?_, ?_, ?_⟩
        · rw [F1.out]; exact (((orr.set_low (by simp <;> omega) _).set_low (by simp <;> omega) _).set_low (by simp <;> omega) _).mono (by first | omega | (simp <;> omega))
        · rw [F2.out]; exact (((ok3.set_far ov (Nat.le_refl _) _).set_low (by simp <;> omega) _).set_low (by simp <;> omega) _).mono (by omega)
        · exact apk.symm
        · exact (((B9.setCell (by simp <;> omega) _).setCell (by simp <;> omega) _).setCell (by simp <;> omega) _)

end Go.Proofs.YtopjdidigfdhbaaDoor
