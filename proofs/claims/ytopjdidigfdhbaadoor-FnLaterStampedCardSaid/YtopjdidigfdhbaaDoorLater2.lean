/- LaterStamped: the reference's and the program's. Printed by mk_later2.py. -/
import Derived.Test.YtopjdidigfdhbaaDoorLater
namespace Go.Proofs.YtopjdidigfdhbaaDoor
open Go.RowKit

def lsV (v t p v' t' p' : Int) : Value := if stampB v t p && stampB v' t' p' then pickV (laterB v t p v' t' p') v t p v' t' p' else .agg #[.int .i64 0, .int .i64 0, .int .i64 0]
theorem laterB_iff (v t p v' t' p' : Int) : laterB v t p v' t' p' = true ↔ (t < t' ∨ t' = t ∧ (p < p' ∨ p' = p ∧ v < v')) := by
  unfold laterB orI cmpI
  simp only [decide_eq_true_eq]
  split <;> split <;> (try split) <;> (try split) <;> (try split) <;> (try split) <;> (try split) <;> (try split) <;> omega

set_option maxHeartbeats 16000000 in
theorem impl_LaterStamped_c {v t p v' t' p' : Int} {w : World} :
    Calls Tryd.prog 10 #[.agg #[.int .i64 v, .int .i64 t, .int .i64 p], .agg #[.int .i64 v', .int .i64 t', .int .i64 p']] w fun e w' => e = .returned (lsV v t p v' t' p') ∧ Below w.heap.size w w' := by
  cases h1 : stampB v t p
  · have e : lsV v t p v' t' p' = .agg #[.int .i64 0, .int .i64 0, .int .i64 0] := by simp [lsV, h1]
    have E := hide e; have H1 := hide h1; clear e h1
    go_enter Tryd.func10, Tryd.ntmps10
    go_wp2_with fail
    have b1 : Below w.heap.size w (((w.alloc (.cells #[.int .i64 v, .int .i64 t, .int .i64 p] 24)).alloc (.cells #[.int .i64 v', .int .i64 t', .int .i64 p'] 24)).alloc (.cells #[.int .i64 0, .int .i64 0, .int .i64 0] 24)) := (((Below.refl _ _).alloc (Nat.le_refl _) _).alloc (by simp) _).alloc (by simp <;> omega) _
    have KA := ((Blk.new w 24 #[.int .i64 v, .int .i64 t, .int .i64 p]).alloc (.cells #[.int .i64 v', .int .i64 t', .int .i64 p'] 24)).alloc (.cells #[.int .i64 0, .int .i64 0, .int .i64 0] 24)
    have KB := (Blk.new (w.alloc (.cells #[.int .i64 v, .int .i64 t, .int .i64 p] 24)) 24 #[.int .i64 v', .int .i64 t', .int .i64 p']).alloc (.cells #[.int .i64 0, .int .i64 0, .int .i64 0] 24)
    have KC := Blk.new ((w.alloc (.cells #[.int .i64 v, .int .i64 t, .int .i64 p] 24)).alloc (.cells #[.int .i64 v', .int .i64 t', .int .i64 p'] 24)) 24 #[.int .i64 0, .int .i64 0, .int .i64 0]
    simp only [World.size_alloc] at KB KC
    generalize (((w.alloc (.cells #[.int .i64 v, .int .i64 t, .int .i64 p] 24)).alloc (.cells #[.int .i64 v', .int .i64 t', .int .i64 p'] 24)).alloc (.cells #[.int .i64 0, .int .i64 0, .int .i64 0] 24)) = w1 at *
    have B1 := b1
    have hb : w.heap.size ≤ w.heap.size + 1 + 1 := by omega
    refine (impl_StampedValid_c).mono ?_
    rintro e w2 ⟨rfl, b2⟩
    have B2 := below_step B1 b2
    replace KA := KA.belowAll b2
    replace KB := KB.belowAll b2
    replace KC := KC.belowAll b2
    rw [H1.out]
    have ca0 : w2.cell? ⟨w.heap.size, 0, none⟩ = some (.int .i64 v) := KA.cell 0
    have cb0 : w2.cell? ⟨w.heap.size + 1, 0, none⟩ = some (.int .i64 v') := KB.cell 0
    have cc0 : w2.cell? ⟨w.heap.size + 1 + 1, 0, none⟩ = some (.int .i64 0) := KC.cell 0
    have f0 : w2.frozen? ⟨w.heap.size + 1 + 1, 0, none⟩ = false := KC.frozen 0
    have ca1 : w2.cell? ⟨w.heap.size, 1, none⟩ = some (.int .i64 t) := KA.cell 1
    have cb1 : w2.cell? ⟨w.heap.size + 1, 1, none⟩ = some (.int .i64 t') := KB.cell 1
    have cc1 : w2.cell? ⟨w.heap.size + 1 + 1, 1, none⟩ = some (.int .i64 0) := KC.cell 1
    have f1 : w2.frozen? ⟨w.heap.size + 1 + 1, 1, none⟩ = false := KC.frozen 1
    have ca2 : w2.cell? ⟨w.heap.size, 2, none⟩ = some (.int .i64 p) := KA.cell 2
    have cb2 : w2.cell? ⟨w.heap.size + 1, 2, none⟩ = some (.int .i64 p') := KB.cell 2
    have cc2 : w2.cell? ⟨w.heap.size + 1 + 1, 2, none⟩ = some (.int .i64 0) := KC.cell 2
    have f2 : w2.frozen? ⟨w.heap.size + 1 + 1, 2, none⟩ = false := KC.frozen 2
    go_wp2_with fail
    have K' : Blk (((w2.setCell ⟨w.heap.size + 1 + 1, 0, none⟩ (.int .i64 0)).setCell ⟨w.heap.size + 1 + 1, 1, none⟩ (.int .i64 0)).setCell ⟨w.heap.size + 1 + 1, 2, none⟩ (.int .i64 0)) (w.heap.size + 1 + 1) 24 #[.int .i64 0, .int .i64 0, .int .i64 0] := ((KC.set_ 0 _).set_ 1 _).set_ 2 _
    have t0 := K'.cell 0; have t1 := K'.cell 1; have t2 := K'.cell 2
    exact bodyPost_ret (v := .agg #[.int .i64 0, .int .i64 0, .int .i64 0]) (by simp [results, Tryd.results10, go_sem, t0, t1, t2]) rfl ⟨by rw [E.out], ((B2.setCell (p := ⟨w.heap.size + 1 + 1, 0, none⟩) hb _).setCell (p := ⟨w.heap.size + 1 + 1, 1, none⟩) hb _).setCell (p := ⟨w.heap.size + 1 + 1, 2, none⟩) hb _⟩
  · cases h2 : stampB v' t' p'
    · have e : lsV v t p v' t' p' = .agg #[.int .i64 0, .int .i64 0, .int .i64 0] := by simp [lsV, h2]
      have E := hide e; have H1 := hide h1; have H2 := hide h2; clear e h1 h2
      go_enter Tryd.func10, Tryd.ntmps10
      go_wp2_with fail
      have b1 : Below w.heap.size w (((w.alloc (.cells #[.int .i64 v, .int .i64 t, .int .i64 p] 24)).alloc (.cells #[.int .i64 v', .int .i64 t', .int .i64 p'] 24)).alloc (.cells #[.int .i64 0, .int .i64 0, .int .i64 0] 24)) := (((Below.refl _ _).alloc (Nat.le_refl _) _).alloc (by simp) _).alloc (by simp <;> omega) _
      have KA := ((Blk.new w 24 #[.int .i64 v, .int .i64 t, .int .i64 p]).alloc (.cells #[.int .i64 v', .int .i64 t', .int .i64 p'] 24)).alloc (.cells #[.int .i64 0, .int .i64 0, .int .i64 0] 24)
      have KB := (Blk.new (w.alloc (.cells #[.int .i64 v, .int .i64 t, .int .i64 p] 24)) 24 #[.int .i64 v', .int .i64 t', .int .i64 p']).alloc (.cells #[.int .i64 0, .int .i64 0, .int .i64 0] 24)
      have KC := Blk.new ((w.alloc (.cells #[.int .i64 v, .int .i64 t, .int .i64 p] 24)).alloc (.cells #[.int .i64 v', .int .i64 t', .int .i64 p'] 24)) 24 #[.int .i64 0, .int .i64 0, .int .i64 0]
      simp only [World.size_alloc] at KB KC
      generalize (((w.alloc (.cells #[.int .i64 v, .int .i64 t, .int .i64 p] 24)).alloc (.cells #[.int .i64 v', .int .i64 t', .int .i64 p'] 24)).alloc (.cells #[.int .i64 0, .int .i64 0, .int .i64 0] 24)) = w1 at *
      have B1 := b1
      have hb : w.heap.size ≤ w.heap.size + 1 + 1 := by omega
      refine (impl_StampedValid_c).mono ?_
      rintro e w2 ⟨rfl, b2⟩
      have B2 := below_step B1 b2
      replace KA := KA.belowAll b2
      replace KB := KB.belowAll b2
      replace KC := KC.belowAll b2
      rw [H1.out]
      have ca0 : w2.cell? ⟨w.heap.size, 0, none⟩ = some (.int .i64 v) := KA.cell 0
      have cb0 : w2.cell? ⟨w.heap.size + 1, 0, none⟩ = some (.int .i64 v') := KB.cell 0
      have cc0 : w2.cell? ⟨w.heap.size + 1 + 1, 0, none⟩ = some (.int .i64 0) := KC.cell 0
      have f0 : w2.frozen? ⟨w.heap.size + 1 + 1, 0, none⟩ = false := KC.frozen 0
      have ca1 : w2.cell? ⟨w.heap.size, 1, none⟩ = some (.int .i64 t) := KA.cell 1
      have cb1 : w2.cell? ⟨w.heap.size + 1, 1, none⟩ = some (.int .i64 t') := KB.cell 1
      have cc1 : w2.cell? ⟨w.heap.size + 1 + 1, 1, none⟩ = some (.int .i64 0) := KC.cell 1
      have f1 : w2.frozen? ⟨w.heap.size + 1 + 1, 1, none⟩ = false := KC.frozen 1
      have ca2 : w2.cell? ⟨w.heap.size, 2, none⟩ = some (.int .i64 p) := KA.cell 2
      have cb2 : w2.cell? ⟨w.heap.size + 1, 2, none⟩ = some (.int .i64 p') := KB.cell 2
      have cc2 : w2.cell? ⟨w.heap.size + 1 + 1, 2, none⟩ = some (.int .i64 0) := KC.cell 2
      have f2 : w2.frozen? ⟨w.heap.size + 1 + 1, 2, none⟩ = false := KC.frozen 2
      go_wp2_with fail
      clear ca0 cb0 cc0 ca1 cb1 cc1 ca2 cb2 cc2 f0 f1 f2
      refine (impl_StampedValid_c).mono ?_
      rintro e w3 ⟨rfl, b3⟩
      have B3 := below_step B2 b3
      replace KA := KA.belowAll b3
      replace KB := KB.belowAll b3
      replace KC := KC.belowAll b3
      rw [H2.out]
      have ca0 : w3.cell? ⟨w.heap.size, 0, none⟩ = some (.int .i64 v) := KA.cell 0
      have cb0 : w3.cell? ⟨w.heap.size + 1, 0, none⟩ = some (.int .i64 v') := KB.cell 0
      have cc0 : w3.cell? ⟨w.heap.size + 1 + 1, 0, none⟩ = some (.int .i64 0) := KC.cell 0
      have f0 : w3.frozen? ⟨w.heap.size + 1 + 1, 0, none⟩ = false := KC.frozen 0
      have ca1 : w3.cell? ⟨w.heap.size, 1, none⟩ = some (.int .i64 t) := KA.cell 1
      have cb1 : w3.cell? ⟨w.heap.size + 1, 1, none⟩ = some (.int .i64 t') := KB.cell 1
      have cc1 : w3.cell? ⟨w.heap.size + 1 + 1, 1, none⟩ = some (.int .i64 0) := KC.cell 1
      have f1 : w3.frozen? ⟨w.heap.size + 1 + 1, 1, none⟩ = false := KC.frozen 1
      have ca2 : w3.cell? ⟨w.heap.size, 2, none⟩ = some (.int .i64 p) := KA.cell 2
      have cb2 : w3.cell? ⟨w.heap.size + 1, 2, none⟩ = some (.int .i64 p') := KB.cell 2
      have cc2 : w3.cell? ⟨w.heap.size + 1 + 1, 2, none⟩ = some (.int .i64 0) := KC.cell 2
      have f2 : w3.frozen? ⟨w.heap.size + 1 + 1, 2, none⟩ = false := KC.frozen 2
      go_wp2_with fail
      have K' : Blk (((w3.setCell ⟨w.heap.size + 1 + 1, 0, none⟩ (.int .i64 0)).setCell ⟨w.heap.size + 1 + 1, 1, none⟩ (.int .i64 0)).setCell ⟨w.heap.size + 1 + 1, 2, none⟩ (.int .i64 0)) (w.heap.size + 1 + 1) 24 #[.int .i64 0, .int .i64 0, .int .i64 0] := ((KC.set_ 0 _).set_ 1 _).set_ 2 _
      have t0 := K'.cell 0; have t1 := K'.cell 1; have t2 := K'.cell 2
      exact bodyPost_ret (v := .agg #[.int .i64 0, .int .i64 0, .int .i64 0]) (by simp [results, Tryd.results10, go_sem, t0, t1, t2]) rfl ⟨by rw [E.out], ((B3.setCell (p := ⟨w.heap.size + 1 + 1, 0, none⟩) hb _).setCell (p := ⟨w.heap.size + 1 + 1, 1, none⟩) hb _).setCell (p := ⟨w.heap.size + 1 + 1, 2, none⟩) hb _⟩
    · have e : lsV v t p v' t' p' = pickV (laterB v t p v' t' p') v t p v' t' p' := by simp [lsV, h1, h2]
      have E := hide e; have H1 := hide h1; have H2 := hide h2; clear e h1 h2
      cases hl : laterB v t p v' t' p'
      · have HL := hide hl; clear hl
        go_enter Tryd.func10, Tryd.ntmps10
        go_wp2_with fail
        have b1 : Below w.heap.size w (((w.alloc (.cells #[.int .i64 v, .int .i64 t, .int .i64 p] 24)).alloc (.cells #[.int .i64 v', .int .i64 t', .int .i64 p'] 24)).alloc (.cells #[.int .i64 0, .int .i64 0, .int .i64 0] 24)) := (((Below.refl _ _).alloc (Nat.le_refl _) _).alloc (by simp) _).alloc (by simp <;> omega) _
        have KA := ((Blk.new w 24 #[.int .i64 v, .int .i64 t, .int .i64 p]).alloc (.cells #[.int .i64 v', .int .i64 t', .int .i64 p'] 24)).alloc (.cells #[.int .i64 0, .int .i64 0, .int .i64 0] 24)
        have KB := (Blk.new (w.alloc (.cells #[.int .i64 v, .int .i64 t, .int .i64 p] 24)) 24 #[.int .i64 v', .int .i64 t', .int .i64 p']).alloc (.cells #[.int .i64 0, .int .i64 0, .int .i64 0] 24)
        have KC := Blk.new ((w.alloc (.cells #[.int .i64 v, .int .i64 t, .int .i64 p] 24)).alloc (.cells #[.int .i64 v', .int .i64 t', .int .i64 p'] 24)) 24 #[.int .i64 0, .int .i64 0, .int .i64 0]
        simp only [World.size_alloc] at KB KC
        generalize (((w.alloc (.cells #[.int .i64 v, .int .i64 t, .int .i64 p] 24)).alloc (.cells #[.int .i64 v', .int .i64 t', .int .i64 p'] 24)).alloc (.cells #[.int .i64 0, .int .i64 0, .int .i64 0] 24)) = w1 at *
        have B1 := b1
        have hb : w.heap.size ≤ w.heap.size + 1 + 1 := by omega
        refine (impl_StampedValid_c).mono ?_
        rintro e w2 ⟨rfl, b2⟩
        have B2 := below_step B1 b2
        replace KA := KA.belowAll b2
        replace KB := KB.belowAll b2
        replace KC := KC.belowAll b2
        rw [H1.out]
        have ca0 : w2.cell? ⟨w.heap.size, 0, none⟩ = some (.int .i64 v) := KA.cell 0
        have cb0 : w2.cell? ⟨w.heap.size + 1, 0, none⟩ = some (.int .i64 v') := KB.cell 0
        have cc0 : w2.cell? ⟨w.heap.size + 1 + 1, 0, none⟩ = some (.int .i64 0) := KC.cell 0
        have f0 : w2.frozen? ⟨w.heap.size + 1 + 1, 0, none⟩ = false := KC.frozen 0
        have ca1 : w2.cell? ⟨w.heap.size, 1, none⟩ = some (.int .i64 t) := KA.cell 1
        have cb1 : w2.cell? ⟨w.heap.size + 1, 1, none⟩ = some (.int .i64 t') := KB.cell 1
        have cc1 : w2.cell? ⟨w.heap.size + 1 + 1, 1, none⟩ = some (.int .i64 0) := KC.cell 1
        have f1 : w2.frozen? ⟨w.heap.size + 1 + 1, 1, none⟩ = false := KC.frozen 1
        have ca2 : w2.cell? ⟨w.heap.size, 2, none⟩ = some (.int .i64 p) := KA.cell 2
        have cb2 : w2.cell? ⟨w.heap.size + 1, 2, none⟩ = some (.int .i64 p') := KB.cell 2
        have cc2 : w2.cell? ⟨w.heap.size + 1 + 1, 2, none⟩ = some (.int .i64 0) := KC.cell 2
        have f2 : w2.frozen? ⟨w.heap.size + 1 + 1, 2, none⟩ = false := KC.frozen 2
        go_wp2_with fail
        clear ca0 cb0 cc0 ca1 cb1 cc1 ca2 cb2 cc2 f0 f1 f2
        refine (impl_StampedValid_c).mono ?_
        rintro e w3 ⟨rfl, b3⟩
        have B3 := below_step B2 b3
        replace KA := KA.belowAll b3
        replace KB := KB.belowAll b3
        replace KC := KC.belowAll b3
        rw [H2.out]
        have ca0 : w3.cell? ⟨w.heap.size, 0, none⟩ = some (.int .i64 v) := KA.cell 0
        have cb0 : w3.cell? ⟨w.heap.size + 1, 0, none⟩ = some (.int .i64 v') := KB.cell 0
        have cc0 : w3.cell? ⟨w.heap.size + 1 + 1, 0, none⟩ = some (.int .i64 0) := KC.cell 0
        have f0 : w3.frozen? ⟨w.heap.size + 1 + 1, 0, none⟩ = false := KC.frozen 0
        have ca1 : w3.cell? ⟨w.heap.size, 1, none⟩ = some (.int .i64 t) := KA.cell 1
        have cb1 : w3.cell? ⟨w.heap.size + 1, 1, none⟩ = some (.int .i64 t') := KB.cell 1
        have cc1 : w3.cell? ⟨w.heap.size + 1 + 1, 1, none⟩ = some (.int .i64 0) := KC.cell 1
        have f1 : w3.frozen? ⟨w.heap.size + 1 + 1, 1, none⟩ = false := KC.frozen 1
        have ca2 : w3.cell? ⟨w.heap.size, 2, none⟩ = some (.int .i64 p) := KA.cell 2
        have cb2 : w3.cell? ⟨w.heap.size + 1, 2, none⟩ = some (.int .i64 p') := KB.cell 2
        have cc2 : w3.cell? ⟨w.heap.size + 1 + 1, 2, none⟩ = some (.int .i64 0) := KC.cell 2
        have f2 : w3.frozen? ⟨w.heap.size + 1 + 1, 2, none⟩ = false := KC.frozen 2
        go_wp2_with fail
        refine (later_c).mono ?_
        rintro e w4 ⟨rfl, b4⟩
        clear ca0 cb0 cc0 ca1 cb1 cc1 ca2 cb2 cc2 f0 f1 f2
        have B4 := below_step B3 b4
        replace KA := KA.belowAll b4
        replace KB := KB.belowAll b4
        replace KC := KC.belowAll b4
        have ca0 : w4.cell? ⟨w.heap.size, 0, none⟩ = some (.int .i64 v) := KA.cell 0
        have cb0 : w4.cell? ⟨w.heap.size + 1, 0, none⟩ = some (.int .i64 v') := KB.cell 0
        have cc0 : w4.cell? ⟨w.heap.size + 1 + 1, 0, none⟩ = some (.int .i64 0) := KC.cell 0
        have f0 : w4.frozen? ⟨w.heap.size + 1 + 1, 0, none⟩ = false := KC.frozen 0
        have ca1 : w4.cell? ⟨w.heap.size, 1, none⟩ = some (.int .i64 t) := KA.cell 1
        have cb1 : w4.cell? ⟨w.heap.size + 1, 1, none⟩ = some (.int .i64 t') := KB.cell 1
        have cc1 : w4.cell? ⟨w.heap.size + 1 + 1, 1, none⟩ = some (.int .i64 0) := KC.cell 1
        have f1 : w4.frozen? ⟨w.heap.size + 1 + 1, 1, none⟩ = false := KC.frozen 1
        have ca2 : w4.cell? ⟨w.heap.size, 2, none⟩ = some (.int .i64 p) := KA.cell 2
        have cb2 : w4.cell? ⟨w.heap.size + 1, 2, none⟩ = some (.int .i64 p') := KB.cell 2
        have cc2 : w4.cell? ⟨w.heap.size + 1 + 1, 2, none⟩ = some (.int .i64 0) := KC.cell 2
        have f2 : w4.frozen? ⟨w.heap.size + 1 + 1, 2, none⟩ = false := KC.frozen 2
        replace E := hide (E.out.trans (by rw [HL.out]; rfl : _ = (.agg #[.int .i64 v, .int .i64 t, .int .i64 p] : Value)))
        rw [HL.out]
        simp only [pickV, Bool.false_eq_true, if_false]
        go_wp2_with fail
        have K' : Blk (((w4.setCell ⟨w.heap.size + 1 + 1, 0, none⟩ (.int .i64 v)).setCell ⟨w.heap.size + 1 + 1, 1, none⟩ (.int .i64 t)).setCell ⟨w.heap.size + 1 + 1, 2, none⟩ (.int .i64 p)) (w.heap.size + 1 + 1) 24 #[.int .i64 v, .int .i64 t, .int .i64 p] := ((KC.set_ 0 _).set_ 1 _).set_ 2 _
        have t0 := K'.cell 0; have t1 := K'.cell 1; have t2 := K'.cell 2
        exact bodyPost_ret (v := .agg #[.int .i64 v, .int .i64 t, .int .i64 p]) (by simp [results, Tryd.results10, go_sem, t0, t1, t2]) rfl ⟨by rw [E.out], ((B4.setCell (p := ⟨w.heap.size + 1 + 1, 0, none⟩) hb _).setCell (p := ⟨w.heap.size + 1 + 1, 1, none⟩) hb _).setCell (p := ⟨w.heap.size + 1 + 1, 2, none⟩) hb _⟩
      · have HL := hide hl; clear hl
        go_enter Tryd.func10, Tryd.ntmps10
        go_wp2_with fail
        have b1 : Below w.heap.size w (((w.alloc (.cells #[.int .i64 v, .int .i64 t, .int .i64 p] 24)).alloc (.cells #[.int .i64 v', .int .i64 t', .int .i64 p'] 24)).alloc (.cells #[.int .i64 0, .int .i64 0, .int .i64 0] 24)) := (((Below.refl _ _).alloc (Nat.le_refl _) _).alloc (by simp) _).alloc (by simp <;> omega) _
        have KA := ((Blk.new w 24 #[.int .i64 v, .int .i64 t, .int .i64 p]).alloc (.cells #[.int .i64 v', .int .i64 t', .int .i64 p'] 24)).alloc (.cells #[.int .i64 0, .int .i64 0, .int .i64 0] 24)
        have KB := (Blk.new (w.alloc (.cells #[.int .i64 v, .int .i64 t, .int .i64 p] 24)) 24 #[.int .i64 v', .int .i64 t', .int .i64 p']).alloc (.cells #[.int .i64 0, .int .i64 0, .int .i64 0] 24)
        have KC := Blk.new ((w.alloc (.cells #[.int .i64 v, .int .i64 t, .int .i64 p] 24)).alloc (.cells #[.int .i64 v', .int .i64 t', .int .i64 p'] 24)) 24 #[.int .i64 0, .int .i64 0, .int .i64 0]
        simp only [World.size_alloc] at KB KC
        generalize (((w.alloc (.cells #[.int .i64 v, .int .i64 t, .int .i64 p] 24)).alloc (.cells #[.int .i64 v', .int .i64 t', .int .i64 p'] 24)).alloc (.cells #[.int .i64 0, .int .i64 0, .int .i64 0] 24)) = w1 at *
        have B1 := b1
        have hb : w.heap.size ≤ w.heap.size + 1 + 1 := by omega
        refine (impl_StampedValid_c).mono ?_
        rintro e w2 ⟨rfl, b2⟩
        have B2 := below_step B1 b2
        replace KA := KA.belowAll b2
        replace KB := KB.belowAll b2
        replace KC := KC.belowAll b2
        rw [H1.out]
        have ca0 : w2.cell? ⟨w.heap.size, 0, none⟩ = some (.int .i64 v) := KA.cell 0
        have cb0 : w2.cell? ⟨w.heap.size + 1, 0, none⟩ = some (.int .i64 v') := KB.cell 0
        have cc0 : w2.cell? ⟨w.heap.size + 1 + 1, 0, none⟩ = some (.int .i64 0) := KC.cell 0
        have f0 : w2.frozen? ⟨w.heap.size + 1 + 1, 0, none⟩ = false := KC.frozen 0
        have ca1 : w2.cell? ⟨w.heap.size, 1, none⟩ = some (.int .i64 t) := KA.cell 1
        have cb1 : w2.cell? ⟨w.heap.size + 1, 1, none⟩ = some (.int .i64 t') := KB.cell 1
        have cc1 : w2.cell? ⟨w.heap.size + 1 + 1, 1, none⟩ = some (.int .i64 0) := KC.cell 1
        have f1 : w2.frozen? ⟨w.heap.size + 1 + 1, 1, none⟩ = false := KC.frozen 1
        have ca2 : w2.cell? ⟨w.heap.size, 2, none⟩ = some (.int .i64 p) := KA.cell 2
        have cb2 : w2.cell? ⟨w.heap.size + 1, 2, none⟩ = some (.int .i64 p') := KB.cell 2
        have cc2 : w2.cell? ⟨w.heap.size + 1 + 1, 2, none⟩ = some (.int .i64 0) := KC.cell 2
        have f2 : w2.frozen? ⟨w.heap.size + 1 + 1, 2, none⟩ = false := KC.frozen 2
        go_wp2_with fail
        clear ca0 cb0 cc0 ca1 cb1 cc1 ca2 cb2 cc2 f0 f1 f2
        refine (impl_StampedValid_c).mono ?_
        rintro e w3 ⟨rfl, b3⟩
        have B3 := below_step B2 b3
        replace KA := KA.belowAll b3
        replace KB := KB.belowAll b3
        replace KC := KC.belowAll b3
        rw [H2.out]
        have ca0 : w3.cell? ⟨w.heap.size, 0, none⟩ = some (.int .i64 v) := KA.cell 0
        have cb0 : w3.cell? ⟨w.heap.size + 1, 0, none⟩ = some (.int .i64 v') := KB.cell 0
        have cc0 : w3.cell? ⟨w.heap.size + 1 + 1, 0, none⟩ = some (.int .i64 0) := KC.cell 0
        have f0 : w3.frozen? ⟨w.heap.size + 1 + 1, 0, none⟩ = false := KC.frozen 0
        have ca1 : w3.cell? ⟨w.heap.size, 1, none⟩ = some (.int .i64 t) := KA.cell 1
        have cb1 : w3.cell? ⟨w.heap.size + 1, 1, none⟩ = some (.int .i64 t') := KB.cell 1
        have cc1 : w3.cell? ⟨w.heap.size + 1 + 1, 1, none⟩ = some (.int .i64 0) := KC.cell 1
        have f1 : w3.frozen? ⟨w.heap.size + 1 + 1, 1, none⟩ = false := KC.frozen 1
        have ca2 : w3.cell? ⟨w.heap.size, 2, none⟩ = some (.int .i64 p) := KA.cell 2
        have cb2 : w3.cell? ⟨w.heap.size + 1, 2, none⟩ = some (.int .i64 p') := KB.cell 2
        have cc2 : w3.cell? ⟨w.heap.size + 1 + 1, 2, none⟩ = some (.int .i64 0) := KC.cell 2
        have f2 : w3.frozen? ⟨w.heap.size + 1 + 1, 2, none⟩ = false := KC.frozen 2
        go_wp2_with fail
        refine (later_c).mono ?_
        rintro e w4 ⟨rfl, b4⟩
        clear ca0 cb0 cc0 ca1 cb1 cc1 ca2 cb2 cc2 f0 f1 f2
        have B4 := below_step B3 b4
        replace KA := KA.belowAll b4
        replace KB := KB.belowAll b4
        replace KC := KC.belowAll b4
        have ca0 : w4.cell? ⟨w.heap.size, 0, none⟩ = some (.int .i64 v) := KA.cell 0
        have cb0 : w4.cell? ⟨w.heap.size + 1, 0, none⟩ = some (.int .i64 v') := KB.cell 0
        have cc0 : w4.cell? ⟨w.heap.size + 1 + 1, 0, none⟩ = some (.int .i64 0) := KC.cell 0
        have f0 : w4.frozen? ⟨w.heap.size + 1 + 1, 0, none⟩ = false := KC.frozen 0
        have ca1 : w4.cell? ⟨w.heap.size, 1, none⟩ = some (.int .i64 t) := KA.cell 1
        have cb1 : w4.cell? ⟨w.heap.size + 1, 1, none⟩ = some (.int .i64 t') := KB.cell 1
        have cc1 : w4.cell? ⟨w.heap.size + 1 + 1, 1, none⟩ = some (.int .i64 0) := KC.cell 1
        have f1 : w4.frozen? ⟨w.heap.size + 1 + 1, 1, none⟩ = false := KC.frozen 1
        have ca2 : w4.cell? ⟨w.heap.size, 2, none⟩ = some (.int .i64 p) := KA.cell 2
        have cb2 : w4.cell? ⟨w.heap.size + 1, 2, none⟩ = some (.int .i64 p') := KB.cell 2
        have cc2 : w4.cell? ⟨w.heap.size + 1 + 1, 2, none⟩ = some (.int .i64 0) := KC.cell 2
        have f2 : w4.frozen? ⟨w.heap.size + 1 + 1, 2, none⟩ = false := KC.frozen 2
        replace E := hide (E.out.trans (by rw [HL.out]; rfl : _ = (.agg #[.int .i64 v', .int .i64 t', .int .i64 p'] : Value)))
        rw [HL.out]
        simp only [pickV, if_true]
        go_wp2_with fail
        have K' : Blk (((w4.setCell ⟨w.heap.size + 1 + 1, 0, none⟩ (.int .i64 v')).setCell ⟨w.heap.size + 1 + 1, 1, none⟩ (.int .i64 t')).setCell ⟨w.heap.size + 1 + 1, 2, none⟩ (.int .i64 p')) (w.heap.size + 1 + 1) 24 #[.int .i64 v', .int .i64 t', .int .i64 p'] := ((KC.set_ 0 _).set_ 1 _).set_ 2 _
        have t0 := K'.cell 0; have t1 := K'.cell 1; have t2 := K'.cell 2
        exact bodyPost_ret (v := .agg #[.int .i64 v', .int .i64 t', .int .i64 p']) (by simp [results, Tryd.results10, go_sem, t0, t1, t2]) rfl ⟨by rw [E.out], ((B4.setCell (p := ⟨w.heap.size + 1 + 1, 0, none⟩) hb _).setCell (p := ⟨w.heap.size + 1 + 1, 1, none⟩) hb _).setCell (p := ⟨w.heap.size + 1 + 1, 2, none⟩) hb _⟩

set_option maxHeartbeats 16000000 in
theorem spec_LaterStamped_c {v t p v' t' p' : Int} {w : World} :
    Calls Tryd.prog 11 #[.agg #[.int .i64 v, .int .i64 t, .int .i64 p], .agg #[.int .i64 v', .int .i64 t', .int .i64 p']] w fun e w' => e = .returned (lsV v t p v' t' p') ∧ Below w.heap.size w w' := by
  cases h1 : stampB v t p
  · have e : lsV v t p v' t' p' = .agg #[.int .i64 0, .int .i64 0, .int .i64 0] := by simp [lsV, h1]
    have E := hide e; have H1 := hide h1; clear e h1
    go_enter Tryd.func11, Tryd.ntmps11
    go_wp2_with fail
    have b1 : Below w.heap.size w (((w.alloc (.cells #[.int .i64 v, .int .i64 t, .int .i64 p] 24)).alloc (.cells #[.int .i64 v', .int .i64 t', .int .i64 p'] 24)).alloc (.cells #[.int .i64 0, .int .i64 0, .int .i64 0] 24)) := (((Below.refl _ _).alloc (Nat.le_refl _) _).alloc (by simp) _).alloc (by simp <;> omega) _
    have KA := ((Blk.new w 24 #[.int .i64 v, .int .i64 t, .int .i64 p]).alloc (.cells #[.int .i64 v', .int .i64 t', .int .i64 p'] 24)).alloc (.cells #[.int .i64 0, .int .i64 0, .int .i64 0] 24)
    have KB := (Blk.new (w.alloc (.cells #[.int .i64 v, .int .i64 t, .int .i64 p] 24)) 24 #[.int .i64 v', .int .i64 t', .int .i64 p']).alloc (.cells #[.int .i64 0, .int .i64 0, .int .i64 0] 24)
    have KC := Blk.new ((w.alloc (.cells #[.int .i64 v, .int .i64 t, .int .i64 p] 24)).alloc (.cells #[.int .i64 v', .int .i64 t', .int .i64 p'] 24)) 24 #[.int .i64 0, .int .i64 0, .int .i64 0]
    simp only [World.size_alloc] at KB KC
    generalize (((w.alloc (.cells #[.int .i64 v, .int .i64 t, .int .i64 p] 24)).alloc (.cells #[.int .i64 v', .int .i64 t', .int .i64 p'] 24)).alloc (.cells #[.int .i64 0, .int .i64 0, .int .i64 0] 24)) = w1 at *
    have B1 := b1
    have hb : w.heap.size ≤ w.heap.size + 1 + 1 := by omega
    refine (spec_StampedValid_c).mono ?_
    rintro e w2 ⟨rfl, b2⟩
    have B2 := below_step B1 b2
    replace KA := KA.belowAll b2
    replace KB := KB.belowAll b2
    replace KC := KC.belowAll b2
    rw [H1.out]
    have ca0 : w2.cell? ⟨w.heap.size, 0, none⟩ = some (.int .i64 v) := KA.cell 0
    have cb0 : w2.cell? ⟨w.heap.size + 1, 0, none⟩ = some (.int .i64 v') := KB.cell 0
    have cc0 : w2.cell? ⟨w.heap.size + 1 + 1, 0, none⟩ = some (.int .i64 0) := KC.cell 0
    have f0 : w2.frozen? ⟨w.heap.size + 1 + 1, 0, none⟩ = false := KC.frozen 0
    have ca1 : w2.cell? ⟨w.heap.size, 1, none⟩ = some (.int .i64 t) := KA.cell 1
    have cb1 : w2.cell? ⟨w.heap.size + 1, 1, none⟩ = some (.int .i64 t') := KB.cell 1
    have cc1 : w2.cell? ⟨w.heap.size + 1 + 1, 1, none⟩ = some (.int .i64 0) := KC.cell 1
    have f1 : w2.frozen? ⟨w.heap.size + 1 + 1, 1, none⟩ = false := KC.frozen 1
    have ca2 : w2.cell? ⟨w.heap.size, 2, none⟩ = some (.int .i64 p) := KA.cell 2
    have cb2 : w2.cell? ⟨w.heap.size + 1, 2, none⟩ = some (.int .i64 p') := KB.cell 2
    have cc2 : w2.cell? ⟨w.heap.size + 1 + 1, 2, none⟩ = some (.int .i64 0) := KC.cell 2
    have f2 : w2.frozen? ⟨w.heap.size + 1 + 1, 2, none⟩ = false := KC.frozen 2
    go_wp2_with fail
    have K' : Blk (((w2.setCell ⟨w.heap.size + 1 + 1, 0, none⟩ (.int .i64 0)).setCell ⟨w.heap.size + 1 + 1, 1, none⟩ (.int .i64 0)).setCell ⟨w.heap.size + 1 + 1, 2, none⟩ (.int .i64 0)) (w.heap.size + 1 + 1) 24 #[.int .i64 0, .int .i64 0, .int .i64 0] := ((KC.set_ 0 _).set_ 1 _).set_ 2 _
    have t0 := K'.cell 0; have t1 := K'.cell 1; have t2 := K'.cell 2
    exact bodyPost_ret (v := .agg #[.int .i64 0, .int .i64 0, .int .i64 0]) (by simp [results, Tryd.results11, go_sem, t0, t1, t2]) rfl ⟨by rw [E.out], ((B2.setCell (p := ⟨w.heap.size + 1 + 1, 0, none⟩) hb _).setCell (p := ⟨w.heap.size + 1 + 1, 1, none⟩) hb _).setCell (p := ⟨w.heap.size + 1 + 1, 2, none⟩) hb _⟩
  · cases h2 : stampB v' t' p'
    · have e : lsV v t p v' t' p' = .agg #[.int .i64 0, .int .i64 0, .int .i64 0] := by simp [lsV, h2]
      have E := hide e; have H1 := hide h1; have H2 := hide h2; clear e h1 h2
      go_enter Tryd.func11, Tryd.ntmps11
      go_wp2_with fail
      have b1 : Below w.heap.size w (((w.alloc (.cells #[.int .i64 v, .int .i64 t, .int .i64 p] 24)).alloc (.cells #[.int .i64 v', .int .i64 t', .int .i64 p'] 24)).alloc (.cells #[.int .i64 0, .int .i64 0, .int .i64 0] 24)) := (((Below.refl _ _).alloc (Nat.le_refl _) _).alloc (by simp) _).alloc (by simp <;> omega) _
      have KA := ((Blk.new w 24 #[.int .i64 v, .int .i64 t, .int .i64 p]).alloc (.cells #[.int .i64 v', .int .i64 t', .int .i64 p'] 24)).alloc (.cells #[.int .i64 0, .int .i64 0, .int .i64 0] 24)
      have KB := (Blk.new (w.alloc (.cells #[.int .i64 v, .int .i64 t, .int .i64 p] 24)) 24 #[.int .i64 v', .int .i64 t', .int .i64 p']).alloc (.cells #[.int .i64 0, .int .i64 0, .int .i64 0] 24)
      have KC := Blk.new ((w.alloc (.cells #[.int .i64 v, .int .i64 t, .int .i64 p] 24)).alloc (.cells #[.int .i64 v', .int .i64 t', .int .i64 p'] 24)) 24 #[.int .i64 0, .int .i64 0, .int .i64 0]
      simp only [World.size_alloc] at KB KC
      generalize (((w.alloc (.cells #[.int .i64 v, .int .i64 t, .int .i64 p] 24)).alloc (.cells #[.int .i64 v', .int .i64 t', .int .i64 p'] 24)).alloc (.cells #[.int .i64 0, .int .i64 0, .int .i64 0] 24)) = w1 at *
      have B1 := b1
      have hb : w.heap.size ≤ w.heap.size + 1 + 1 := by omega
      refine (spec_StampedValid_c).mono ?_
      rintro e w2 ⟨rfl, b2⟩
      have B2 := below_step B1 b2
      replace KA := KA.belowAll b2
      replace KB := KB.belowAll b2
      replace KC := KC.belowAll b2
      rw [H1.out]
      have ca0 : w2.cell? ⟨w.heap.size, 0, none⟩ = some (.int .i64 v) := KA.cell 0
      have cb0 : w2.cell? ⟨w.heap.size + 1, 0, none⟩ = some (.int .i64 v') := KB.cell 0
      have cc0 : w2.cell? ⟨w.heap.size + 1 + 1, 0, none⟩ = some (.int .i64 0) := KC.cell 0
      have f0 : w2.frozen? ⟨w.heap.size + 1 + 1, 0, none⟩ = false := KC.frozen 0
      have ca1 : w2.cell? ⟨w.heap.size, 1, none⟩ = some (.int .i64 t) := KA.cell 1
      have cb1 : w2.cell? ⟨w.heap.size + 1, 1, none⟩ = some (.int .i64 t') := KB.cell 1
      have cc1 : w2.cell? ⟨w.heap.size + 1 + 1, 1, none⟩ = some (.int .i64 0) := KC.cell 1
      have f1 : w2.frozen? ⟨w.heap.size + 1 + 1, 1, none⟩ = false := KC.frozen 1
      have ca2 : w2.cell? ⟨w.heap.size, 2, none⟩ = some (.int .i64 p) := KA.cell 2
      have cb2 : w2.cell? ⟨w.heap.size + 1, 2, none⟩ = some (.int .i64 p') := KB.cell 2
      have cc2 : w2.cell? ⟨w.heap.size + 1 + 1, 2, none⟩ = some (.int .i64 0) := KC.cell 2
      have f2 : w2.frozen? ⟨w.heap.size + 1 + 1, 2, none⟩ = false := KC.frozen 2
      go_wp2_with fail
      clear ca0 cb0 cc0 ca1 cb1 cc1 ca2 cb2 cc2 f0 f1 f2
      refine (spec_StampedValid_c).mono ?_
      rintro e w3 ⟨rfl, b3⟩
      have B3 := below_step B2 b3
      replace KA := KA.belowAll b3
      replace KB := KB.belowAll b3
      replace KC := KC.belowAll b3
      rw [H2.out]
      have ca0 : w3.cell? ⟨w.heap.size, 0, none⟩ = some (.int .i64 v) := KA.cell 0
      have cb0 : w3.cell? ⟨w.heap.size + 1, 0, none⟩ = some (.int .i64 v') := KB.cell 0
      have cc0 : w3.cell? ⟨w.heap.size + 1 + 1, 0, none⟩ = some (.int .i64 0) := KC.cell 0
      have f0 : w3.frozen? ⟨w.heap.size + 1 + 1, 0, none⟩ = false := KC.frozen 0
      have ca1 : w3.cell? ⟨w.heap.size, 1, none⟩ = some (.int .i64 t) := KA.cell 1
      have cb1 : w3.cell? ⟨w.heap.size + 1, 1, none⟩ = some (.int .i64 t') := KB.cell 1
      have cc1 : w3.cell? ⟨w.heap.size + 1 + 1, 1, none⟩ = some (.int .i64 0) := KC.cell 1
      have f1 : w3.frozen? ⟨w.heap.size + 1 + 1, 1, none⟩ = false := KC.frozen 1
      have ca2 : w3.cell? ⟨w.heap.size, 2, none⟩ = some (.int .i64 p) := KA.cell 2
      have cb2 : w3.cell? ⟨w.heap.size + 1, 2, none⟩ = some (.int .i64 p') := KB.cell 2
      have cc2 : w3.cell? ⟨w.heap.size + 1 + 1, 2, none⟩ = some (.int .i64 0) := KC.cell 2
      have f2 : w3.frozen? ⟨w.heap.size + 1 + 1, 2, none⟩ = false := KC.frozen 2
      go_wp2_with fail
      have K' : Blk (((w3.setCell ⟨w.heap.size + 1 + 1, 0, none⟩ (.int .i64 0)).setCell ⟨w.heap.size + 1 + 1, 1, none⟩ (.int .i64 0)).setCell ⟨w.heap.size + 1 + 1, 2, none⟩ (.int .i64 0)) (w.heap.size + 1 + 1) 24 #[.int .i64 0, .int .i64 0, .int .i64 0] := ((KC.set_ 0 _).set_ 1 _).set_ 2 _
      have t0 := K'.cell 0; have t1 := K'.cell 1; have t2 := K'.cell 2
      exact bodyPost_ret (v := .agg #[.int .i64 0, .int .i64 0, .int .i64 0]) (by simp [results, Tryd.results11, go_sem, t0, t1, t2]) rfl ⟨by rw [E.out], ((B3.setCell (p := ⟨w.heap.size + 1 + 1, 0, none⟩) hb _).setCell (p := ⟨w.heap.size + 1 + 1, 1, none⟩) hb _).setCell (p := ⟨w.heap.size + 1 + 1, 2, none⟩) hb _⟩
    · have H1 := hide h1; have H2 := hide h2
      have key : ∀ b, laterB v t p v' t' p' = b → lsV v t p v' t' p' = pickV b v t p v' t' p' := fun b hb => by simp [lsV, h1, h2, hb]
      clear h1 h2
      rcases Int.lt_trichotomy t t' with g1 | g1 | g1
      · have g1' : ¬ t' < t := by omega
        have hk : laterB v t p v' t' p' = true := by rw [laterB_iff]; omega
        have E := hide ((key _ hk).trans (by rfl : _ = (.agg #[.int .i64 v', .int .i64 t', .int .i64 p'] : Value))); clear hk key
        go_enter Tryd.func11, Tryd.ntmps11
        go_wp2_with fail
        have b1 : Below w.heap.size w (((w.alloc (.cells #[.int .i64 v, .int .i64 t, .int .i64 p] 24)).alloc (.cells #[.int .i64 v', .int .i64 t', .int .i64 p'] 24)).alloc (.cells #[.int .i64 0, .int .i64 0, .int .i64 0] 24)) := (((Below.refl _ _).alloc (Nat.le_refl _) _).alloc (by simp) _).alloc (by simp <;> omega) _
        have KA := ((Blk.new w 24 #[.int .i64 v, .int .i64 t, .int .i64 p]).alloc (.cells #[.int .i64 v', .int .i64 t', .int .i64 p'] 24)).alloc (.cells #[.int .i64 0, .int .i64 0, .int .i64 0] 24)
        have KB := (Blk.new (w.alloc (.cells #[.int .i64 v, .int .i64 t, .int .i64 p] 24)) 24 #[.int .i64 v', .int .i64 t', .int .i64 p']).alloc (.cells #[.int .i64 0, .int .i64 0, .int .i64 0] 24)
        have KC := Blk.new ((w.alloc (.cells #[.int .i64 v, .int .i64 t, .int .i64 p] 24)).alloc (.cells #[.int .i64 v', .int .i64 t', .int .i64 p'] 24)) 24 #[.int .i64 0, .int .i64 0, .int .i64 0]
        simp only [World.size_alloc] at KB KC
        generalize (((w.alloc (.cells #[.int .i64 v, .int .i64 t, .int .i64 p] 24)).alloc (.cells #[.int .i64 v', .int .i64 t', .int .i64 p'] 24)).alloc (.cells #[.int .i64 0, .int .i64 0, .int .i64 0] 24)) = w1 at *
        have B1 := b1
        have hb : w.heap.size ≤ w.heap.size + 1 + 1 := by omega
        refine (spec_StampedValid_c).mono ?_
        rintro e w2 ⟨rfl, b2⟩
        have B2 := below_step B1 b2
        replace KA := KA.belowAll b2
        replace KB := KB.belowAll b2
        replace KC := KC.belowAll b2
        rw [H1.out]
        have ca0 : w2.cell? ⟨w.heap.size, 0, none⟩ = some (.int .i64 v) := KA.cell 0
        have cb0 : w2.cell? ⟨w.heap.size + 1, 0, none⟩ = some (.int .i64 v') := KB.cell 0
        have cc0 : w2.cell? ⟨w.heap.size + 1 + 1, 0, none⟩ = some (.int .i64 0) := KC.cell 0
        have f0 : w2.frozen? ⟨w.heap.size + 1 + 1, 0, none⟩ = false := KC.frozen 0
        have ca1 : w2.cell? ⟨w.heap.size, 1, none⟩ = some (.int .i64 t) := KA.cell 1
        have cb1 : w2.cell? ⟨w.heap.size + 1, 1, none⟩ = some (.int .i64 t') := KB.cell 1
        have cc1 : w2.cell? ⟨w.heap.size + 1 + 1, 1, none⟩ = some (.int .i64 0) := KC.cell 1
        have f1 : w2.frozen? ⟨w.heap.size + 1 + 1, 1, none⟩ = false := KC.frozen 1
        have ca2 : w2.cell? ⟨w.heap.size, 2, none⟩ = some (.int .i64 p) := KA.cell 2
        have cb2 : w2.cell? ⟨w.heap.size + 1, 2, none⟩ = some (.int .i64 p') := KB.cell 2
        have cc2 : w2.cell? ⟨w.heap.size + 1 + 1, 2, none⟩ = some (.int .i64 0) := KC.cell 2
        have f2 : w2.frozen? ⟨w.heap.size + 1 + 1, 2, none⟩ = false := KC.frozen 2
        go_wp2_with fail
        clear ca0 cb0 cc0 ca1 cb1 cc1 ca2 cb2 cc2 f0 f1 f2
        refine (spec_StampedValid_c).mono ?_
        rintro e w3 ⟨rfl, b3⟩
        have B3 := below_step B2 b3
        replace KA := KA.belowAll b3
        replace KB := KB.belowAll b3
        replace KC := KC.belowAll b3
        rw [H2.out]
        have ca0 : w3.cell? ⟨w.heap.size, 0, none⟩ = some (.int .i64 v) := KA.cell 0
        have cb0 : w3.cell? ⟨w.heap.size + 1, 0, none⟩ = some (.int .i64 v') := KB.cell 0
        have cc0 : w3.cell? ⟨w.heap.size + 1 + 1, 0, none⟩ = some (.int .i64 0) := KC.cell 0
        have f0 : w3.frozen? ⟨w.heap.size + 1 + 1, 0, none⟩ = false := KC.frozen 0
        have ca1 : w3.cell? ⟨w.heap.size, 1, none⟩ = some (.int .i64 t) := KA.cell 1
        have cb1 : w3.cell? ⟨w.heap.size + 1, 1, none⟩ = some (.int .i64 t') := KB.cell 1
        have cc1 : w3.cell? ⟨w.heap.size + 1 + 1, 1, none⟩ = some (.int .i64 0) := KC.cell 1
        have f1 : w3.frozen? ⟨w.heap.size + 1 + 1, 1, none⟩ = false := KC.frozen 1
        have ca2 : w3.cell? ⟨w.heap.size, 2, none⟩ = some (.int .i64 p) := KA.cell 2
        have cb2 : w3.cell? ⟨w.heap.size + 1, 2, none⟩ = some (.int .i64 p') := KB.cell 2
        have cc2 : w3.cell? ⟨w.heap.size + 1 + 1, 2, none⟩ = some (.int .i64 0) := KC.cell 2
        have f2 : w3.frozen? ⟨w.heap.size + 1 + 1, 2, none⟩ = false := KC.frozen 2
        go_wp2_with fail
        have K' : Blk (((w3.setCell ⟨w.heap.size + 1 + 1, 0, none⟩ (.int .i64 v')).setCell ⟨w.heap.size + 1 + 1, 1, none⟩ (.int .i64 t')).setCell ⟨w.heap.size + 1 + 1, 2, none⟩ (.int .i64 p')) (w.heap.size + 1 + 1) 24 #[.int .i64 v', .int .i64 t', .int .i64 p'] := ((KC.set_ 0 _).set_ 1 _).set_ 2 _
        have t0 := K'.cell 0; have t1 := K'.cell 1; have t2 := K'.cell 2
        exact bodyPost_ret (v := .agg #[.int .i64 v', .int .i64 t', .int .i64 p']) (by simp [results, Tryd.results11, go_sem, t0, t1, t2]) rfl ⟨by rw [E.out], ((B3.setCell (p := ⟨w.heap.size + 1 + 1, 0, none⟩) hb _).setCell (p := ⟨w.heap.size + 1 + 1, 1, none⟩) hb _).setCell (p := ⟨w.heap.size + 1 + 1, 2, none⟩) hb _⟩
      · subst g1
        rcases Int.lt_trichotomy p p' with g2 | g2 | g2
        · skip
          have hk : laterB v t p v' t p' = true := by rw [laterB_iff]; omega
          have E := hide ((key _ hk).trans (by rfl : _ = (.agg #[.int .i64 v', .int .i64 t, .int .i64 p'] : Value))); clear hk key
          go_enter Tryd.func11, Tryd.ntmps11
          go_wp2_with fail
          have b1 : Below w.heap.size w (((w.alloc (.cells #[.int .i64 v, .int .i64 t, .int .i64 p] 24)).alloc (.cells #[.int .i64 v', .int .i64 t, .int .i64 p'] 24)).alloc (.cells #[.int .i64 0, .int .i64 0, .int .i64 0] 24)) := (((Below.refl _ _).alloc (Nat.le_refl _) _).alloc (by simp) _).alloc (by simp <;> omega) _
          have KA := ((Blk.new w 24 #[.int .i64 v, .int .i64 t, .int .i64 p]).alloc (.cells #[.int .i64 v', .int .i64 t, .int .i64 p'] 24)).alloc (.cells #[.int .i64 0, .int .i64 0, .int .i64 0] 24)
          have KB := (Blk.new (w.alloc (.cells #[.int .i64 v, .int .i64 t, .int .i64 p] 24)) 24 #[.int .i64 v', .int .i64 t, .int .i64 p']).alloc (.cells #[.int .i64 0, .int .i64 0, .int .i64 0] 24)
          have KC := Blk.new ((w.alloc (.cells #[.int .i64 v, .int .i64 t, .int .i64 p] 24)).alloc (.cells #[.int .i64 v', .int .i64 t, .int .i64 p'] 24)) 24 #[.int .i64 0, .int .i64 0, .int .i64 0]
          simp only [World.size_alloc] at KB KC
          generalize (((w.alloc (.cells #[.int .i64 v, .int .i64 t, .int .i64 p] 24)).alloc (.cells #[.int .i64 v', .int .i64 t, .int .i64 p'] 24)).alloc (.cells #[.int .i64 0, .int .i64 0, .int .i64 0] 24)) = w1 at *
          have B1 := b1
          have hb : w.heap.size ≤ w.heap.size + 1 + 1 := by omega
          refine (spec_StampedValid_c).mono ?_
          rintro e w2 ⟨rfl, b2⟩
          have B2 := below_step B1 b2
          replace KA := KA.belowAll b2
          replace KB := KB.belowAll b2
          replace KC := KC.belowAll b2
          rw [H1.out]
          have ca0 : w2.cell? ⟨w.heap.size, 0, none⟩ = some (.int .i64 v) := KA.cell 0
          have cb0 : w2.cell? ⟨w.heap.size + 1, 0, none⟩ = some (.int .i64 v') := KB.cell 0
          have cc0 : w2.cell? ⟨w.heap.size + 1 + 1, 0, none⟩ = some (.int .i64 0) := KC.cell 0
          have f0 : w2.frozen? ⟨w.heap.size + 1 + 1, 0, none⟩ = false := KC.frozen 0
          have ca1 : w2.cell? ⟨w.heap.size, 1, none⟩ = some (.int .i64 t) := KA.cell 1
          have cb1 : w2.cell? ⟨w.heap.size + 1, 1, none⟩ = some (.int .i64 t) := KB.cell 1
          have cc1 : w2.cell? ⟨w.heap.size + 1 + 1, 1, none⟩ = some (.int .i64 0) := KC.cell 1
          have f1 : w2.frozen? ⟨w.heap.size + 1 + 1, 1, none⟩ = false := KC.frozen 1
          have ca2 : w2.cell? ⟨w.heap.size, 2, none⟩ = some (.int .i64 p) := KA.cell 2
          have cb2 : w2.cell? ⟨w.heap.size + 1, 2, none⟩ = some (.int .i64 p') := KB.cell 2
          have cc2 : w2.cell? ⟨w.heap.size + 1 + 1, 2, none⟩ = some (.int .i64 0) := KC.cell 2
          have f2 : w2.frozen? ⟨w.heap.size + 1 + 1, 2, none⟩ = false := KC.frozen 2
          go_wp2_with fail
          clear ca0 cb0 cc0 ca1 cb1 cc1 ca2 cb2 cc2 f0 f1 f2
          refine (spec_StampedValid_c).mono ?_
          rintro e w3 ⟨rfl, b3⟩
          have B3 := below_step B2 b3
          replace KA := KA.belowAll b3
          replace KB := KB.belowAll b3
          replace KC := KC.belowAll b3
          rw [H2.out]
          have ca0 : w3.cell? ⟨w.heap.size, 0, none⟩ = some (.int .i64 v) := KA.cell 0
          have cb0 : w3.cell? ⟨w.heap.size + 1, 0, none⟩ = some (.int .i64 v') := KB.cell 0
          have cc0 : w3.cell? ⟨w.heap.size + 1 + 1, 0, none⟩ = some (.int .i64 0) := KC.cell 0
          have f0 : w3.frozen? ⟨w.heap.size + 1 + 1, 0, none⟩ = false := KC.frozen 0
          have ca1 : w3.cell? ⟨w.heap.size, 1, none⟩ = some (.int .i64 t) := KA.cell 1
          have cb1 : w3.cell? ⟨w.heap.size + 1, 1, none⟩ = some (.int .i64 t) := KB.cell 1
          have cc1 : w3.cell? ⟨w.heap.size + 1 + 1, 1, none⟩ = some (.int .i64 0) := KC.cell 1
          have f1 : w3.frozen? ⟨w.heap.size + 1 + 1, 1, none⟩ = false := KC.frozen 1
          have ca2 : w3.cell? ⟨w.heap.size, 2, none⟩ = some (.int .i64 p) := KA.cell 2
          have cb2 : w3.cell? ⟨w.heap.size + 1, 2, none⟩ = some (.int .i64 p') := KB.cell 2
          have cc2 : w3.cell? ⟨w.heap.size + 1 + 1, 2, none⟩ = some (.int .i64 0) := KC.cell 2
          have f2 : w3.frozen? ⟨w.heap.size + 1 + 1, 2, none⟩ = false := KC.frozen 2
          go_wp2_with fail
          have K' : Blk (((w3.setCell ⟨w.heap.size + 1 + 1, 0, none⟩ (.int .i64 v')).setCell ⟨w.heap.size + 1 + 1, 1, none⟩ (.int .i64 t)).setCell ⟨w.heap.size + 1 + 1, 2, none⟩ (.int .i64 p')) (w.heap.size + 1 + 1) 24 #[.int .i64 v', .int .i64 t, .int .i64 p'] := ((KC.set_ 0 _).set_ 1 _).set_ 2 _
          have t0 := K'.cell 0; have t1 := K'.cell 1; have t2 := K'.cell 2
          exact bodyPost_ret (v := .agg #[.int .i64 v', .int .i64 t, .int .i64 p']) (by simp [results, Tryd.results11, go_sem, t0, t1, t2]) rfl ⟨by rw [E.out], ((B3.setCell (p := ⟨w.heap.size + 1 + 1, 0, none⟩) hb _).setCell (p := ⟨w.heap.size + 1 + 1, 1, none⟩) hb _).setCell (p := ⟨w.heap.size + 1 + 1, 2, none⟩) hb _⟩
        · subst g2
          by_cases g3 : v < v'
          · skip
            have hk : laterB v t p v' t p = true := by rw [laterB_iff]; omega
            have E := hide ((key _ hk).trans (by rfl : _ = (.agg #[.int .i64 v', .int .i64 t, .int .i64 p] : Value))); clear hk key
            go_enter Tryd.func11, Tryd.ntmps11
            go_wp2_with fail
            have b1 : Below w.heap.size w (((w.alloc (.cells #[.int .i64 v, .int .i64 t, .int .i64 p] 24)).alloc (.cells #[.int .i64 v', .int .i64 t, .int .i64 p] 24)).alloc (.cells #[.int .i64 0, .int .i64 0, .int .i64 0] 24)) := (((Below.refl _ _).alloc (Nat.le_refl _) _).alloc (by simp) _).alloc (by simp <;> omega) _
            have KA := ((Blk.new w 24 #[.int .i64 v, .int .i64 t, .int .i64 p]).alloc (.cells #[.int .i64 v', .int .i64 t, .int .i64 p] 24)).alloc (.cells #[.int .i64 0, .int .i64 0, .int .i64 0] 24)
            have KB := (Blk.new (w.alloc (.cells #[.int .i64 v, .int .i64 t, .int .i64 p] 24)) 24 #[.int .i64 v', .int .i64 t, .int .i64 p]).alloc (.cells #[.int .i64 0, .int .i64 0, .int .i64 0] 24)
            have KC := Blk.new ((w.alloc (.cells #[.int .i64 v, .int .i64 t, .int .i64 p] 24)).alloc (.cells #[.int .i64 v', .int .i64 t, .int .i64 p] 24)) 24 #[.int .i64 0, .int .i64 0, .int .i64 0]
            simp only [World.size_alloc] at KB KC
            generalize (((w.alloc (.cells #[.int .i64 v, .int .i64 t, .int .i64 p] 24)).alloc (.cells #[.int .i64 v', .int .i64 t, .int .i64 p] 24)).alloc (.cells #[.int .i64 0, .int .i64 0, .int .i64 0] 24)) = w1 at *
            have B1 := b1
            have hb : w.heap.size ≤ w.heap.size + 1 + 1 := by omega
            refine (spec_StampedValid_c).mono ?_
            rintro e w2 ⟨rfl, b2⟩
            have B2 := below_step B1 b2
            replace KA := KA.belowAll b2
            replace KB := KB.belowAll b2
            replace KC := KC.belowAll b2
            rw [H1.out]
            have ca0 : w2.cell? ⟨w.heap.size, 0, none⟩ = some (.int .i64 v) := KA.cell 0
            have cb0 : w2.cell? ⟨w.heap.size + 1, 0, none⟩ = some (.int .i64 v') := KB.cell 0
            have cc0 : w2.cell? ⟨w.heap.size + 1 + 1, 0, none⟩ = some (.int .i64 0) := KC.cell 0
            have f0 : w2.frozen? ⟨w.heap.size + 1 + 1, 0, none⟩ = false := KC.frozen 0
            have ca1 : w2.cell? ⟨w.heap.size, 1, none⟩ = some (.int .i64 t) := KA.cell 1
            have cb1 : w2.cell? ⟨w.heap.size + 1, 1, none⟩ = some (.int .i64 t) := KB.cell 1
            have cc1 : w2.cell? ⟨w.heap.size + 1 + 1, 1, none⟩ = some (.int .i64 0) := KC.cell 1
            have f1 : w2.frozen? ⟨w.heap.size + 1 + 1, 1, none⟩ = false := KC.frozen 1
            have ca2 : w2.cell? ⟨w.heap.size, 2, none⟩ = some (.int .i64 p) := KA.cell 2
            have cb2 : w2.cell? ⟨w.heap.size + 1, 2, none⟩ = some (.int .i64 p) := KB.cell 2
            have cc2 : w2.cell? ⟨w.heap.size + 1 + 1, 2, none⟩ = some (.int .i64 0) := KC.cell 2
            have f2 : w2.frozen? ⟨w.heap.size + 1 + 1, 2, none⟩ = false := KC.frozen 2
            go_wp2_with fail
            clear ca0 cb0 cc0 ca1 cb1 cc1 ca2 cb2 cc2 f0 f1 f2
            refine (spec_StampedValid_c).mono ?_
            rintro e w3 ⟨rfl, b3⟩
            have B3 := below_step B2 b3
            replace KA := KA.belowAll b3
            replace KB := KB.belowAll b3
            replace KC := KC.belowAll b3
            rw [H2.out]
            have ca0 : w3.cell? ⟨w.heap.size, 0, none⟩ = some (.int .i64 v) := KA.cell 0
            have cb0 : w3.cell? ⟨w.heap.size + 1, 0, none⟩ = some (.int .i64 v') := KB.cell 0
            have cc0 : w3.cell? ⟨w.heap.size + 1 + 1, 0, none⟩ = some (.int .i64 0) := KC.cell 0
            have f0 : w3.frozen? ⟨w.heap.size + 1 + 1, 0, none⟩ = false := KC.frozen 0
            have ca1 : w3.cell? ⟨w.heap.size, 1, none⟩ = some (.int .i64 t) := KA.cell 1
            have cb1 : w3.cell? ⟨w.heap.size + 1, 1, none⟩ = some (.int .i64 t) := KB.cell 1
            have cc1 : w3.cell? ⟨w.heap.size + 1 + 1, 1, none⟩ = some (.int .i64 0) := KC.cell 1
            have f1 : w3.frozen? ⟨w.heap.size + 1 + 1, 1, none⟩ = false := KC.frozen 1
            have ca2 : w3.cell? ⟨w.heap.size, 2, none⟩ = some (.int .i64 p) := KA.cell 2
            have cb2 : w3.cell? ⟨w.heap.size + 1, 2, none⟩ = some (.int .i64 p) := KB.cell 2
            have cc2 : w3.cell? ⟨w.heap.size + 1 + 1, 2, none⟩ = some (.int .i64 0) := KC.cell 2
            have f2 : w3.frozen? ⟨w.heap.size + 1 + 1, 2, none⟩ = false := KC.frozen 2
            go_wp2_with fail
            have K' : Blk (((w3.setCell ⟨w.heap.size + 1 + 1, 0, none⟩ (.int .i64 v')).setCell ⟨w.heap.size + 1 + 1, 1, none⟩ (.int .i64 t)).setCell ⟨w.heap.size + 1 + 1, 2, none⟩ (.int .i64 p)) (w.heap.size + 1 + 1) 24 #[.int .i64 v', .int .i64 t, .int .i64 p] := ((KC.set_ 0 _).set_ 1 _).set_ 2 _
            have t0 := K'.cell 0; have t1 := K'.cell 1; have t2 := K'.cell 2
            exact bodyPost_ret (v := .agg #[.int .i64 v', .int .i64 t, .int .i64 p]) (by simp [results, Tryd.results11, go_sem, t0, t1, t2]) rfl ⟨by rw [E.out], ((B3.setCell (p := ⟨w.heap.size + 1 + 1, 0, none⟩) hb _).setCell (p := ⟨w.heap.size + 1 + 1, 1, none⟩) hb _).setCell (p := ⟨w.heap.size + 1 + 1, 2, none⟩) hb _⟩
          · skip
            have hk : laterB v t p v' t p = false := by rw [← Bool.not_eq_true, laterB_iff]; omega
            have E := hide ((key _ hk).trans (by rfl : _ = (.agg #[.int .i64 v, .int .i64 t, .int .i64 p] : Value))); clear hk key
            go_enter Tryd.func11, Tryd.ntmps11
            go_wp2_with fail
            have b1 : Below w.heap.size w (((w.alloc (.cells #[.int .i64 v, .int .i64 t, .int .i64 p] 24)).alloc (.cells #[.int .i64 v', .int .i64 t, .int .i64 p] 24)).alloc (.cells #[.int .i64 0, .int .i64 0, .int .i64 0] 24)) := (((Below.refl _ _).alloc (Nat.le_refl _) _).alloc (by simp) _).alloc (by simp <;> omega) _
            have KA := ((Blk.new w 24 #[.int .i64 v, .int .i64 t, .int .i64 p]).alloc (.cells #[.int .i64 v', .int .i64 t, .int .i64 p] 24)).alloc (.cells #[.int .i64 0, .int .i64 0, .int .i64 0] 24)
            have KB := (Blk.new (w.alloc (.cells #[.int .i64 v, .int .i64 t, .int .i64 p] 24)) 24 #[.int .i64 v', .int .i64 t, .int .i64 p]).alloc (.cells #[.int .i64 0, .int .i64 0, .int .i64 0] 24)
            have KC := Blk.new ((w.alloc (.cells #[.int .i64 v, .int .i64 t, .int .i64 p] 24)).alloc (.cells #[.int .i64 v', .int .i64 t, .int .i64 p] 24)) 24 #[.int .i64 0, .int .i64 0, .int .i64 0]
            simp only [World.size_alloc] at KB KC
            generalize (((w.alloc (.cells #[.int .i64 v, .int .i64 t, .int .i64 p] 24)).alloc (.cells #[.int .i64 v', .int .i64 t, .int .i64 p] 24)).alloc (.cells #[.int .i64 0, .int .i64 0, .int .i64 0] 24)) = w1 at *
            have B1 := b1
            have hb : w.heap.size ≤ w.heap.size + 1 + 1 := by omega
            refine (spec_StampedValid_c).mono ?_
            rintro e w2 ⟨rfl, b2⟩
            have B2 := below_step B1 b2
            replace KA := KA.belowAll b2
            replace KB := KB.belowAll b2
            replace KC := KC.belowAll b2
            rw [H1.out]
            have ca0 : w2.cell? ⟨w.heap.size, 0, none⟩ = some (.int .i64 v) := KA.cell 0
            have cb0 : w2.cell? ⟨w.heap.size + 1, 0, none⟩ = some (.int .i64 v') := KB.cell 0
            have cc0 : w2.cell? ⟨w.heap.size + 1 + 1, 0, none⟩ = some (.int .i64 0) := KC.cell 0
            have f0 : w2.frozen? ⟨w.heap.size + 1 + 1, 0, none⟩ = false := KC.frozen 0
            have ca1 : w2.cell? ⟨w.heap.size, 1, none⟩ = some (.int .i64 t) := KA.cell 1
            have cb1 : w2.cell? ⟨w.heap.size + 1, 1, none⟩ = some (.int .i64 t) := KB.cell 1
            have cc1 : w2.cell? ⟨w.heap.size + 1 + 1, 1, none⟩ = some (.int .i64 0) := KC.cell 1
            have f1 : w2.frozen? ⟨w.heap.size + 1 + 1, 1, none⟩ = false := KC.frozen 1
            have ca2 : w2.cell? ⟨w.heap.size, 2, none⟩ = some (.int .i64 p) := KA.cell 2
            have cb2 : w2.cell? ⟨w.heap.size + 1, 2, none⟩ = some (.int .i64 p) := KB.cell 2
            have cc2 : w2.cell? ⟨w.heap.size + 1 + 1, 2, none⟩ = some (.int .i64 0) := KC.cell 2
            have f2 : w2.frozen? ⟨w.heap.size + 1 + 1, 2, none⟩ = false := KC.frozen 2
            go_wp2_with fail
            clear ca0 cb0 cc0 ca1 cb1 cc1 ca2 cb2 cc2 f0 f1 f2
            refine (spec_StampedValid_c).mono ?_
            rintro e w3 ⟨rfl, b3⟩
            have B3 := below_step B2 b3
            replace KA := KA.belowAll b3
            replace KB := KB.belowAll b3
            replace KC := KC.belowAll b3
            rw [H2.out]
            have ca0 : w3.cell? ⟨w.heap.size, 0, none⟩ = some (.int .i64 v) := KA.cell 0
            have cb0 : w3.cell? ⟨w.heap.size + 1, 0, none⟩ = some (.int .i64 v') := KB.cell 0
            have cc0 : w3.cell? ⟨w.heap.size + 1 + 1, 0, none⟩ = some (.int .i64 0) := KC.cell 0
            have f0 : w3.frozen? ⟨w.heap.size + 1 + 1, 0, none⟩ = false := KC.frozen 0
            have ca1 : w3.cell? ⟨w.heap.size, 1, none⟩ = some (.int .i64 t) := KA.cell 1
            have cb1 : w3.cell? ⟨w.heap.size + 1, 1, none⟩ = some (.int .i64 t) := KB.cell 1
            have cc1 : w3.cell? ⟨w.heap.size + 1 + 1, 1, none⟩ = some (.int .i64 0) := KC.cell 1
            have f1 : w3.frozen? ⟨w.heap.size + 1 + 1, 1, none⟩ = false := KC.frozen 1
            have ca2 : w3.cell? ⟨w.heap.size, 2, none⟩ = some (.int .i64 p) := KA.cell 2
            have cb2 : w3.cell? ⟨w.heap.size + 1, 2, none⟩ = some (.int .i64 p) := KB.cell 2
            have cc2 : w3.cell? ⟨w.heap.size + 1 + 1, 2, none⟩ = some (.int .i64 0) := KC.cell 2
            have f2 : w3.frozen? ⟨w.heap.size + 1 + 1, 2, none⟩ = false := KC.frozen 2
            go_wp2_with fail
            have K' : Blk (((w3.setCell ⟨w.heap.size + 1 + 1, 0, none⟩ (.int .i64 v)).setCell ⟨w.heap.size + 1 + 1, 1, none⟩ (.int .i64 t)).setCell ⟨w.heap.size + 1 + 1, 2, none⟩ (.int .i64 p)) (w.heap.size + 1 + 1) 24 #[.int .i64 v, .int .i64 t, .int .i64 p] := ((KC.set_ 0 _).set_ 1 _).set_ 2 _
            have t0 := K'.cell 0; have t1 := K'.cell 1; have t2 := K'.cell 2
            exact bodyPost_ret (v := .agg #[.int .i64 v, .int .i64 t, .int .i64 p]) (by simp [results, Tryd.results11, go_sem, t0, t1, t2]) rfl ⟨by rw [E.out], ((B3.setCell (p := ⟨w.heap.size + 1 + 1, 0, none⟩) hb _).setCell (p := ⟨w.heap.size + 1 + 1, 1, none⟩) hb _).setCell (p := ⟨w.heap.size + 1 + 1, 2, none⟩) hb _⟩
        · have g2' : ¬ p < p' := by omega
          have g2'' : ¬ p' = p := by omega
          have hk : laterB v t p v' t p' = false := by rw [← Bool.not_eq_true, laterB_iff]; omega
          have E := hide ((key _ hk).trans (by rfl : _ = (.agg #[.int .i64 v, .int .i64 t, .int .i64 p] : Value))); clear hk key
          go_enter Tryd.func11, Tryd.ntmps11
          go_wp2_with fail
          have b1 : Below w.heap.size w (((w.alloc (.cells #[.int .i64 v, .int .i64 t, .int .i64 p] 24)).alloc (.cells #[.int .i64 v', .int .i64 t, .int .i64 p'] 24)).alloc (.cells #[.int .i64 0, .int .i64 0, .int .i64 0] 24)) := (((Below.refl _ _).alloc (Nat.le_refl _) _).alloc (by simp) _).alloc (by simp <;> omega) _
          have KA := ((Blk.new w 24 #[.int .i64 v, .int .i64 t, .int .i64 p]).alloc (.cells #[.int .i64 v', .int .i64 t, .int .i64 p'] 24)).alloc (.cells #[.int .i64 0, .int .i64 0, .int .i64 0] 24)
          have KB := (Blk.new (w.alloc (.cells #[.int .i64 v, .int .i64 t, .int .i64 p] 24)) 24 #[.int .i64 v', .int .i64 t, .int .i64 p']).alloc (.cells #[.int .i64 0, .int .i64 0, .int .i64 0] 24)
          have KC := Blk.new ((w.alloc (.cells #[.int .i64 v, .int .i64 t, .int .i64 p] 24)).alloc (.cells #[.int .i64 v', .int .i64 t, .int .i64 p'] 24)) 24 #[.int .i64 0, .int .i64 0, .int .i64 0]
          simp only [World.size_alloc] at KB KC
          generalize (((w.alloc (.cells #[.int .i64 v, .int .i64 t, .int .i64 p] 24)).alloc (.cells #[.int .i64 v', .int .i64 t, .int .i64 p'] 24)).alloc (.cells #[.int .i64 0, .int .i64 0, .int .i64 0] 24)) = w1 at *
          have B1 := b1
          have hb : w.heap.size ≤ w.heap.size + 1 + 1 := by omega
          refine (spec_StampedValid_c).mono ?_
          rintro e w2 ⟨rfl, b2⟩
          have B2 := below_step B1 b2
          replace KA := KA.belowAll b2
          replace KB := KB.belowAll b2
          replace KC := KC.belowAll b2
          rw [H1.out]
          have ca0 : w2.cell? ⟨w.heap.size, 0, none⟩ = some (.int .i64 v) := KA.cell 0
          have cb0 : w2.cell? ⟨w.heap.size + 1, 0, none⟩ = some (.int .i64 v') := KB.cell 0
          have cc0 : w2.cell? ⟨w.heap.size + 1 + 1, 0, none⟩ = some (.int .i64 0) := KC.cell 0
          have f0 : w2.frozen? ⟨w.heap.size + 1 + 1, 0, none⟩ = false := KC.frozen 0
          have ca1 : w2.cell? ⟨w.heap.size, 1, none⟩ = some (.int .i64 t) := KA.cell 1
          have cb1 : w2.cell? ⟨w.heap.size + 1, 1, none⟩ = some (.int .i64 t) := KB.cell 1
          have cc1 : w2.cell? ⟨w.heap.size + 1 + 1, 1, none⟩ = some (.int .i64 0) := KC.cell 1
          have f1 : w2.frozen? ⟨w.heap.size + 1 + 1, 1, none⟩ = false := KC.frozen 1
          have ca2 : w2.cell? ⟨w.heap.size, 2, none⟩ = some (.int .i64 p) := KA.cell 2
          have cb2 : w2.cell? ⟨w.heap.size + 1, 2, none⟩ = some (.int .i64 p') := KB.cell 2
          have cc2 : w2.cell? ⟨w.heap.size + 1 + 1, 2, none⟩ = some (.int .i64 0) := KC.cell 2
          have f2 : w2.frozen? ⟨w.heap.size + 1 + 1, 2, none⟩ = false := KC.frozen 2
          go_wp2_with fail
          clear ca0 cb0 cc0 ca1 cb1 cc1 ca2 cb2 cc2 f0 f1 f2
          refine (spec_StampedValid_c).mono ?_
          rintro e w3 ⟨rfl, b3⟩
          have B3 := below_step B2 b3
          replace KA := KA.belowAll b3
          replace KB := KB.belowAll b3
          replace KC := KC.belowAll b3
          rw [H2.out]
          have ca0 : w3.cell? ⟨w.heap.size, 0, none⟩ = some (.int .i64 v) := KA.cell 0
          have cb0 : w3.cell? ⟨w.heap.size + 1, 0, none⟩ = some (.int .i64 v') := KB.cell 0
          have cc0 : w3.cell? ⟨w.heap.size + 1 + 1, 0, none⟩ = some (.int .i64 0) := KC.cell 0
          have f0 : w3.frozen? ⟨w.heap.size + 1 + 1, 0, none⟩ = false := KC.frozen 0
          have ca1 : w3.cell? ⟨w.heap.size, 1, none⟩ = some (.int .i64 t) := KA.cell 1
          have cb1 : w3.cell? ⟨w.heap.size + 1, 1, none⟩ = some (.int .i64 t) := KB.cell 1
          have cc1 : w3.cell? ⟨w.heap.size + 1 + 1, 1, none⟩ = some (.int .i64 0) := KC.cell 1
          have f1 : w3.frozen? ⟨w.heap.size + 1 + 1, 1, none⟩ = false := KC.frozen 1
          have ca2 : w3.cell? ⟨w.heap.size, 2, none⟩ = some (.int .i64 p) := KA.cell 2
          have cb2 : w3.cell? ⟨w.heap.size + 1, 2, none⟩ = some (.int .i64 p') := KB.cell 2
          have cc2 : w3.cell? ⟨w.heap.size + 1 + 1, 2, none⟩ = some (.int .i64 0) := KC.cell 2
          have f2 : w3.frozen? ⟨w.heap.size + 1 + 1, 2, none⟩ = false := KC.frozen 2
          go_wp2_with fail
          have K' : Blk (((w3.setCell ⟨w.heap.size + 1 + 1, 0, none⟩ (.int .i64 v)).setCell ⟨w.heap.size + 1 + 1, 1, none⟩ (.int .i64 t)).setCell ⟨w.heap.size + 1 + 1, 2, none⟩ (.int .i64 p)) (w.heap.size + 1 + 1) 24 #[.int .i64 v, .int .i64 t, .int .i64 p] := ((KC.set_ 0 _).set_ 1 _).set_ 2 _
          have t0 := K'.cell 0; have t1 := K'.cell 1; have t2 := K'.cell 2
          exact bodyPost_ret (v := .agg #[.int .i64 v, .int .i64 t, .int .i64 p]) (by simp [results, Tryd.results11, go_sem, t0, t1, t2]) rfl ⟨by rw [E.out], ((B3.setCell (p := ⟨w.heap.size + 1 + 1, 0, none⟩) hb _).setCell (p := ⟨w.heap.size + 1 + 1, 1, none⟩) hb _).setCell (p := ⟨w.heap.size + 1 + 1, 2, none⟩) hb _⟩
      · have g1' : ¬ t < t' := by omega
        have g1'' : ¬ t' = t := by omega
        have hk : laterB v t p v' t' p' = false := by rw [← Bool.not_eq_true, laterB_iff]; omega
        have E := hide ((key _ hk).trans (by rfl : _ = (.agg #[.int .i64 v, .int .i64 t, .int .i64 p] : Value))); clear hk key
        go_enter Tryd.func11, Tryd.ntmps11
        go_wp2_with fail
        have b1 : Below w.heap.size w (((w.alloc (.cells #[.int .i64 v, .int .i64 t, .int .i64 p] 24)).alloc (.cells #[.int .i64 v', .int .i64 t', .int .i64 p'] 24)).alloc (.cells #[.int .i64 0, .int .i64 0, .int .i64 0] 24)) := (((Below.refl _ _).alloc (Nat.le_refl _) _).alloc (by simp) _).alloc (by simp <;> omega) _
        have KA := ((Blk.new w 24 #[.int .i64 v, .int .i64 t, .int .i64 p]).alloc (.cells #[.int .i64 v', .int .i64 t', .int .i64 p'] 24)).alloc (.cells #[.int .i64 0, .int .i64 0, .int .i64 0] 24)
        have KB := (Blk.new (w.alloc (.cells #[.int .i64 v, .int .i64 t, .int .i64 p] 24)) 24 #[.int .i64 v', .int .i64 t', .int .i64 p']).alloc (.cells #[.int .i64 0, .int .i64 0, .int .i64 0] 24)
        have KC := Blk.new ((w.alloc (.cells #[.int .i64 v, .int .i64 t, .int .i64 p] 24)).alloc (.cells #[.int .i64 v', .int .i64 t', .int .i64 p'] 24)) 24 #[.int .i64 0, .int .i64 0, .int .i64 0]
        simp only [World.size_alloc] at KB KC
        generalize (((w.alloc (.cells #[.int .i64 v, .int .i64 t, .int .i64 p] 24)).alloc (.cells #[.int .i64 v', .int .i64 t', .int .i64 p'] 24)).alloc (.cells #[.int .i64 0, .int .i64 0, .int .i64 0] 24)) = w1 at *
        have B1 := b1
        have hb : w.heap.size ≤ w.heap.size + 1 + 1 := by omega
        refine (spec_StampedValid_c).mono ?_
        rintro e w2 ⟨rfl, b2⟩
        have B2 := below_step B1 b2
        replace KA := KA.belowAll b2
        replace KB := KB.belowAll b2
        replace KC := KC.belowAll b2
        rw [H1.out]
        have ca0 : w2.cell? ⟨w.heap.size, 0, none⟩ = some (.int .i64 v) := KA.cell 0
        have cb0 : w2.cell? ⟨w.heap.size + 1, 0, none⟩ = some (.int .i64 v') := KB.cell 0
        have cc0 : w2.cell? ⟨w.heap.size + 1 + 1, 0, none⟩ = some (.int .i64 0) := KC.cell 0
        have f0 : w2.frozen? ⟨w.heap.size + 1 + 1, 0, none⟩ = false := KC.frozen 0
        have ca1 : w2.cell? ⟨w.heap.size, 1, none⟩ = some (.int .i64 t) := KA.cell 1
        have cb1 : w2.cell? ⟨w.heap.size + 1, 1, none⟩ = some (.int .i64 t') := KB.cell 1
        have cc1 : w2.cell? ⟨w.heap.size + 1 + 1, 1, none⟩ = some (.int .i64 0) := KC.cell 1
        have f1 : w2.frozen? ⟨w.heap.size + 1 + 1, 1, none⟩ = false := KC.frozen 1
        have ca2 : w2.cell? ⟨w.heap.size, 2, none⟩ = some (.int .i64 p) := KA.cell 2
        have cb2 : w2.cell? ⟨w.heap.size + 1, 2, none⟩ = some (.int .i64 p') := KB.cell 2
        have cc2 : w2.cell? ⟨w.heap.size + 1 + 1, 2, none⟩ = some (.int .i64 0) := KC.cell 2
        have f2 : w2.frozen? ⟨w.heap.size + 1 + 1, 2, none⟩ = false := KC.frozen 2
        go_wp2_with fail
        clear ca0 cb0 cc0 ca1 cb1 cc1 ca2 cb2 cc2 f0 f1 f2
        refine (spec_StampedValid_c).mono ?_
        rintro e w3 ⟨rfl, b3⟩
        have B3 := below_step B2 b3
        replace KA := KA.belowAll b3
        replace KB := KB.belowAll b3
        replace KC := KC.belowAll b3
        rw [H2.out]
        have ca0 : w3.cell? ⟨w.heap.size, 0, none⟩ = some (.int .i64 v) := KA.cell 0
        have cb0 : w3.cell? ⟨w.heap.size + 1, 0, none⟩ = some (.int .i64 v') := KB.cell 0
        have cc0 : w3.cell? ⟨w.heap.size + 1 + 1, 0, none⟩ = some (.int .i64 0) := KC.cell 0
        have f0 : w3.frozen? ⟨w.heap.size + 1 + 1, 0, none⟩ = false := KC.frozen 0
        have ca1 : w3.cell? ⟨w.heap.size, 1, none⟩ = some (.int .i64 t) := KA.cell 1
        have cb1 : w3.cell? ⟨w.heap.size + 1, 1, none⟩ = some (.int .i64 t') := KB.cell 1
        have cc1 : w3.cell? ⟨w.heap.size + 1 + 1, 1, none⟩ = some (.int .i64 0) := KC.cell 1
        have f1 : w3.frozen? ⟨w.heap.size + 1 + 1, 1, none⟩ = false := KC.frozen 1
        have ca2 : w3.cell? ⟨w.heap.size, 2, none⟩ = some (.int .i64 p) := KA.cell 2
        have cb2 : w3.cell? ⟨w.heap.size + 1, 2, none⟩ = some (.int .i64 p') := KB.cell 2
        have cc2 : w3.cell? ⟨w.heap.size + 1 + 1, 2, none⟩ = some (.int .i64 0) := KC.cell 2
        have f2 : w3.frozen? ⟨w.heap.size + 1 + 1, 2, none⟩ = false := KC.frozen 2
        go_wp2_with fail
        have K' : Blk (((w3.setCell ⟨w.heap.size + 1 + 1, 0, none⟩ (.int .i64 v)).setCell ⟨w.heap.size + 1 + 1, 1, none⟩ (.int .i64 t)).setCell ⟨w.heap.size + 1 + 1, 2, none⟩ (.int .i64 p)) (w.heap.size + 1 + 1) 24 #[.int .i64 v, .int .i64 t, .int .i64 p] := ((KC.set_ 0 _).set_ 1 _).set_ 2 _
        have t0 := K'.cell 0; have t1 := K'.cell 1; have t2 := K'.cell 2
        exact bodyPost_ret (v := .agg #[.int .i64 v, .int .i64 t, .int .i64 p]) (by simp [results, Tryd.results11, go_sem, t0, t1, t2]) rfl ⟨by rw [E.out], ((B3.setCell (p := ⟨w.heap.size + 1 + 1, 0, none⟩) hb _).setCell (p := ⟨w.heap.size + 1 + 1, 1, none⟩) hb _).setCell (p := ⟨w.heap.size + 1 + 1, 2, none⟩) hb _⟩

end Go.Proofs.YtopjdidigfdhbaaDoor
