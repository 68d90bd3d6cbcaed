/- LaterStamped, both. -/
import Derived.Test.YtopjdidigfdhbaaDoorCmp
import Derived.Test.YtopjdidigfdhbaaDoorStamp
import Derived.Deep.RegionHeld3
import Derived.Deep.DeepCutAuto
namespace Go.Proofs.YtopjdidigfdhbaaDoor
open Go.RowKit

/-- The second is the later one. -/
def laterB (v t p v' t' p' : Int) : Bool := decide (orI (cmpI t t') (cmpI p p') (cmpI v v') < 0)
def pickV (b : Bool) (v t p v' t' p' : Int) : Value := if b then .agg #[.int .i64 v', .int .i64 t', .int .i64 p'] else .agg #[.int .i64 v, .int .i64 t, .int .i64 p]

set_option maxHeartbeats 8000000 in
theorem later_c {v t p v' t' p' : Int} {w : World} :
    Calls Tryd.prog 37 #[.agg #[.int .i64 v, .int .i64 t, .int .i64 p], .agg #[.int .i64 v', .int .i64 t', .int .i64 p']] w fun e w' => e = .returned (pickV (laterB v t p v' t' p') v t p v' t' p') ∧ Below w.heap.size w w' := by
  obtain ⟨x, hx⟩ : ∃ x, x = cmpI t t' := ⟨_, rfl⟩
  obtain ⟨y, hy⟩ : ∃ x, x = cmpI p p' := ⟨_, rfl⟩
  obtain ⟨z, hz⟩ : ∃ x, x = cmpI v v' := ⟨_, rfl⟩
  obtain ⟨r, hr⟩ : ∃ q, q = orI x y z := ⟨_, rfl⟩
  have hl : laterB v t p v' t' p' = decide (r < 0) := by rw [hr, hx, hy, hz]; rfl
  have X := hide hx; have Y := hide hy; have Z := hide hz; have R := hide hr; have L := hide hl
  clear hx hy hz hr hl
  go_enter Tryd.func37, Tryd.ntmps37
  go_wp2_with fail
  have e2 : w.heap.size + 2 = w.heap.size + 1 + 1 := rfl
  have b1 : Below w.heap.size w (((w.alloc (.cells #[.int .i64 v, .int .i64 t, .int .i64 p] 24)).alloc (.cells #[.int .i64 v', .int .i64 t', .int .i64 p'] 24)).alloc (.cells #[.int .i64 0, .int .i64 0, .int .i64 0] 24)) := (((Below.refl _ _).alloc (Nat.le_refl _) _).alloc (by simp) _).alloc (by simp <;> omega) _
  have KA := ((Blk.new w 24 #[.int .i64 v, .int .i64 t, .int .i64 p]).alloc (.cells #[.int .i64 v', .int .i64 t', .int .i64 p'] 24)).alloc (.cells #[.int .i64 0, .int .i64 0, .int .i64 0] 24)
  have KB := (Blk.new (w.alloc (.cells #[.int .i64 v, .int .i64 t, .int .i64 p] 24)) 24 #[.int .i64 v', .int .i64 t', .int .i64 p']).alloc (.cells #[.int .i64 0, .int .i64 0, .int .i64 0] 24)
  have KC := Blk.new ((w.alloc (.cells #[.int .i64 v, .int .i64 t, .int .i64 p] 24)).alloc (.cells #[.int .i64 v', .int .i64 t', .int .i64 p'] 24)) 24 #[.int .i64 0, .int .i64 0, .int .i64 0]
  simp only [World.size_alloc] at KB KC
  generalize ((w.alloc (.cells #[.int .i64 v, .int .i64 t, .int .i64 p] 24)).alloc (.cells #[.int .i64 v', .int .i64 t', .int .i64 p'] 24)).alloc (.cells #[.int .i64 0, .int .i64 0, .int .i64 0] 24) = w1 at *
  go_upto_region 1 with fail
  go_cut [22] (fun s wx => s = .bool (decide (r < 0)) ∧ Blk wx w.heap.size 24 #[.int .i64 v, .int .i64 t, .int .i64 p] ∧ Blk wx (w.heap.size + 1) 24 #[.int .i64 v', .int .i64 t', .int .i64 p'] ∧ Blk wx (w.heap.size + 1 + 1) 24 #[.int .i64 0, .int .i64 0, .int .i64 0] ∧ Below w.heap.size w wx)
  case first =>
    have ca0 : w1.cell? ⟨w.heap.size, 0, none⟩ = some (.int .i64 v) := KA.cell 0
    have ca1 : w1.cell? ⟨w.heap.size, 1, none⟩ = some (.int .i64 t) := KA.cell 1
    have ca2 : w1.cell? ⟨w.heap.size, 2, none⟩ = some (.int .i64 p) := KA.cell 2
    have cb0 : w1.cell? ⟨w.heap.size + 1, 0, none⟩ = some (.int .i64 v') := KB.cell 0
    have cb1 : w1.cell? ⟨w.heap.size + 1, 1, none⟩ = some (.int .i64 t') := KB.cell 1
    have cb2 : w1.cell? ⟨w.heap.size + 1, 2, none⟩ = some (.int .i64 p') := KB.cell 2
    have la := KA.lt; have lb := KB.lt
    go_region_held3 (fun W => W.cell? ⟨w.heap.size, 0, none⟩ = some (.int .i64 v) ∧ W.cell? ⟨w.heap.size, 1, none⟩ = some (.int .i64 t) ∧ W.cell? ⟨w.heap.size, 2, none⟩ = some (.int .i64 p) ∧ W.cell? ⟨w.heap.size + 1, 0, none⟩ = some (.int .i64 v') ∧ W.cell? ⟨w.heap.size + 1, 1, none⟩ = some (.int .i64 t') ∧ W.cell? ⟨w.heap.size + 1, 2, none⟩ = some (.int .i64 p'))
      (first | (go_keep; done) | (go_split_ands; refine ⟨?_, ?_, ?_, ?_, ?_, ?_⟩ <;> (first | assumption | (refine (World.cell?_alloc_lt _ _ _ ?_).trans (by assumption); assumption))))
      (first | (go_at_call 64; refine (Compare_c).mono ?_; rintro e w' ⟨rfl, rfl⟩; first | rw [← X.out] | rw [← Y.out] | rw [← Z.out]) | (go_at_call 63; refine (Or3_c (Blk.new w1 3 #[.int .i64 x, .int .i64 y, .int .i64 z]).drew).mono ?_; rintro e w' ⟨rfl, rfl⟩; rw [← R.out]))
    go_wp2_with fail
    go_meet
    exact ⟨rfl, (KA.alloc _).drew, (KB.alloc _).drew, (KC.alloc _).drew, (b1.alloc (by omega) _).drew⟩
  case rest =>
    obtain ⟨rfl, KA, KB, KC, bel⟩ := hcut
    rename World => wx
    have hb : w.heap.size ≤ w.heap.size + 1 + 1 := by omega
    have ca0 : wx.cell? ⟨w.heap.size, 0, none⟩ = some (.int .i64 v) := KA.cell 0
    have cb0 : wx.cell? ⟨w.heap.size + 1, 0, none⟩ = some (.int .i64 v') := KB.cell 0
    have cc0 : wx.cell? ⟨w.heap.size + 1 + 1, 0, none⟩ = some (.int .i64 0) := KC.cell 0
    have cf0 : wx.frozen? ⟨w.heap.size + 1 + 1, 0, none⟩ = false := KC.frozen 0
    have ca1 : wx.cell? ⟨w.heap.size, 1, none⟩ = some (.int .i64 t) := KA.cell 1
    have cb1 : wx.cell? ⟨w.heap.size + 1, 1, none⟩ = some (.int .i64 t') := KB.cell 1
    have cc1 : wx.cell? ⟨w.heap.size + 1 + 1, 1, none⟩ = some (.int .i64 0) := KC.cell 1
    have cf1 : wx.frozen? ⟨w.heap.size + 1 + 1, 1, none⟩ = false := KC.frozen 1
    have ca2 : wx.cell? ⟨w.heap.size, 2, none⟩ = some (.int .i64 p) := KA.cell 2
    have cb2 : wx.cell? ⟨w.heap.size + 1, 2, none⟩ = some (.int .i64 p') := KB.cell 2
    have cc2 : wx.cell? ⟨w.heap.size + 1 + 1, 2, none⟩ = some (.int .i64 0) := KC.cell 2
    have cf2 : wx.frozen? ⟨w.heap.size + 1 + 1, 2, none⟩ = false := KC.frozen 2
    by_cases hr : r < 0
    · have hd : decide (r < 0) = true := by simp [hr]
      rw [hd]
      go_wp2_with fail
      have K' : Blk (((wx.setCell ⟨w.heap.size + 1 + 1, 0, none⟩ (.int .i64 v')).setCell ⟨w.heap.size + 1 + 1, 1, none⟩ (.int .i64 t')).setCell ⟨w.heap.size + 1 + 1, 2, none⟩ (.int .i64 p')) (w.heap.size + 1 + 1) 24 #[.int .i64 v', .int .i64 t', .int .i64 p'] := ((KC.set_ 0 _).set_ 1 _).set_ 2 _
      have t0 := K'.cell 0; have t1 := K'.cell 1; have t2 := K'.cell 2
      refine bodyPost_ret (v := .agg #[.int .i64 v', .int .i64 t', .int .i64 p']) (by simp [results, Tryd.results37, go_sem, t0, t1, t2]) rfl ⟨?_, ?_⟩
      · rw [L.out, hd]; rfl
      · exact ((bel.setCell (p := ⟨w.heap.size + 1 + 1, 0, none⟩) hb _).setCell (p := ⟨w.heap.size + 1 + 1, 1, none⟩) hb _).setCell (p := ⟨w.heap.size + 1 + 1, 2, none⟩) hb _
    · have hd : decide (r < 0) = false := by simp [hr]
      rw [hd]
      go_wp2_with fail
      have K' : Blk (((wx.setCell ⟨w.heap.size + 1 + 1, 0, none⟩ (.int .i64 v)).setCell ⟨w.heap.size + 1 + 1, 1, none⟩ (.int .i64 t)).setCell ⟨w.heap.size + 1 + 1, 2, none⟩ (.int .i64 p)) (w.heap.size + 1 + 1) 24 #[.int .i64 v, .int .i64 t, .int .i64 p] := ((KC.set_ 0 _).set_ 1 _).set_ 2 _
      have t0 := K'.cell 0; have t1 := K'.cell 1; have t2 := K'.cell 2
      refine bodyPost_ret (v := .agg #[.int .i64 v, .int .i64 t, .int .i64 p]) (by simp [results, Tryd.results37, go_sem, t0, t1, t2]) rfl ⟨?_, ?_⟩
      · rw [L.out, hd]; rfl
      · exact ((bel.setCell (p := ⟨w.heap.size + 1 + 1, 0, none⟩) hb _).setCell (p := ⟨w.heap.size + 1 + 1, 1, none⟩) hb _).setCell (p := ⟨w.heap.size + 1 + 1, 2, none⟩) hb _

end Go.Proofs.YtopjdidigfdhbaaDoor
