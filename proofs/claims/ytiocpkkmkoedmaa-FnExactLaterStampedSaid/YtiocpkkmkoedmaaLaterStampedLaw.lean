/- FnExactLaterStamped. Printed by mk_laterlaw.py. -/
import Derived.Test.YtiocpkkmkoedmaaLater2
import Derived.Test.YtiocpkkmkoedmaaOpenS
namespace Go.Proofs.Ytiocpkkmkoedmaa.exactLaterStamped
open Go.ChangeShapes Go.WideShapes Go.ChangeAt Go.RowKit

theorem balloc {a b : World} (h : Below a.heap.size a b) (o : Obj) : Below a.heap.size a (b.alloc o) := h.alloc h.size o
theorem sd (X : World) : X.drew.heap.size = X.heap.size := rfl
theorem sdn (X : World) (n : Nat) : (X.drewN n).heap.size = X.heap.size := rfl
theorem cell_set3 {w : World} {g h o : Nat} (hne : h ≠ g) (x y z : Value) : (((w.setCell ⟨h, 0, none⟩ x).setCell ⟨h, 1, none⟩ y).setCell ⟨h, 2, none⟩ z).cell? ⟨g, o, none⟩ = w.cell? ⟨g, o, none⟩ :=
  (World.cell?_setCell_other _ _ _ _ (fun e => hne (by injection e))).trans (cell_set2 hne x y)
theorem lsV_shape (v t p v' t' p' : Int) : ∃ x y z, lsV v t p v' t' p' = .agg #[.int .i64 x, .int .i64 y, .int .i64 z] := by
  unfold lsV pickV
  repeat' split
  all_goals exact ⟨_, _, _, rfl⟩
theorem stEq_self (x y z : Int) : stEq x y z x y z = true := by simp [stEq]

set_option linter.unusedSimpArgs false
set_option maxRecDepth 8000 in
set_option maxHeartbeats 16000000 in
theorem walk (v t p v' t' p' : Int) (w : World) (_w0 : (Lit.int .i64 v).wf = true) (_w1 : (Lit.int .i64 t).wf = true) (_w2 : (Lit.int .i64 p).wf = true) (_w3 : (Lit.int .i64 v').wf = true) (_w4 : (Lit.int .i64 t').wf = true) (_w5 : (Lit.int .i64 p').wf = true) :
    Calls Try.prog 5 #[.agg #[.int .i64 v, .int .i64 t, .int .i64 p], .agg #[.int .i64 v', .int .i64 t', .int .i64 p']] w fun e w' => e = .returned (.bool true) ∧ Below w.heap.size w w' := by
  obtain ⟨x, y, z, hV⟩ := lsV_shape v t p v' t' p'
  have HV := hide hV; clear hV
  have b1 : Below w.heap.size w ((w.alloc (.cells #[.int .i64 v, .int .i64 t, .int .i64 p] 25)).alloc (.cells #[.int .i64 v', .int .i64 t', .int .i64 p'] 25)) := ((Below.refl _ _).alloc (Nat.le_refl _) _).alloc (by simp) _
  have KA := (Blk.new w 25 #[.int .i64 v, .int .i64 t, .int .i64 p]).alloc (.cells #[.int .i64 v', .int .i64 t', .int .i64 p'] 25)
  have KB := Blk.new (w.alloc (.cells #[.int .i64 v, .int .i64 t, .int .i64 p] 25)) 25 #[.int .i64 v', .int .i64 t', .int .i64 p']
  simp only [World.size_alloc] at KB
  go_enter Try.func5, Try.ntmps5
  go_wp2_with fail
  generalize ((w.alloc (.cells #[.int .i64 v, .int .i64 t, .int .i64 p] 25)).alloc (.cells #[.int .i64 v', .int .i64 t', .int .i64 p'] 25)) = w1 at *
  have la := KA.lt; have lb := KB.lt
  have ca0 : w1.cell? ⟨w.heap.size, 0, none⟩ = some (.int .i64 v) := KA.cell 0
  have cb0 : w1.cell? ⟨w.heap.size + 1, 0, none⟩ = some (.int .i64 v') := KB.cell 0
  have ca1 : w1.cell? ⟨w.heap.size, 1, none⟩ = some (.int .i64 t) := KA.cell 1
  have cb1 : w1.cell? ⟨w.heap.size + 1, 1, none⟩ = some (.int .i64 t') := KB.cell 1
  have ca2 : w1.cell? ⟨w.heap.size, 2, none⟩ = some (.int .i64 p) := KA.cell 2
  have cb2 : w1.cell? ⟨w.heap.size + 1, 2, none⟩ = some (.int .i64 p') := KB.cell 2
  skip
  go_upto_region 1 with fail
  go_cut [5] (fun s wx => ∃ (g : Nat), s = .pointer (some ⟨g, 0, none⟩) ∧ Blk wx g 27 #[.int .i64 x, .int .i64 y, .int .i64 z] ∧ Below w1.heap.size w1 wx)
  case first =>
    go_region_held3 (fun W => W.cell? ⟨w.heap.size, 0, none⟩ = some (.int .i64 v) ∧ W.cell? ⟨w.heap.size, 1, none⟩ = some (.int .i64 t) ∧ W.cell? ⟨w.heap.size, 2, none⟩ = some (.int .i64 p) ∧ W.cell? ⟨w.heap.size + 1, 0, none⟩ = some (.int .i64 v') ∧ W.cell? ⟨w.heap.size + 1, 1, none⟩ = some (.int .i64 t') ∧ W.cell? ⟨w.heap.size + 1, 2, none⟩ = some (.int .i64 p'))
      (first | (go_keep; done) | (go_split_ands; refine ⟨?_, ?_, ?_, ?_, ?_, ?_⟩ <;> (first | (rw [cell_set3 (by have := la; have := lb; have s0 := by0.size; (try simp only [World.size_alloc, sd, sdn] at s0); have s1 := by1.size; (try simp only [World.size_alloc, sd, sdn] at s1); have sy := byy.size; (try simp only [World.size_alloc, sd, sdn] at sy); (try simp only [World.size_alloc, sd, sdn]); omega)]; assumption) | (rw [byy.cell (by have := la; have := lb; have s0 := by0.size; (try simp only [World.size_alloc, sd, sdn] at s0); have s1 := by1.size; (try simp only [World.size_alloc, sd, sdn] at s1); (try simp only [World.size_alloc, sd, sdn]); omega)]; assumption) | (rw [by0.cell (by have := la; have := lb; (try simp only [World.size_alloc, sd, sdn]); omega)]; assumption) | (rw [by1.cell (by have := la; have := lb; have s0 := by0.size; (try simp only [World.size_alloc, sd, sdn] at s0); (try simp only [World.size_alloc, sd, sdn]); omega)]; assumption) | (rw [alloc_swap (o' := (.cells #[.int .i64 0, .int .i64 0, .int .i64 0] 27)) (by show _ < _; have := la; have := lb; have s0 := by0.size; (try simp only [World.size_alloc, sd, sdn] at s0); have s1 := by1.size; (try simp only [World.size_alloc, sd, sdn] at s1); have sy := byy.size; (try simp only [World.size_alloc, sd, sdn] at sy); (try simp only [World.size_alloc, sd, sdn]); omega)]; assumption))))
      (first | (go_at_call_of 12 (Value.agg #[Value.int .i64 v, Value.int .i64 t, Value.int .i64 p]); refine (toStamped_c).mono ?_; rintro e y0 ⟨rfl, by0⟩) | (go_at_call_of 12 (Value.agg #[Value.int .i64 v', Value.int .i64 t', Value.int .i64 p']); refine (toStamped_c).mono ?_; rintro e y1 ⟨rfl, by1⟩) | (go_at_call 14; refine (spec_LaterStamped_c).mono ?_; rintro e yy ⟨rfl, byy⟩; rw [HV.out]; (first | (have KK := (((Blk.new w1.drew 27 #[.int .i64 0, .int .i64 0, .int .i64 0]).belowAll by0).belowAll by1).belowAll byy; have kc0 : yy.cell? ⟨_, 0, none⟩ = some (Value.int .i64 0) := KK.cell 0; have kc1 : yy.cell? ⟨_, 1, none⟩ = some (Value.int .i64 0) := KK.cell 1; have kc2 : yy.cell? ⟨_, 2, none⟩ = some (Value.int .i64 0) := KK.cell 2; have kf0 := KK.frozen 0; have kf1 := KK.frozen 1; have kf2 := KK.frozen 2; (try simp only [sd, sdn] at kc0 kc1 kc2 kf0 kf1 kf2)) | (have KK := ((Blk.new y0 27 #[.int .i64 0, .int .i64 0, .int .i64 0]).belowAll by1).belowAll byy; have kc0 : yy.cell? ⟨_, 0, none⟩ = some (Value.int .i64 0) := KK.cell 0; have kc1 : yy.cell? ⟨_, 1, none⟩ = some (Value.int .i64 0) := KK.cell 1; have kc2 : yy.cell? ⟨_, 2, none⟩ = some (Value.int .i64 0) := KK.cell 2; have kf0 := KK.frozen 0; have kf1 := KK.frozen 1; have kf2 := KK.frozen 2; (try simp only [sd, sdn] at kc0 kc1 kc2 kf0 kf1 kf2)) | (have KK := (Blk.new y1 27 #[.int .i64 0, .int .i64 0, .int .i64 0]).belowAll byy; have kc0 : yy.cell? ⟨_, 0, none⟩ = some (Value.int .i64 0) := KK.cell 0; have kc1 : yy.cell? ⟨_, 1, none⟩ = some (Value.int .i64 0) := KK.cell 1; have kc2 : yy.cell? ⟨_, 2, none⟩ = some (Value.int .i64 0) := KK.cell 2; have kf0 := KK.frozen 0; have kf1 := KK.frozen 1; have kf2 := KK.frozen 2; (try simp only [sd, sdn] at kc0 kc1 kc2 kf0 kf1 kf2)) | skip)))
    all_goals go_wp2_with fail
    all_goals go_meet
    all_goals have bk : Below w1.heap.size w1 w1.drew := (Below.refl _ _).drew
    all_goals (first | (have CB := (below_step (below_step (balloc bk (.cells #[.int .i64 0, .int .i64 0, .int .i64 0] 27)) by0) by1); refine ⟨_, rfl, ((KK.set_ 0 _).set_ 1 _).set_ 2 _, (((below_step CB byy).setCell ?_ _).setCell ?_ _).setCell ?_ _⟩ <;> ((try dsimp only); have := la; have := lb; have s0 := by0.size; (try simp only [World.size_alloc, sd, sdn] at s0); have s1 := by1.size; (try simp only [World.size_alloc, sd, sdn] at s1); (try simp only [World.size_alloc, sd, sdn]); omega)) | (have CB := (below_step (balloc (below_step bk by0) (.cells #[.int .i64 0, .int .i64 0, .int .i64 0] 27)) by1); refine ⟨_, rfl, ((KK.set_ 0 _).set_ 1 _).set_ 2 _, (((below_step CB byy).setCell ?_ _).setCell ?_ _).setCell ?_ _⟩ <;> ((try dsimp only); have := la; have := lb; have s0 := by0.size; (try simp only [World.size_alloc, sd, sdn] at s0); have s1 := by1.size; (try simp only [World.size_alloc, sd, sdn] at s1); (try simp only [World.size_alloc, sd, sdn]); omega)) | (have CB := (balloc (below_step (below_step bk by0) by1) (.cells #[.int .i64 0, .int .i64 0, .int .i64 0] 27)); refine ⟨_, rfl, ((KK.set_ 0 _).set_ 1 _).set_ 2 _, (((below_step CB byy).setCell ?_ _).setCell ?_ _).setCell ?_ _⟩ <;> ((try dsimp only); have := la; have := lb; have s0 := by0.size; (try simp only [World.size_alloc, sd, sdn] at s0); have s1 := by1.size; (try simp only [World.size_alloc, sd, sdn] at s1); (try simp only [World.size_alloc, sd, sdn]); omega)) | (have CB := (below_step (below_step bk by0) by1); exact ⟨_, rfl, Blk.new _ _ _, balloc (below_step CB byy) _⟩))
  case rest =>
    obtain ⟨g, rfl, KW, b2⟩ := hcut
    rename World => w2
    clear ca0 cb0 ca1 cb1 ca2 cb2
    have B2 := below_step b1 b2; replace KA := KA.belowAll b2; replace KB := KB.belowAll b2; clear la lb; have la := KA.lt; have lb := KB.lt; have lg := KW.lt
    have ca0 : w2.cell? ⟨w.heap.size, 0, none⟩ = some (.int .i64 v) := KA.cell 0
    have cb0 : w2.cell? ⟨w.heap.size + 1, 0, none⟩ = some (.int .i64 v') := KB.cell 0
    have ca1 : w2.cell? ⟨w.heap.size, 1, none⟩ = some (.int .i64 t) := KA.cell 1
    have cb1 : w2.cell? ⟨w.heap.size + 1, 1, none⟩ = some (.int .i64 t') := KB.cell 1
    have ca2 : w2.cell? ⟨w.heap.size, 2, none⟩ = some (.int .i64 p) := KA.cell 2
    have cb2 : w2.cell? ⟨w.heap.size + 1, 2, none⟩ = some (.int .i64 p') := KB.cell 2
    go_upto_region 2 with fail
    go_cut [6] (fun s wx => ∃ (g : Nat), s = .pointer (some ⟨g, 0, none⟩) ∧ Blk wx g 27 #[.int .i64 x, .int .i64 y, .int .i64 z] ∧ Below w2.heap.size w2 wx)
    case first =>
      go_region_held3 (fun W => W.cell? ⟨w.heap.size, 0, none⟩ = some (.int .i64 v) ∧ W.cell? ⟨w.heap.size, 1, none⟩ = some (.int .i64 t) ∧ W.cell? ⟨w.heap.size, 2, none⟩ = some (.int .i64 p) ∧ W.cell? ⟨w.heap.size + 1, 0, none⟩ = some (.int .i64 v') ∧ W.cell? ⟨w.heap.size + 1, 1, none⟩ = some (.int .i64 t') ∧ W.cell? ⟨w.heap.size + 1, 2, none⟩ = some (.int .i64 p'))
        (first | (go_keep; done) | (go_split_ands; refine ⟨?_, ?_, ?_, ?_, ?_, ?_⟩ <;> (first | (rw [cell_set3 (by have := la; have := lb; have s0 := by0.size; (try simp only [World.size_alloc, sd, sdn] at s0); have s1 := by1.size; (try simp only [World.size_alloc, sd, sdn] at s1); have sy := byy.size; (try simp only [World.size_alloc, sd, sdn] at sy); (try simp only [World.size_alloc, sd, sdn]); omega)]; assumption) | (rw [byy.cell (by have := la; have := lb; have s0 := by0.size; (try simp only [World.size_alloc, sd, sdn] at s0); have s1 := by1.size; (try simp only [World.size_alloc, sd, sdn] at s1); (try simp only [World.size_alloc, sd, sdn]); omega)]; assumption) | (rw [by0.cell (by have := la; have := lb; (try simp only [World.size_alloc, sd, sdn]); omega)]; assumption) | (rw [by1.cell (by have := la; have := lb; have s0 := by0.size; (try simp only [World.size_alloc, sd, sdn] at s0); (try simp only [World.size_alloc, sd, sdn]); omega)]; assumption) | (rw [alloc_swap (o' := (.cells #[.int .i64 0, .int .i64 0, .int .i64 0] 27)) (by show _ < _; have := la; have := lb; have s0 := by0.size; (try simp only [World.size_alloc, sd, sdn] at s0); have s1 := by1.size; (try simp only [World.size_alloc, sd, sdn] at s1); have sy := byy.size; (try simp only [World.size_alloc, sd, sdn] at sy); (try simp only [World.size_alloc, sd, sdn]); omega)]; assumption))))
        (first | (go_at_call_of 12 (Value.agg #[Value.int .i64 v, Value.int .i64 t, Value.int .i64 p]); refine (toStamped_c).mono ?_; rintro e y0 ⟨rfl, by0⟩) | (go_at_call_of 12 (Value.agg #[Value.int .i64 v', Value.int .i64 t', Value.int .i64 p']); refine (toStamped_c).mono ?_; rintro e y1 ⟨rfl, by1⟩) | (go_at_call 15; refine (impl_LaterStamped_c).mono ?_; rintro e yy ⟨rfl, byy⟩; rw [HV.out]; (first | (have KK := (((Blk.new w2.drew 27 #[.int .i64 0, .int .i64 0, .int .i64 0]).belowAll by0).belowAll by1).belowAll byy; have kc0 : yy.cell? ⟨_, 0, none⟩ = some (Value.int .i64 0) := KK.cell 0; have kc1 : yy.cell? ⟨_, 1, none⟩ = some (Value.int .i64 0) := KK.cell 1; have kc2 : yy.cell? ⟨_, 2, none⟩ = some (Value.int .i64 0) := KK.cell 2; have kf0 := KK.frozen 0; have kf1 := KK.frozen 1; have kf2 := KK.frozen 2; (try simp only [sd, sdn] at kc0 kc1 kc2 kf0 kf1 kf2)) | (have KK := ((Blk.new y0 27 #[.int .i64 0, .int .i64 0, .int .i64 0]).belowAll by1).belowAll byy; have kc0 : yy.cell? ⟨_, 0, none⟩ = some (Value.int .i64 0) := KK.cell 0; have kc1 : yy.cell? ⟨_, 1, none⟩ = some (Value.int .i64 0) := KK.cell 1; have kc2 : yy.cell? ⟨_, 2, none⟩ = some (Value.int .i64 0) := KK.cell 2; have kf0 := KK.frozen 0; have kf1 := KK.frozen 1; have kf2 := KK.frozen 2; (try simp only [sd, sdn] at kc0 kc1 kc2 kf0 kf1 kf2)) | (have KK := (Blk.new y1 27 #[.int .i64 0, .int .i64 0, .int .i64 0]).belowAll byy; have kc0 : yy.cell? ⟨_, 0, none⟩ = some (Value.int .i64 0) := KK.cell 0; have kc1 : yy.cell? ⟨_, 1, none⟩ = some (Value.int .i64 0) := KK.cell 1; have kc2 : yy.cell? ⟨_, 2, none⟩ = some (Value.int .i64 0) := KK.cell 2; have kf0 := KK.frozen 0; have kf1 := KK.frozen 1; have kf2 := KK.frozen 2; (try simp only [sd, sdn] at kc0 kc1 kc2 kf0 kf1 kf2)) | skip)))
      all_goals go_wp2_with fail
      all_goals go_meet
      all_goals have bk : Below w2.heap.size w2 w2.drew := (Below.refl _ _).drew
      all_goals (first | (have CB := (below_step (below_step (balloc bk (.cells #[.int .i64 0, .int .i64 0, .int .i64 0] 27)) by0) by1); refine ⟨_, rfl, ((KK.set_ 0 _).set_ 1 _).set_ 2 _, (((below_step CB byy).setCell ?_ _).setCell ?_ _).setCell ?_ _⟩ <;> ((try dsimp only); have := la; have := lb; have s0 := by0.size; (try simp only [World.size_alloc, sd, sdn] at s0); have s1 := by1.size; (try simp only [World.size_alloc, sd, sdn] at s1); (try simp only [World.size_alloc, sd, sdn]); omega)) | (have CB := (below_step (balloc (below_step bk by0) (.cells #[.int .i64 0, .int .i64 0, .int .i64 0] 27)) by1); refine ⟨_, rfl, ((KK.set_ 0 _).set_ 1 _).set_ 2 _, (((below_step CB byy).setCell ?_ _).setCell ?_ _).setCell ?_ _⟩ <;> ((try dsimp only); have := la; have := lb; have s0 := by0.size; (try simp only [World.size_alloc, sd, sdn] at s0); have s1 := by1.size; (try simp only [World.size_alloc, sd, sdn] at s1); (try simp only [World.size_alloc, sd, sdn]); omega)) | (have CB := (balloc (below_step (below_step bk by0) by1) (.cells #[.int .i64 0, .int .i64 0, .int .i64 0] 27)); refine ⟨_, rfl, ((KK.set_ 0 _).set_ 1 _).set_ 2 _, (((below_step CB byy).setCell ?_ _).setCell ?_ _).setCell ?_ _⟩ <;> ((try dsimp only); have := la; have := lb; have s0 := by0.size; (try simp only [World.size_alloc, sd, sdn] at s0); have s1 := by1.size; (try simp only [World.size_alloc, sd, sdn] at s1); (try simp only [World.size_alloc, sd, sdn]); omega)) | (have CB := (below_step (below_step bk by0) by1); exact ⟨_, rfl, Blk.new _ _ _, balloc (below_step CB byy) _⟩))
    case rest =>
      obtain ⟨h, rfl, KG, b3⟩ := hcut
      rename World => w3
      have B3 := below_step B2 b3; replace KW := KW.belowAll b3
      have cw0 : w3.cell? ⟨g, 0, none⟩ = some (.int .i64 x) := KW.cell 0
      have cg0 : w3.cell? ⟨h, 0, none⟩ = some (.int .i64 x) := KG.cell 0
      have cw1 : w3.cell? ⟨g, 1, none⟩ = some (.int .i64 y) := KW.cell 1
      have cg1 : w3.cell? ⟨h, 1, none⟩ = some (.int .i64 y) := KG.cell 1
      have cw2 : w3.cell? ⟨g, 2, none⟩ = some (.int .i64 z) := KW.cell 2
      have cg2 : w3.cell? ⟨h, 2, none⟩ = some (.int .i64 z) := KG.cell 2
      go_wp2_with fail
      refine (eqStamped_c).mono ?_
      rintro e w4 ⟨rfl, b4⟩
      have B4 := below_step B3 b4
      rw [stEq_self]
      go_wp2_with fail
      go_ret
      exact ⟨rfl, B4⟩

set_option maxRecDepth 100000 in
theorem lifted (os : Os) (started : os.Started) (H : Type) (enc : TypeId × Value → H) :
    ReturnsInHanded {} Try.checked os 5 .any (Rows.fnExactLaterStampedSpec.pre6 enc Try.prog Try.f5 Rows.fnExactLaterStampedRow.domain false) (Rows.fnExactLaterStampedSpec.post enc Try.prog Try.f5 false true false false) := by
  refine returnsInHanded_of_change (C := Try.checked) own started (by kernel_rfl) Try.func5
    (ChangeSpec.witness6 (enc := enc) (C := Try.checked) false ⟨#[], #[.agg #[.int .i64 0, .int .i64 0, .int .i64 0], .agg #[.int .i64 0, .int .i64 0, .int .i64 0]], []⟩ 8 (by kernel_rfl) (by kernel_rfl) (by kernel_rfl) (by kernel_rfl)) ?_
  intro W base args ds gs before hval0 hW hcnd _
  have hval : ∀ (j : Nat) t v, Try.f5.params[j]? = some t → args[j]? = some v → Value.okWide Try.prog W .any base t v := hval0
  have hW' := hW
  obtain ⟨p, q, hA0, hV, rfl, hfz, hnd⟩ := hW
  have hA : DataW.TrodAll enc Try.prog W 0 (fun _ => true) true Try.f5.params.toList args.toList ds p := hA0
  rw [Try.params5] at hA hval
  obtain ⟨v0, vs0, d0, ds0, p0, q0, hargs, rfl, rfl, h0, r0⟩ := trodAll_cons hA
  obtain ⟨v1, vs1, d1, ds1, p1, q1, rfl, rfl, rfl, h1, r1⟩ := trodAll_cons r0
  obtain ⟨rfl, rfl, rfl⟩ := trodAll_nil r1
  obtain rfl : args = #[v0, v1] := by cases args; simp_all
  obtain ⟨rfl, rfl⟩ := trodVars_none hV
  have k0 := h0
  have lt0 : ∀ x ∈ p0, x.block < W.heap.size := by obtain ⟨m, hm⟩ := k0; exact DataW.trod_lt m _ _ _ hm
  obtain ⟨x0, y0, z0, rfl, wx0, wy0, wz0⟩ := open_StampedA (hval 0 25 v0 rfl rfl) h0
  have k1 := h1
  have lt1 : ∀ x ∈ p1, x.block < W.heap.size := by obtain ⟨m, hm⟩ := k1; exact DataW.trod_lt m _ _ _ hm
  obtain ⟨x1, y1, z1, rfl, wx1, wy1, wz1⟩ := open_StampedA (hval 1 25 v1 rfl rfl) h1
  clear hA0 hval0
  refine (walk x0 y0 z0 x1 y1 z1 W wx0 wy0 wz0 wx1 wy1 wz1).mono fun e W' ⟨he, bel⟩ => ?_
  subst he
  exact ⟨_, rfl, _, _, _, [], _, [], hW', trodAll_mk1 (shut_bool Try.underlying4 _), (trodAll_cons_mk (Below.trod laidOut (by kernel_rfl) (of_decide_eq_true (by kernel_rfl)) k0 bel lt0) (trodAll_cons_mk (Below.trod laidOut (by kernel_rfl) (of_decide_eq_true (by kernel_rfl)) k1 bel lt1) trodAll_mk0)), rfl, bel.frame _, fun h => by cases h⟩

theorem proved : Rows.FnExactLaterStampedSaid :=
  OpenClaim.holds_of_wide 5 Try.f5 rfl rfl rfl rfl rfl rfl rfl ⟨rfl, rfl, rfl, rfl, rfl⟩ rfl rfl rfl rfl rfl (by kernel_rfl) Try.func5 (by kernel_rfl)
    (of_decide_eq_true (by kernel_rfl)) (by unfold Func.isWrapper; first | (rw [if_pos (by decide +kernel)]; kernel_rfl) | (rw [if_neg (by decide +kernel)]; exact ⟨rfl, rfl⟩))
    (fun os started H enc _ => lifted os started H enc)
end Go.Proofs.Ytiocpkkmkoedmaa.exactLaterStamped
