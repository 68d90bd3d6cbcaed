/- DrawLaterStamped. Printed by mk_draw6.py. -/
import Derived.Test.YtopjdidigfdhbaaDoorDraw5
import Derived.Deep.RegionHeld3
namespace Go.Proofs.YtopjdidigfdhbaaDoor
open Go.RowKit

def TwoS (w : World) (e : Ending) (w' : World) : Prop := ∃ x y z x' y' z' : Int, e = .returned (.tuple #[.agg #[.int .i64 x, .int .i64 y, .int .i64 z], .agg #[.int .i64 x', .int .i64 y', .int .i64 z']]) ∧ Below w.heap.size w w'
theorem BY.up2 {w w' : World} {A : Option Addr} {n : Nat} (h : BY w w.heap.size A n) (hb : Below w.heap.size w w') : BY w' w'.heap.size A n := fun k hk => by
  obtain ⟨b, off, x, h1, h2, h3, h4⟩ := h k hk
  exact ⟨b, off, x, h1, Nat.lt_of_lt_of_le h2 hb.size, (hb.cell (p := ⟨b, off + k, none⟩) h2).trans h3, h4⟩

set_option maxRecDepth 100000 in
set_option maxHeartbeats 16000000 in
theorem DrawLaterStamped_c {w : World} {A : Option Addr} {n c : Nat} (hnc : n ≤ c) (hmx : c ≤ maxLen) (hb : BY w w.heap.size A n) : Calls Tryd.prog 9 #[.slice A n c] w (TwoS w) := by
  have b0 : Below w.heap.size w ((w.alloc (.cells #[.int .i64 0, .int .i64 0, .int .i64 0] 24)).alloc (.cells #[.int .i64 0, .int .i64 0, .int .i64 0] 24)) := ((Below.refl _ _).alloc (Nat.le_refl _) _).alloc (by simp) _
  have KR0 := (Blk.new w 24 #[.int .i64 0, .int .i64 0, .int .i64 0]).alloc (.cells #[.int .i64 0, .int .i64 0, .int .i64 0] 24)
  have KR1 := Blk.new (w.alloc (.cells #[.int .i64 0, .int .i64 0, .int .i64 0] 24)) 24 #[.int .i64 0, .int .i64 0, .int .i64 0]
  simp only [World.size_alloc] at KR1
  go_enter Tryd.func9, Tryd.ntmps9
  go_wp2_with fail
  refine (l20Open_c hnc hmx (hb.up2 b0)).mono ?_
  rintro e w1 ⟨rfl, r1, b1⟩
  have B1 := below_step b0 b1
  replace KR0 := KR0.belowAll b1
  replace KR1 := KR1.belowAll b1
  have hz1 := b1.size
  simp only [World.size_alloc] at r1 hz1
  simp only [World.size_alloc]
  have l1 := r1.lt
  go_wp2_with fail
  refine (l20Stamped_c r1 (by omega) (by omega) (by omega)).mono ?_
  rintro e w2 ⟨x, y, z, rfl, r2, g2⟩
  have B2 := below_g B1 g2 (by omega)
  replace KR0 := KR0.grown g2 (fun e => by injection e with e; omega)
  replace KR1 := KR1.grown g2 (fun e => by injection e with e; omega)
  have l2 := r2.lt
  have hz2 := B2.size
  have K5 := Blk.new w2 24 #[.int .i64 x, .int .i64 y, .int .i64 z]
  have b3 := beB0 w2 (.cells #[.int .i64 x, .int .i64 y, .int .i64 z] 24)
  have B3 := below_step B2 b3
  replace KR0 := KR0.belowAll b3
  replace KR1 := KR1.belowAll b3
  replace r2 := r2.below b3
  have l3 := r2.lt
  have hn0 : ¬ w.heap.size = w2.heap.size := by omega
  have hn1 : ¬ w.heap.size + 1 = w2.heap.size := by omega
  go_wp2_with fail
  generalize w2.alloc (.cells #[.int .i64 x, .int .i64 y, .int .i64 z] 24) = w3 at *
  have l5 := K5.lt
  have r2d := r2.below (show Below w3.heap.size w3 w3.drew from (Below.refl _ _).drew)
  obtain ⟨⟨c0, c1, c2⟩, _⟩ := K5.threeD
  go_region_held3 (fun W => W.cell? ⟨w2.heap.size, 0, none⟩ = some (.int .i64 x) ∧ W.cell? ⟨w2.heap.size, 1, none⟩ = some (.int .i64 y) ∧ W.cell? ⟨w2.heap.size, 2, none⟩ = some (.int .i64 z))
    (first | (go_keep; done) | (go_split_ands; refine ⟨?_, ?_, ?_⟩ <;> (first | (exact kq _ _ (by assumption)) | (refine (World.cell?_setCell_other _ _ _ _ (fun e => ?_)).trans (by assumption); (injection e with e; omega)))))
    ((go_at_call 36; refine (l20Stamped_c r2d (by omega) (by omega) (by omega)).mono ?_; rintro e wq ⟨x', y', z', rfl, rq, gq⟩; have kq : ∀ (o : Nat) (v : Value), w3.cell? ⟨w2.heap.size, o, none⟩ = some v → wq.cell? ⟨w2.heap.size, o, none⟩ = some v := fun o v h => (World.cell?_of_block (gq.block _ l5 (fun e => by injection e with e; dsimp only at e; omega))).trans h; have Q0 := (show Blk w3.drew _ _ _ from KR0).grown gq (fun e => by injection e with e; omega); have Q1 := (show Blk w3.drew _ _ _ from KR1).grown gq (fun e => by injection e with e; omega); obtain ⟨⟨d0, d1, d2⟩, e0, e1, e2⟩ := Q0.threeD; obtain ⟨⟨h0, h1, h2⟩, i0, i1, i2⟩ := Q1.threeD))
  all_goals
    go_wp2_with fail
    have BQ : Below w.heap.size w wq := B3.drew.grown gq B3.size (fun k hk => by injection hk with hk; omega)
    obtain ⟨⟨t0, t1, t2⟩, _⟩ := ((((((Q0.set_ 0 (.int .i64 x)).set_ 1 (.int .i64 y)).set_ 2 (.int .i64 z)).far (p := ⟨w.heap.size + 1, 0, none⟩) (by simp) (.int .i64 x')).far (p := ⟨w.heap.size + 1, 1, none⟩) (by simp) (.int .i64 y')).far (p := ⟨w.heap.size + 1, 2, none⟩) (by simp) (.int .i64 z')).threeD
    obtain ⟨⟨v0, v1, v2⟩, _⟩ := ((((((Q1.far (p := ⟨w.heap.size, 0, none⟩) (by simp) (.int .i64 x)).far (p := ⟨w.heap.size, 1, none⟩) (by simp) (.int .i64 y)).far (p := ⟨w.heap.size, 2, none⟩) (by simp) (.int .i64 z)).set_ 0 (.int .i64 x')).set_ 1 (.int .i64 y')).set_ 2 (.int .i64 z')).threeD
    exact bodyPost_ret (v := .tuple #[.agg #[.int .i64 x, .int .i64 y, .int .i64 z], .agg #[.int .i64 x', .int .i64 y', .int .i64 z']]) (by simp [results, Tryd.results9, go_sem, t0, t1, t2, v0, v1, v2]) rfl ⟨x, y, z, x', y', z', rfl, (((((BQ.setCell (p := ⟨w.heap.size, 0, none⟩) (by simp) _).setCell (p := ⟨w.heap.size, 1, none⟩) (by simp) _).setCell (p := ⟨w.heap.size, 2, none⟩) (by simp) _).setCell (p := ⟨w.heap.size + 1, 0, none⟩) (by simp) _).setCell (p := ⟨w.heap.size + 1, 1, none⟩) (by simp) _).setCell (p := ⟨w.heap.size + 1, 2, none⟩) (by simp) _⟩

end Go.Proofs.YtopjdidigfdhbaaDoor
