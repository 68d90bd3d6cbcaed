/- DrawJoinTally, DrawCountTally. Printed by mk_draw6.py. -/
import Derived.Test.YtopjdidigfdhbaaDoorDraws
import Derived.Deep.RegionHeld3
namespace Go.Proofs.YtopjdidigfdhbaaDoor
open Go.RowKit

theorem BY.up3 {w w' : World} {A : Option Addr} {n : Nat} (h : BY w w.heap.size A n) (hb : Below w.heap.size w w') : BY w' w'.heap.size A n := fun k hk => by
  obtain ⟨b, off, x, h1, h2, h3, h4⟩ := h k hk
  exact ⟨b, off, x, h1, Nat.lt_of_lt_of_le h2 hb.size, (hb.cell (p := ⟨b, off + k, none⟩) h2).trans h3, h4⟩
def FourT (w : World) (e : Ending) (w' : World) : Prop := ∃ A1 k1 c1 xs1 A2 k2 c2 xs2 A3 k3 c3 xs3 A4 k4 c4 xs4, e = .returned (.tuple #[.agg #[.slice A1 k1 c1, .slice A2 k2 c2], .agg #[.slice A3 k3 c3, .slice A4 k4 c4]]) ∧ OI w' w.heap.size (.slice A1 k1 c1) k1 xs1 ∧ OI w' w.heap.size (.slice A2 k2 c2) k2 xs2 ∧ OI w' w.heap.size (.slice A3 k3 c3) k3 xs3 ∧ OI w' w.heap.size (.slice A4 k4 c4) k4 xs4 ∧ Below w.heap.size w w'
def TallyAt (w : World) (e : Ending) (w' : World) : Prop := ∃ A1 k1 c1 xs1 A2 k2 c2 xs2 x b, e = .returned (.tuple #[.agg #[.slice A1 k1 c1, .slice A2 k2 c2], .int .i64 x, .bool b]) ∧ OI w' w.heap.size (.slice A1 k1 c1) k1 xs1 ∧ OI w' w.heap.size (.slice A2 k2 c2) k2 xs2 ∧ -1 ≤ x ∧ x ≤ 4 ∧ Below w.heap.size w w'
theorem OI.set2 {w : World} {B n : Nat} {v : Value} {xs : List Int} (h : OI w B v n xs) {g : Nat} (hg : g < B) (x y : Value) : OI ((w.setCell ⟨g, 0, none⟩ x).setCell ⟨g, 1, none⟩ y) B v n xs := (h.set_low (p := ⟨g, 0, none⟩) hg x).set_low (p := ⟨g, 1, none⟩) hg y

set_option maxRecDepth 100000 in
set_option maxHeartbeats 16000000 in
theorem DrawJoinTally_c {w : World} {A : Option Addr} {n c : Nat} (hnc : n ≤ c) (hmx : c ≤ maxLen) (hb : BY w w.heap.size A n) : Calls Tryd.prog 22 #[.slice A n c] w (FourT w) := by
  have b0 : Below w.heap.size w ((w.alloc (.cells #[.slice none 0 0, .slice none 0 0] 43)).alloc (.cells #[.slice none 0 0, .slice none 0 0] 43)) := ((Below.refl _ _).alloc (Nat.le_refl _) _).alloc (by simp) _
  have KR0 := (Blk.new w 43 #[.slice none 0 0, .slice none 0 0]).alloc (.cells #[.slice none 0 0, .slice none 0 0] 43)
  have KR1 := Blk.new (w.alloc (.cells #[.slice none 0 0, .slice none 0 0] 43)) 43 #[.slice none 0 0, .slice none 0 0]
  simp only [World.size_alloc] at KR1
  go_enter Tryd.func22, Tryd.ntmps22
  go_wp2_with fail
  refine (l20Open_c hnc hmx (hb.up3 b0)).mono ?_
  rintro e w1 ⟨rfl, r1, b1⟩
  have B1 := below_step b0 b1
  replace KR0 := KR0.belowAll b1
  replace KR1 := KR1.belowAll b1
  have hz1 := b1.size
  simp only [World.size_alloc] at r1 hz1
  simp only [World.size_alloc]
  have l1 := r1.lt
  go_wp2_with fail
  refine (l20Tally_c r1 (by omega) (by omega) (by omega)).mono ?_
  rintro e w2 ⟨A1, k1, c1, xs1, A2, k2, c2, xs2, rfl, o1, o2, r2, g2⟩
  have B2 := below_g B1 g2 (by omega)
  replace KR0 := KR0.grown g2 (fun e => by injection e with e; omega)
  replace KR1 := KR1.grown g2 (fun e => by injection e with e; omega)
  have l2 := r2.lt
  have hz2 := B2.size
  have hz12 := g2.size
  have K5 := Blk.new w2 43 #[.slice A1 k1 c1, .slice A2 k2 c2]
  have b3 := beB0 w2 (.cells #[.slice A1 k1 c1, .slice A2 k2 c2] 43)
  have B3 := below_step B2 b3
  replace KR0 := KR0.belowAll b3
  replace KR1 := KR1.belowAll b3
  replace o1 := o1.below b3
  replace o2 := o2.below b3
  replace r2 := r2.below b3
  have l3 := r2.lt
  have hz3 := b3.size
  have hn0 : ¬ w.heap.size = w2.heap.size := by omega
  have hn1 : ¬ w.heap.size + 1 = w2.heap.size := by omega
  go_wp2_with fail
  generalize w2.alloc (.cells #[.slice A1 k1 c1, .slice A2 k2 c2] 43) = w3 at *
  have l5 := K5.lt
  have r2d := r2.below (show Below w3.heap.size w3 w3.drew from (Below.refl _ _).drew)
  obtain ⟨s0, s1, _, _⟩ := K5.two
  go_region_held3 (fun W => W.cell? ⟨w2.heap.size, 0, none⟩ = some (.slice A1 k1 c1) ∧ W.cell? ⟨w2.heap.size, 1, none⟩ = some (.slice A2 k2 c2))
    (first | (go_keep; done) | (go_split_ands; refine ⟨?_, ?_⟩ <;> (first | (exact kq _ _ (by assumption)) | (refine (World.cell?_setCell_other _ _ _ _ (fun e => ?_)).trans (by assumption); (injection e with e; omega)))))
    ((go_at_call 49; refine (l20Tally_c r2d (by omega) (by omega) (by omega)).mono ?_; rintro e wq ⟨A3, k3, c3, xs3, A4, k4, c4, xs4, rfl, o3, o4, rq, gq⟩; have kq : ∀ (o : Nat) (v : Value), w3.cell? ⟨w2.heap.size, o, none⟩ = some v → wq.cell? ⟨w2.heap.size, o, none⟩ = some v := fun o v h => (World.cell?_of_block (gq.block _ l5 (fun e => by injection e with e; dsimp only at e; omega))).trans h; have Q0 := (show Blk w3.drew _ _ _ from KR0).grown gq (fun e => by injection e with e; omega); have Q1 := (show Blk w3.drew _ _ _ from KR1).grown gq (fun e => by injection e with e; omega); obtain ⟨d0, d1, e0, e1⟩ := Q0.two; obtain ⟨h0, h1, i0, i1⟩ := Q1.two))
  all_goals
    go_wp2_with fail
    have BQ : Below w.heap.size w wq := B3.drew.grown gq B3.size (fun k hk => by injection hk with hk; omega)
    have p1 := o1.drew.grown gq (o1.block_ne (by omega))
    have p2 := o2.drew.grown gq (o2.block_ne (by omega))
    obtain ⟨t0, t1, _, _⟩ := ((((Q0.set_ 0 (.slice A1 k1 c1)).set_ 1 (.slice A2 k2 c2)).far (p := ⟨w.heap.size + 1, 0, none⟩) (by simp) (.slice A3 k3 c3)).far (p := ⟨w.heap.size + 1, 1, none⟩) (by simp) (.slice A4 k4 c4)).two
    obtain ⟨v0, v1, _, _⟩ := ((((Q1.far (p := ⟨w.heap.size, 0, none⟩) (by simp) (.slice A1 k1 c1)).far (p := ⟨w.heap.size, 1, none⟩) (by simp) (.slice A2 k2 c2)).set_ 0 (.slice A3 k3 c3)).set_ 1 (.slice A4 k4 c4)).two
    refine bodyPost_ret (v := .tuple #[.agg #[.slice A1 k1 c1, .slice A2 k2 c2], .agg #[.slice A3 k3 c3, .slice A4 k4 c4]]) (by simp [results, Tryd.results22, go_sem, t0, t1, v0, v1]) rfl ⟨A1, k1, c1, xs1, A2, k2, c2, xs2, A3, k3, c3, xs3, A4, k4, c4, xs4, rfl, ?_, ?_, ?_, ?_, ?_⟩
    · exact ((p1.set2 (by omega) _ _).set2 (by omega) _ _).mono (by omega)
    · exact ((p2.set2 (by omega) _ _).set2 (by omega) _ _).mono (by omega)
    · exact ((o3.set2 (by simp; omega) _ _).set2 (by simp; omega) _ _).mono (by simp; omega)
    · exact ((o4.set2 (by simp; omega) _ _).set2 (by simp; omega) _ _).mono (by simp; omega)
    · exact (((BQ.setCell (p := ⟨w.heap.size, 0, none⟩) (by simp) _).setCell (p := ⟨w.heap.size, 1, none⟩) (by simp) _).setCell (p := ⟨w.heap.size + 1, 0, none⟩) (by simp) _).setCell (p := ⟨w.heap.size + 1, 1, none⟩) (by simp) _


end Go.Proofs.YtopjdidigfdhbaaDoor
