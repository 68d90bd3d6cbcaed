/- The draws of shared sets. Printed by mk_draw9.py. -/
import Derived.Test.YtcoienlblhbkpaaDoorDraw8
import Derived.Deep.RegionHeld3
namespace Go.Proofs.YtcoienlblhbkpaaDoor
open Go.RowKit

set_option linter.unusedSimpArgs false
def OneSh (w : World) (e : Ending) (w' : World) : Prop := ∃ A n c xs B m d ys, e = .returned (.agg #[.slice A n c, .slice B m d]) ∧ OI w' w.heap.size (.slice A n c) n xs ∧ OI w' w.heap.size (.slice B m d) m ys ∧ Below w.heap.size w w'
def OneShN (w : World) (e : Ending) (w' : World) : Prop := ∃ A n c xs B m d ys x, e = .returned (.tuple #[.agg #[.slice A n c, .slice B m d], .int .i64 x]) ∧ OI w' w.heap.size (.slice A n c) n xs ∧ OI w' w.heap.size (.slice B m d) m ys ∧ -1 ≤ x ∧ x ≤ 31 ∧ Below w.heap.size w w'
def TwoSh (w : World) (e : Ending) (w' : World) : Prop := ∃ A n c xs B m d ys A' n' c' xs' B' m' d' ys', e = .returned (.tuple #[.agg #[.slice A n c, .slice B m d], .agg #[.slice A' n' c', .slice B' m' d']]) ∧ OI w' w.heap.size (.slice A n c) n xs ∧ OI w' w.heap.size (.slice B m d) m ys ∧ OI w' w.heap.size (.slice A' n' c') n' xs' ∧ OI w' w.heap.size (.slice B' m' d') m' ys' ∧ Below w.heap.size w w'

set_option maxRecDepth 100000 in
set_option maxHeartbeats 4000000 in
theorem DrawSharedValid_c {w : World} {A : Option Addr} {n c : Nat} (hnc : n ≤ c) (hmx : c ≤ maxLen) (hb : BY w w.heap.size A n) : Calls Tryd.prog 28 #[.slice A n c] w (OneSh w) := by
  have K0 := Blk.new w 27 #[.slice none 0 0, .slice none 0 0]
  go_enter Tryd.func28, Tryd.ntmps28
  go_wp2_with fail
  refine (l20Open_c hnc hmx (hb.upB (beB0 w _))).mono ?_
  rintro e w1 ⟨rfl, r1, b1⟩
  have B1 := below_step (beB0 w _) b1
  have K1 := K0.belowAll b1
  have hz1 := b1.size
  simp only [World.size_alloc] at r1 hz1
  simp only [World.size_alloc]
  go_wp2_with fail
  refine (l20Shared_c r1 (by omega) (by omega) (by omega)).mono ?_
  rintro e w2 ⟨A1, n1, c1, xs, A2, n2, c2, ys, rfl, o1, o2, r2, g2⟩
  have B2 := belowG B1 g2 (by omega)
  have K2 := K1.grown g2 (fun e => by injection e with e; omega)
  obtain ⟨d0, d1, d2, d3⟩ := K2.two
  go_wp2_with fail
  obtain ⟨t0, t1, _, _⟩ := ((K2.set_ 0 (.slice A1 n1 c1)).set_ 1 (.slice A2 n2 c2)).two
  exact bodyPost_ret (v := .agg #[.slice A1 n1 c1, .slice A2 n2 c2]) (by simp [results, Tryd.results28, go_sem, t0, t1]) rfl ⟨A1, n1, c1, xs, A2, n2, c2, ys, rfl, ((o1.set_low (p := ⟨w.heap.size, 0, none⟩) (show w.heap.size < _ from hz1) _).set_low (p := ⟨w.heap.size, 1, none⟩) (show w.heap.size < _ from hz1) _).mono (by omega), ((o2.set_low (p := ⟨w.heap.size, 0, none⟩) (show w.heap.size < _ from hz1) _).set_low (p := ⟨w.heap.size, 1, none⟩) (show w.heap.size < _ from hz1) _).mono (by omega), (B2.setCell (p := ⟨w.heap.size, 0, none⟩) (Nat.le_refl _) _).setCell (p := ⟨w.heap.size, 1, none⟩) (Nat.le_refl _) _⟩

set_option maxRecDepth 100000 in
set_option maxHeartbeats 4000000 in
theorem DrawInShared_c {w : World} {A : Option Addr} {n c : Nat} (hnc : n ≤ c) (hmx : c ≤ maxLen) (hb : BY w w.heap.size A n) : Calls Tryd.prog 40 #[.slice A n c] w (OneSh w) := by
  have K0 := Blk.new w 27 #[.slice none 0 0, .slice none 0 0]
  go_enter Tryd.func40, Tryd.ntmps40
  go_wp2_with fail
  refine (l20Open_c hnc hmx (hb.upB (beB0 w _))).mono ?_
  rintro e w1 ⟨rfl, r1, b1⟩
  have B1 := below_step (beB0 w _) b1
  have K1 := K0.belowAll b1
  have hz1 := b1.size
  simp only [World.size_alloc] at r1 hz1
  simp only [World.size_alloc]
  go_wp2_with fail
  refine (l20Shared_c r1 (by omega) (by omega) (by omega)).mono ?_
  rintro e w2 ⟨A1, n1, c1, xs, A2, n2, c2, ys, rfl, o1, o2, r2, g2⟩
  have B2 := belowG B1 g2 (by omega)
  have K2 := K1.grown g2 (fun e => by injection e with e; omega)
  obtain ⟨d0, d1, d2, d3⟩ := K2.two
  go_wp2_with fail
  obtain ⟨t0, t1, _, _⟩ := ((K2.set_ 0 (.slice A1 n1 c1)).set_ 1 (.slice A2 n2 c2)).two
  exact bodyPost_ret (v := .agg #[.slice A1 n1 c1, .slice A2 n2 c2]) (by simp [results, Tryd.results40, go_sem, t0, t1]) rfl ⟨A1, n1, c1, xs, A2, n2, c2, ys, rfl, ((o1.set_low (p := ⟨w.heap.size, 0, none⟩) (show w.heap.size < _ from hz1) _).set_low (p := ⟨w.heap.size, 1, none⟩) (show w.heap.size < _ from hz1) _).mono (by omega), ((o2.set_low (p := ⟨w.heap.size, 0, none⟩) (show w.heap.size < _ from hz1) _).set_low (p := ⟨w.heap.size, 1, none⟩) (show w.heap.size < _ from hz1) _).mono (by omega), (B2.setCell (p := ⟨w.heap.size, 0, none⟩) (Nat.le_refl _) _).setCell (p := ⟨w.heap.size, 1, none⟩) (Nat.le_refl _) _⟩

set_option maxRecDepth 100000 in
set_option maxHeartbeats 16000000 in
theorem DrawJoinShared_c {w : World} {A : Option Addr} {n c : Nat} (hnc : n ≤ c) (hmx : c ≤ maxLen) (hb : BY w w.heap.size A n) : Calls Tryd.prog 41 #[.slice A n c] w (TwoSh w) := by
  have b0 : Below w.heap.size w ((w.alloc (.cells #[.slice none 0 0, .slice none 0 0] 27)).alloc (.cells #[.slice none 0 0, .slice none 0 0] 27)) := ((Below.refl _ _).alloc (Nat.le_refl _) _).alloc (by simp) _
  have KR0 := (Blk.new w 27 #[.slice none 0 0, .slice none 0 0]).alloc (.cells #[.slice none 0 0, .slice none 0 0] 27)
  have KR1 := Blk.new (w.alloc (.cells #[.slice none 0 0, .slice none 0 0] 27)) 27 #[.slice none 0 0, .slice none 0 0]
  simp only [World.size_alloc] at KR1
  go_enter Tryd.func41, Tryd.ntmps41
  go_wp2_with fail
  refine (l20Open_c hnc hmx (hb.upB b0)).mono ?_
  rintro e w1 ⟨rfl, r1, b1⟩
  have B1 := below_step b0 b1
  replace KR0 := KR0.belowAll b1
  replace KR1 := KR1.belowAll b1
  have hz1 := b1.size
  simp only [World.size_alloc] at r1 hz1
  simp only [World.size_alloc]
  have l1 := r1.lt
  go_wp2_with fail
  refine (l20Shared_c r1 (by omega) (by omega) (by omega)).mono ?_
  rintro e w2 ⟨A1, n1, c1, xs, A2, n2, c2, ys, rfl, o1, o2, r2, g2⟩
  have B2 := belowG B1 g2 (by omega)
  replace KR0 := KR0.grown g2 (fun e => by injection e with e; omega)
  replace KR1 := KR1.grown g2 (fun e => by injection e with e; omega)
  have hz2 := g2.size
  have K5 := Blk.new w2 27 #[.slice A1 n1 c1, .slice A2 n2 c2]
  have b3 := beB0 w2 (.cells #[.slice A1 n1 c1, .slice A2 n2 c2] 27)
  have B3 := below_step B2 b3
  replace KR0 := KR0.belowAll b3
  replace KR1 := KR1.belowAll b3
  replace o1 := o1.below b3
  replace o2 := o2.below b3
  replace r2 := r2.below b3
  have hn0 : ¬ w.heap.size = w2.heap.size := by omega
  have hn1 : ¬ w.heap.size + 1 = w2.heap.size := by omega
  go_wp2_with fail
  generalize w2.alloc (.cells #[.slice A1 n1 c1, .slice A2 n2 c2] 27) = w3 at *
  have l5 := K5.lt
  have l0 := KR0.lt
  obtain ⟨c0, c1', _, _⟩ := K5.two
  go_region_held3 (fun W => W.cell? ⟨w2.heap.size, 0, none⟩ = some (.slice A1 n1 c1) ∧ W.cell? ⟨w2.heap.size, 1, none⟩ = some (.slice A2 n2 c2))
    (first | (go_keep; done) | (go_split_ands; refine ⟨?_, ?_⟩ <;> (first | (exact kq _ _ (by assumption)) | (refine (World.cell?_setCell_other _ _ _ _ (fun e => ?_)).trans (by assumption); (injection e with e; omega)))))
    ((go_at_call 52; refine (l20Shared_c r2.drew (by omega) (by omega) (by omega)).mono ?_; rintro e wq ⟨A3, n3, c3, xs', A4, n4, c4, ys', rfl, o3, o4, rq, gq⟩; have kq : ∀ (o : Nat) (v : Value), w3.cell? ⟨w2.heap.size, o, none⟩ = some v → wq.cell? ⟨w2.heap.size, o, none⟩ = some v := fun o v h => (World.cell?_of_block (gq.block _ l5 (fun e => by injection e with e; dsimp only at e; omega))).trans h; have Q0 := (show Blk w3.drew _ _ _ from KR0).grown gq (fun e => by injection e with e; omega); have Q1 := (show Blk w3.drew _ _ _ from KR1).grown gq (fun e => by injection e with e; omega); obtain ⟨d0, d1, d2, d3⟩ := Q0.two; obtain ⟨h0, h1, h2, h3⟩ := Q1.two))
  all_goals
    go_wp2_with fail
    have BQ : Below w.heap.size w wq := B3.drew.grown gq B3.size (fun k hk => by injection hk with hk; omega)
    have q1 := o1.drew.grown gq (o1.block_ne (by omega))
    have q2 := o2.drew.grown gq (o2.block_ne (by omega))
    have hz3 : w3.drew.heap.size = w3.heap.size := rfl
    rw [hz3] at o3 o4
    obtain ⟨t0, t1, _, _⟩ := ((((Q0.set_ 0 (.slice A1 n1 c1)).set_ 1 (.slice A2 n2 c2)).far (p := ⟨w.heap.size + 1, 0, none⟩) (by simp) (.slice A3 n3 c3)).far (p := ⟨w.heap.size + 1, 1, none⟩) (by simp) (.slice A4 n4 c4)).two
    obtain ⟨v0, v1, _, _⟩ := ((((Q1.far (p := ⟨w.heap.size, 0, none⟩) (by simp) (.slice A1 n1 c1)).far (p := ⟨w.heap.size, 1, none⟩) (by simp) (.slice A2 n2 c2)).set_ 0 (.slice A3 n3 c3)).set_ 1 (.slice A4 n4 c4)).two
    exact bodyPost_ret (v := .tuple #[.agg #[.slice A1 n1 c1, .slice A2 n2 c2], .agg #[.slice A3 n3 c3, .slice A4 n4 c4]]) (by simp [results, Tryd.results41, go_sem, t0, t1, v0, v1]) rfl ⟨A1, n1, c1, xs, A2, n2, c2, ys, A3, n3, c3, xs', A4, n4, c4, ys', rfl, ((((q1.set_low (p := ⟨w.heap.size, 0, none⟩) (by simp; omega) _).set_low (p := ⟨w.heap.size, 1, none⟩) (by simp; omega) _).set_low (p := ⟨w.heap.size + 1, 0, none⟩) (by simp; omega) _).set_low (p := ⟨w.heap.size + 1, 1, none⟩) (by simp; omega) _).mono (by omega), ((((q2.set_low (p := ⟨w.heap.size, 0, none⟩) (by simp; omega) _).set_low (p := ⟨w.heap.size, 1, none⟩) (by simp; omega) _).set_low (p := ⟨w.heap.size + 1, 0, none⟩) (by simp; omega) _).set_low (p := ⟨w.heap.size + 1, 1, none⟩) (by simp; omega) _).mono (by omega), ((((o3.set_low (p := ⟨w.heap.size, 0, none⟩) (by simp; omega) _).set_low (p := ⟨w.heap.size, 1, none⟩) (by simp; omega) _).set_low (p := ⟨w.heap.size + 1, 0, none⟩) (by simp; omega) _).set_low (p := ⟨w.heap.size + 1, 1, none⟩) (by simp; omega) _).mono (by omega), ((((o4.set_low (p := ⟨w.heap.size, 0, none⟩) (by simp; omega) _).set_low (p := ⟨w.heap.size, 1, none⟩) (by simp; omega) _).set_low (p := ⟨w.heap.size + 1, 0, none⟩) (by simp; omega) _).set_low (p := ⟨w.heap.size + 1, 1, none⟩) (by simp; omega) _).mono (by omega), (((BQ.setCell (p := ⟨w.heap.size, 0, none⟩) (by simp) _).setCell (p := ⟨w.heap.size, 1, none⟩) (by simp) _).setCell (p := ⟨w.heap.size + 1, 0, none⟩) (by simp) _).setCell (p := ⟨w.heap.size + 1, 1, none⟩) (by simp) _⟩

end Go.Proofs.YtcoienlblhbkpaaDoor
