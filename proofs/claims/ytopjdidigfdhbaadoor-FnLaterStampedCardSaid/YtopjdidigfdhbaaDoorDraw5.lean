/- The drawing reader: l20Stamped, DrawStampedValid. Printed by mk_draw5.py. -/
import Derived.Test.YtopjdidigfdhbaaDoorDraws
namespace Go.Proofs.YtopjdidigfdhbaaDoor
open Go.RowKit

def DrawS (w : World) (g P : Nat) (e : Ending) (w' : World) : Prop := ∃ x y z : Int, e = .returned (.agg #[.int .i64 x, .int .i64 y, .int .i64 z]) ∧ RD w' g P ∧ w.grownBy w' (some g)
theorem Blk.threeD {w : World} {g : Nat} {t : TypeId} {a b c : Value} (h : Blk w g t #[a, b, c]) :
    (w.cell? ⟨g, 0, none⟩ = some a ∧ w.cell? ⟨g, 1, none⟩ = some b ∧ w.cell? ⟨g, 2, none⟩ = some c) ∧ (w.frozen? ⟨g, 0, none⟩ = false ∧ w.frozen? ⟨g, 1, none⟩ = false ∧ w.frozen? ⟨g, 2, none⟩ = false) :=
  ⟨⟨h.cell 0, h.cell 1, h.cell 2⟩, h.frozen 0, h.frozen 1, h.frozen 2⟩

set_option maxRecDepth 100000 in
set_option maxHeartbeats 16000000 in
theorem l20Stamped_c {w : World} {g P : Nat} {q : Int} (hr : RD w g P) (hP : P ≤ 50000) (hq1 : 0 ≤ q) (hq2 : q ≤ 100000) :
    Calls Tryd.prog 36 #[.pointer (some ⟨g, 0, none⟩), .int .i64 q] w (DrawS w g (P + 5)) := by
  have hg := hr.lt
  have KR := Blk.new w 24 #[.int .i64 0, .int .i64 0, .int .i64 0]
  have G1 := grown_alloc (World.grownBy.refl w (some g)) (.cells #[.int .i64 0, .int .i64 0, .int .i64 0] 24)
  go_enter Tryd.func36, Tryd.ntmps36
  go_wp2_with fail
  refine (pick_c (hr.alloc _) (by omega) (by omega) (by omega)).mono ?_
  rintro e w2 ⟨x, rfl, x0, x1, r2, g2⟩
  have G2 := grown_trans' G1 g2
  replace KR := KR.grown g2 (fun e => by injection e with e; omega)
  go_wp2_with fail
  refine (pick_c r2 (by omega) (by omega) (by omega)).mono ?_
  rintro e w3 ⟨y, rfl, y0, y1, r3, g3⟩
  have G3 := grown_trans' G2 g3
  replace KR := KR.grown g3 (fun e => by injection e with e; omega)
  go_wp2_with fail
  refine (pick_c r3 (by omega) (by omega) (by omega)).mono ?_
  rintro e w4 ⟨z, rfl, z0, z1, r4, g4⟩
  have G4 := grown_trans' G3 g4
  replace KR := KR.grown g4 (fun e => by injection e with e; omega)
  have hs4 := G4.size
  have r4lt := r4.lt
  have K5 := Blk.new w4 24 #[.int .i64 x, .int .i64 (10 + y), .int .i64 z]
  have G5 := grown_alloc G4 (.cells #[.int .i64 x, .int .i64 (10 + y), .int .i64 z] 24)
  have KR5 := KR.alloc (.cells #[.int .i64 x, .int .i64 (10 + y), .int .i64 z] 24)
  go_wp2_with fail
  refine (odd_c (r4.alloc _) (by omega) hq1 hq2).mono ?_
  rintro e w6 ⟨b, rfl, r6, g6⟩
  have G6 := grown_trans' G5 g6
  have K6 := K5.grown g6 (fun e => by injection e with e; omega)
  have KR6 := KR5.grown g6 (fun e => by injection e with e; omega)
  have hs6 := g6.size
  simp only [World.size_alloc] at hs6
  cases b
  · obtain ⟨⟨c0, c1, c2⟩, _⟩ := K6.threeD
    obtain ⟨⟨d0, d1, d2⟩, e0, e1, e2⟩ := KR6.threeD
    go_wp2_with fail
    obtain ⟨⟨t0, t1, t2⟩, _⟩ := (((KR6.set_ 0 (.int .i64 x)).set_ 1 (.int .i64 (10 + y))).set_ 2 (.int .i64 z)).threeD
    exact bodyPost_ret (v := .agg #[.int .i64 x, .int .i64 (10 + y), .int .i64 z]) (by simp [results, Tryd.results36, go_sem, t0, t1, t2]) rfl ⟨x, 10 + y, z, rfl, (((r6.setCell (p := ⟨w.heap.size, 0, none⟩) hg _).setCell (p := ⟨w.heap.size, 1, none⟩) hg _).setCell (p := ⟨w.heap.size, 2, none⟩) hg _).mono (by omega), grown_setCell (p := ⟨w.heap.size, 2, none⟩) (grown_setCell (p := ⟨w.heap.size, 1, none⟩) (grown_setCell (p := ⟨w.heap.size, 0, none⟩) G6 (.inr (Nat.le_refl _)) _) (.inr (Nat.le_refl _)) _) (.inr (Nat.le_refl _)) _⟩
  · have r6lt := r6.lt
    have KT := Blk.new w6 24 #[.int .i64 (-1), .int .i64 0, .int .i64 0, .int .i64 100, .int .i64 0, .int .i64 0, .int .i64 0, .int .i64 (-1), .int .i64 0, .int .i64 0, .int .i64 1001, .int .i64 0, .int .i64 0, .int .i64 0, .int .i64 4]
    have G7 := grown_alloc G6 (.cells #[.int .i64 (-1), .int .i64 0, .int .i64 0, .int .i64 100, .int .i64 0, .int .i64 0, .int .i64 0, .int .i64 (-1), .int .i64 0, .int .i64 0, .int .i64 1001, .int .i64 0, .int .i64 0, .int .i64 0, .int .i64 4] 24)
    have KR7 := KR6.alloc (.cells #[.int .i64 (-1), .int .i64 0, .int .i64 0, .int .i64 100, .int .i64 0, .int .i64 0, .int .i64 0, .int .i64 (-1), .int .i64 0, .int .i64 0, .int .i64 1001, .int .i64 0, .int .i64 0, .int .i64 0, .int .i64 4] 24)
    go_wp2_with fail
    refine (pick_c (r6.alloc _) (by omega) (by omega) (by omega)).mono ?_
    rintro e w8 ⟨i, rfl, i0, i1, r8, g8⟩
    have G8 := grown_trans' G7 g8
    have KR8 := KR7.grown g8 (fun e => by injection e with e; omega)
    have L := KT.grown g8 (fun e => by injection e with e; omega)
    obtain ⟨⟨d0, d1, d2⟩, e0, e1, e2⟩ := KR8.threeD
    have hi : i = 0 ∨ i = 1 ∨ i = 2 ∨ i = 3 ∨ i = 4 := by omega
    clear i0 i1
    rcases hi with rfl | rfl | rfl | rfl | rfl
    · have c0 : w8.cell? ⟨w6.heap.size, 0, none⟩ = some (.int .i64 (-1)) := L.cell 0
      have c1 : w8.cell? ⟨w6.heap.size, 1, none⟩ = some (.int .i64 0) := L.cell 1
      have c2 : w8.cell? ⟨w6.heap.size, 2, none⟩ = some (.int .i64 0) := L.cell 2
      go_wp2_with fail
      obtain ⟨⟨t0, t1, t2⟩, _⟩ := (((KR8.set_ 0 (.int .i64 (-1))).set_ 1 (.int .i64 0)).set_ 2 (.int .i64 0)).threeD
      exact bodyPost_ret (v := .agg #[.int .i64 (-1), .int .i64 0, .int .i64 0]) (by simp [results, Tryd.results36, go_sem, t0, t1, t2]) rfl ⟨(-1), 0, 0, rfl, (((r8.setCell (p := ⟨w.heap.size, 0, none⟩) hg _).setCell (p := ⟨w.heap.size, 1, none⟩) hg _).setCell (p := ⟨w.heap.size, 2, none⟩) hg _).mono (by omega), grown_setCell (p := ⟨w.heap.size, 2, none⟩) (grown_setCell (p := ⟨w.heap.size, 1, none⟩) (grown_setCell (p := ⟨w.heap.size, 0, none⟩) G8 (.inr (Nat.le_refl _)) _) (.inr (Nat.le_refl _)) _) (.inr (Nat.le_refl _)) _⟩
    · have c0 : w8.cell? ⟨w6.heap.size, 3, none⟩ = some (.int .i64 100) := L.cell 3
      have c1 : w8.cell? ⟨w6.heap.size, 4, none⟩ = some (.int .i64 0) := L.cell 4
      have c2 : w8.cell? ⟨w6.heap.size, 5, none⟩ = some (.int .i64 0) := L.cell 5
      go_wp2_with fail
      obtain ⟨⟨t0, t1, t2⟩, _⟩ := (((KR8.set_ 0 (.int .i64 100)).set_ 1 (.int .i64 0)).set_ 2 (.int .i64 0)).threeD
      exact bodyPost_ret (v := .agg #[.int .i64 100, .int .i64 0, .int .i64 0]) (by simp [results, Tryd.results36, go_sem, t0, t1, t2]) rfl ⟨100, 0, 0, rfl, (((r8.setCell (p := ⟨w.heap.size, 0, none⟩) hg _).setCell (p := ⟨w.heap.size, 1, none⟩) hg _).setCell (p := ⟨w.heap.size, 2, none⟩) hg _).mono (by omega), grown_setCell (p := ⟨w.heap.size, 2, none⟩) (grown_setCell (p := ⟨w.heap.size, 1, none⟩) (grown_setCell (p := ⟨w.heap.size, 0, none⟩) G8 (.inr (Nat.le_refl _)) _) (.inr (Nat.le_refl _)) _) (.inr (Nat.le_refl _)) _⟩
    · have c0 : w8.cell? ⟨w6.heap.size, 6, none⟩ = some (.int .i64 0) := L.cell 6
      have c1 : w8.cell? ⟨w6.heap.size, 7, none⟩ = some (.int .i64 (-1)) := L.cell 7
      have c2 : w8.cell? ⟨w6.heap.size, 8, none⟩ = some (.int .i64 0) := L.cell 8
      go_wp2_with fail
      obtain ⟨⟨t0, t1, t2⟩, _⟩ := (((KR8.set_ 0 (.int .i64 0)).set_ 1 (.int .i64 (-1))).set_ 2 (.int .i64 0)).threeD
      exact bodyPost_ret (v := .agg #[.int .i64 0, .int .i64 (-1), .int .i64 0]) (by simp [results, Tryd.results36, go_sem, t0, t1, t2]) rfl ⟨0, (-1), 0, rfl, (((r8.setCell (p := ⟨w.heap.size, 0, none⟩) hg _).setCell (p := ⟨w.heap.size, 1, none⟩) hg _).setCell (p := ⟨w.heap.size, 2, none⟩) hg _).mono (by omega), grown_setCell (p := ⟨w.heap.size, 2, none⟩) (grown_setCell (p := ⟨w.heap.size, 1, none⟩) (grown_setCell (p := ⟨w.heap.size, 0, none⟩) G8 (.inr (Nat.le_refl _)) _) (.inr (Nat.le_refl _)) _) (.inr (Nat.le_refl _)) _⟩
    · have c0 : w8.cell? ⟨w6.heap.size, 9, none⟩ = some (.int .i64 0) := L.cell 9
      have c1 : w8.cell? ⟨w6.heap.size, 10, none⟩ = some (.int .i64 1001) := L.cell 10
      have c2 : w8.cell? ⟨w6.heap.size, 11, none⟩ = some (.int .i64 0) := L.cell 11
      go_wp2_with fail
      obtain ⟨⟨t0, t1, t2⟩, _⟩ := (((KR8.set_ 0 (.int .i64 0)).set_ 1 (.int .i64 1001)).set_ 2 (.int .i64 0)).threeD
      exact bodyPost_ret (v := .agg #[.int .i64 0, .int .i64 1001, .int .i64 0]) (by simp [results, Tryd.results36, go_sem, t0, t1, t2]) rfl ⟨0, 1001, 0, rfl, (((r8.setCell (p := ⟨w.heap.size, 0, none⟩) hg _).setCell (p := ⟨w.heap.size, 1, none⟩) hg _).setCell (p := ⟨w.heap.size, 2, none⟩) hg _).mono (by omega), grown_setCell (p := ⟨w.heap.size, 2, none⟩) (grown_setCell (p := ⟨w.heap.size, 1, none⟩) (grown_setCell (p := ⟨w.heap.size, 0, none⟩) G8 (.inr (Nat.le_refl _)) _) (.inr (Nat.le_refl _)) _) (.inr (Nat.le_refl _)) _⟩
    · have c0 : w8.cell? ⟨w6.heap.size, 12, none⟩ = some (.int .i64 0) := L.cell 12
      have c1 : w8.cell? ⟨w6.heap.size, 13, none⟩ = some (.int .i64 0) := L.cell 13
      have c2 : w8.cell? ⟨w6.heap.size, 14, none⟩ = some (.int .i64 4) := L.cell 14
      go_wp2_with fail
      obtain ⟨⟨t0, t1, t2⟩, _⟩ := (((KR8.set_ 0 (.int .i64 0)).set_ 1 (.int .i64 0)).set_ 2 (.int .i64 4)).threeD
      exact bodyPost_ret (v := .agg #[.int .i64 0, .int .i64 0, .int .i64 4]) (by simp [results, Tryd.results36, go_sem, t0, t1, t2]) rfl ⟨0, 0, 4, rfl, (((r8.setCell (p := ⟨w.heap.size, 0, none⟩) hg _).setCell (p := ⟨w.heap.size, 1, none⟩) hg _).setCell (p := ⟨w.heap.size, 2, none⟩) hg _).mono (by omega), grown_setCell (p := ⟨w.heap.size, 2, none⟩) (grown_setCell (p := ⟨w.heap.size, 1, none⟩) (grown_setCell (p := ⟨w.heap.size, 0, none⟩) G8 (.inr (Nat.le_refl _)) _) (.inr (Nat.le_refl _)) _) (.inr (Nat.le_refl _)) _⟩


end Go.Proofs.YtopjdidigfdhbaaDoor
