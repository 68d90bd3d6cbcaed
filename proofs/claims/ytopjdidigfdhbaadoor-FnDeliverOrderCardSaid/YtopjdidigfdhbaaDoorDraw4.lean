/- The drawing reader: l20Clock. Printed by mk_draw3.py. -/
import Derived.Test.YtopjdidigfdhbaaDoorDraw3
namespace Go.Proofs.YtopjdidigfdhbaaDoor
open Go.RowKit

set_option maxRecDepth 100000 in
set_option maxHeartbeats 16000000 in
theorem l20Clock_c {w : World} {g P : Nat} {q : Int} (hr : RD w g P) (hP : P ≤ 50000) (hq1 : 0 ≤ q) (hq2 : q ≤ 100000) :
    Calls Tryd.prog 70 #[.pointer (some ⟨g, 0, none⟩), .int .i64 q] w (DrawI w g (P + 10)) := by
  have hg := hr.lt
  go_enter Tryd.func70, Tryd.ntmps70
  go_wp2_with fail
  go_loopw [5, 6] (fun v i wr => ∃ (k : Nat) (xs : List Int), k ≤ 4 ∧ i = .int .i64 k ∧ OI wr w.heap.size v k xs ∧ RD wr g (P + 2 * k) ∧ w.grownBy wr (some g)) (fun _ i _ => 4 - (intOf i).toNat)
  case atStart => exact ⟨0, [], Nat.zero_le _, rfl, OI.empty w, hr.alloc _, grown_alloc (World.grownBy.refl _ _) _⟩
  case round =>
    obtain ⟨k, xs, hk, rfl, ho, hrd, hgr⟩ := hrel
    by_cases hlt : k < 4
    · go_wp2_with fail
      refine (pick_c hrd (by omega) (by omega) (by omega)).mono ?_
      rintro e w2 ⟨x, rfl, x0, x1, r2, g2⟩
      have o2 := ho.grown g2 (ho.block_ne hg)
      have G2 := grown_trans' hgr g2
      go_wp2_with fail
      refine (pick_c (r2.alloc _) (by omega) (by omega) (by omega)).mono ?_
      rintro e w3 ⟨y, rfl, y0, y1, r3, g3⟩
      have KX := (Blk.new w2 3 #[.int .i64 x, .int .i64 1000]).grown g3 (fun e => by injection e with e; have := r2.lt; omega)
      have o3 := (o2.alloc (.cells #[.int .i64 x, .int .i64 1000] 3)).grown g3 (o2.block_ne hg)
      have G3 := grown_trans' (grown_alloc G2 (.cells #[.int .i64 x, .int .i64 1000] 3)) g3
      have kc0 : w3.cell? ⟨w2.heap.size, 0, none⟩ = some (.int .i64 x) := KX.cell 0
      have kc1 : w3.cell? ⟨w2.heap.size, 1, none⟩ = some (.int .i64 1000) := KX.cell 1
      have hz3 := G3.size
      have hyz : y / 23 = 0 ∨ y / 23 = 1 := by omega
      rcases hyz with e23 | e23
      · go_wp2_with (at_builtin; refine wpList_appI rfl _ _ rfl rfl (o3.alloc _) rfl (SI.one _ _ _ (by omega)) (by omega) (by simp <;> omega) ?_; intro v1 w4 h4 hg4 hat)
        have G4 := grown_own (grown_alloc G3 (.cells #[.int .i64 x] 3)) (o3.alloc _) (Nat.le_refl _) hg4
        have r4 := (r3.alloc (.cells #[.int .i64 x] 3)).own (o3.alloc _) hg hg4
        clear e23
        go_roundw
        case rel => exact ⟨k + 1, _, by omega, by go_num, h4, r4.mono (by omega), G4⟩
        case measure => simp [intOf]; omega
      · go_wp2_with (at_builtin; refine wpList_appI rfl _ _ rfl rfl (o3.alloc _) rfl (SI.one _ _ _ (by omega)) (by omega) (by simp <;> omega) ?_; intro v1 w4 h4 hg4 hat)
        have G4 := grown_own (grown_alloc G3 (.cells #[.int .i64 1000] 3)) (o3.alloc _) (Nat.le_refl _) hg4
        have r4 := (r3.alloc (.cells #[.int .i64 1000] 3)).own (o3.alloc _) hg hg4
        clear e23
        go_roundw
        case rel => exact ⟨k + 1, _, by omega, by go_num, h4, r4.mono (by omega), G4⟩
        case measure => simp [intOf]; omega
    · obtain rfl : k = 4 := by omega
      clear hlt
      go_wp2_with fail
      refine (odd_c hrd (by omega) hq1 hq2).mono ?_
      rintro e w5 ⟨b, rfl, r5, g5⟩
      have o5 := ho.grown g5 (ho.block_ne hg)
      have G5 := grown_trans' hgr g5
      cases b
      · go_wp2_with fail
        go_ret
        exact ⟨_, 4, _, rfl, o5, by omega, r5.mono (by omega), G5⟩
      · have lt5 := r5.lt
        have sz5 := G5.size
        have K0 := (((((Blk.new w5 3 #[]).alloc (.cells #[.int .i64 0, .int .i64 0, .int .i64 0] 3)).alloc (.cells #[.int .i64 0, .int .i64 0, .int .i64 (-1), .int .i64 0] 3)).alloc (.cells #[.int .i64 0, .int .i64 1001, .int .i64 0, .int .i64 0] 3)).alloc (.cells #[.int .i64 0, .int .i64 0, .int .i64 0, .int .i64 0, .int .i64 0] 3)).alloc (.cells #[.slice (some ⟨w5.heap.size, 0, none⟩) 0 0, .slice (some ⟨w5.heap.size + 1, 0, none⟩) 3 3, .slice (some ⟨w5.heap.size + 1 + 1, 0, none⟩) 4 4, .slice (some ⟨w5.heap.size + 1 + 1 + 1, 0, none⟩) 4 4, .slice (some ⟨w5.heap.size + 1 + 1 + 1 + 1, 0, none⟩) 5 5] 38)
        have K1 := ((((Blk.new (w5.alloc (.cells #[] 3)) 3 #[.int .i64 0, .int .i64 0, .int .i64 0]).alloc (.cells #[.int .i64 0, .int .i64 0, .int .i64 (-1), .int .i64 0] 3)).alloc (.cells #[.int .i64 0, .int .i64 1001, .int .i64 0, .int .i64 0] 3)).alloc (.cells #[.int .i64 0, .int .i64 0, .int .i64 0, .int .i64 0, .int .i64 0] 3)).alloc (.cells #[.slice (some ⟨w5.heap.size, 0, none⟩) 0 0, .slice (some ⟨w5.heap.size + 1, 0, none⟩) 3 3, .slice (some ⟨w5.heap.size + 1 + 1, 0, none⟩) 4 4, .slice (some ⟨w5.heap.size + 1 + 1 + 1, 0, none⟩) 4 4, .slice (some ⟨w5.heap.size + 1 + 1 + 1 + 1, 0, none⟩) 5 5] 38)
        have K2 := (((Blk.new ((w5.alloc (.cells #[] 3)).alloc (.cells #[.int .i64 0, .int .i64 0, .int .i64 0] 3)) 3 #[.int .i64 0, .int .i64 0, .int .i64 (-1), .int .i64 0]).alloc (.cells #[.int .i64 0, .int .i64 1001, .int .i64 0, .int .i64 0] 3)).alloc (.cells #[.int .i64 0, .int .i64 0, .int .i64 0, .int .i64 0, .int .i64 0] 3)).alloc (.cells #[.slice (some ⟨w5.heap.size, 0, none⟩) 0 0, .slice (some ⟨w5.heap.size + 1, 0, none⟩) 3 3, .slice (some ⟨w5.heap.size + 1 + 1, 0, none⟩) 4 4, .slice (some ⟨w5.heap.size + 1 + 1 + 1, 0, none⟩) 4 4, .slice (some ⟨w5.heap.size + 1 + 1 + 1 + 1, 0, none⟩) 5 5] 38)
        have K3 := ((Blk.new (((w5.alloc (.cells #[] 3)).alloc (.cells #[.int .i64 0, .int .i64 0, .int .i64 0] 3)).alloc (.cells #[.int .i64 0, .int .i64 0, .int .i64 (-1), .int .i64 0] 3)) 3 #[.int .i64 0, .int .i64 1001, .int .i64 0, .int .i64 0]).alloc (.cells #[.int .i64 0, .int .i64 0, .int .i64 0, .int .i64 0, .int .i64 0] 3)).alloc (.cells #[.slice (some ⟨w5.heap.size, 0, none⟩) 0 0, .slice (some ⟨w5.heap.size + 1, 0, none⟩) 3 3, .slice (some ⟨w5.heap.size + 1 + 1, 0, none⟩) 4 4, .slice (some ⟨w5.heap.size + 1 + 1 + 1, 0, none⟩) 4 4, .slice (some ⟨w5.heap.size + 1 + 1 + 1 + 1, 0, none⟩) 5 5] 38)
        have K4 := (Blk.new ((((w5.alloc (.cells #[] 3)).alloc (.cells #[.int .i64 0, .int .i64 0, .int .i64 0] 3)).alloc (.cells #[.int .i64 0, .int .i64 0, .int .i64 (-1), .int .i64 0] 3)).alloc (.cells #[.int .i64 0, .int .i64 1001, .int .i64 0, .int .i64 0] 3)) 3 #[.int .i64 0, .int .i64 0, .int .i64 0, .int .i64 0, .int .i64 0]).alloc (.cells #[.slice (some ⟨w5.heap.size, 0, none⟩) 0 0, .slice (some ⟨w5.heap.size + 1, 0, none⟩) 3 3, .slice (some ⟨w5.heap.size + 1 + 1, 0, none⟩) 4 4, .slice (some ⟨w5.heap.size + 1 + 1 + 1, 0, none⟩) 4 4, .slice (some ⟨w5.heap.size + 1 + 1 + 1 + 1, 0, none⟩) 5 5] 38)
        have KT := Blk.new (((((w5.alloc (.cells #[] 3)).alloc (.cells #[.int .i64 0, .int .i64 0, .int .i64 0] 3)).alloc (.cells #[.int .i64 0, .int .i64 0, .int .i64 (-1), .int .i64 0] 3)).alloc (.cells #[.int .i64 0, .int .i64 1001, .int .i64 0, .int .i64 0] 3)).alloc (.cells #[.int .i64 0, .int .i64 0, .int .i64 0, .int .i64 0, .int .i64 0] 3)) 38 #[.slice (some ⟨w5.heap.size, 0, none⟩) 0 0, .slice (some ⟨w5.heap.size + 1, 0, none⟩) 3 3, .slice (some ⟨w5.heap.size + 1 + 1, 0, none⟩) 4 4, .slice (some ⟨w5.heap.size + 1 + 1 + 1, 0, none⟩) 4 4, .slice (some ⟨w5.heap.size + 1 + 1 + 1 + 1, 0, none⟩) 5 5]
        simp only [World.size_alloc] at K1 K2 K3 K4 KT
        have G6 := grown_alloc (grown_alloc (grown_alloc (grown_alloc (grown_alloc (grown_alloc G5 (.cells #[] 3)) (.cells #[.int .i64 0, .int .i64 0, .int .i64 0] 3)) (.cells #[.int .i64 0, .int .i64 0, .int .i64 (-1), .int .i64 0] 3)) (.cells #[.int .i64 0, .int .i64 1001, .int .i64 0, .int .i64 0] 3)) (.cells #[.int .i64 0, .int .i64 0, .int .i64 0, .int .i64 0, .int .i64 0] 3)) (.cells #[.slice (some ⟨w5.heap.size, 0, none⟩) 0 0, .slice (some ⟨w5.heap.size + 1, 0, none⟩) 3 3, .slice (some ⟨w5.heap.size + 1 + 1, 0, none⟩) 4 4, .slice (some ⟨w5.heap.size + 1 + 1 + 1, 0, none⟩) 4 4, .slice (some ⟨w5.heap.size + 1 + 1 + 1 + 1, 0, none⟩) 5 5] 38)
        have r6 := (((((r5.alloc (.cells #[] 3)).alloc (.cells #[.int .i64 0, .int .i64 0, .int .i64 0] 3)).alloc (.cells #[.int .i64 0, .int .i64 0, .int .i64 (-1), .int .i64 0] 3)).alloc (.cells #[.int .i64 0, .int .i64 1001, .int .i64 0, .int .i64 0] 3)).alloc (.cells #[.int .i64 0, .int .i64 0, .int .i64 0, .int .i64 0, .int .i64 0] 3)).alloc (.cells #[.slice (some ⟨w5.heap.size, 0, none⟩) 0 0, .slice (some ⟨w5.heap.size + 1, 0, none⟩) 3 3, .slice (some ⟨w5.heap.size + 1 + 1, 0, none⟩) 4 4, .slice (some ⟨w5.heap.size + 1 + 1 + 1, 0, none⟩) 4 4, .slice (some ⟨w5.heap.size + 1 + 1 + 1 + 1, 0, none⟩) 5 5] 38)
        go_wp2_with fail
        generalize ((((((w5.alloc (.cells #[] 3)).alloc (.cells #[.int .i64 0, .int .i64 0, .int .i64 0] 3)).alloc (.cells #[.int .i64 0, .int .i64 0, .int .i64 (-1), .int .i64 0] 3)).alloc (.cells #[.int .i64 0, .int .i64 1001, .int .i64 0, .int .i64 0] 3)).alloc (.cells #[.int .i64 0, .int .i64 0, .int .i64 0, .int .i64 0, .int .i64 0] 3)).alloc (.cells #[.slice (some ⟨w5.heap.size, 0, none⟩) 0 0, .slice (some ⟨w5.heap.size + 1, 0, none⟩) 3 3, .slice (some ⟨w5.heap.size + 1 + 1, 0, none⟩) 4 4, .slice (some ⟨w5.heap.size + 1 + 1 + 1, 0, none⟩) 4 4, .slice (some ⟨w5.heap.size + 1 + 1 + 1 + 1, 0, none⟩) 5 5] 38)) = w6 at *
        refine (pick_c r6 (by omega) (by omega) (by omega)).mono ?_
        rintro e w7 ⟨x, rfl, x0, x1, r7, g7⟩
        have G7 := grown_trans' G6 g7
        have hx : x = 0 ∨ x = 1 ∨ x = 2 ∨ x = 3 ∨ x = 4 := by omega
        have L := KT.grown g7 (fun e => by injection e with e; omega)
        rcases hx with rfl | rfl | rfl | rfl | rfl
        · have c := L.cell 0
          have c' : w7.cell? ⟨w5.heap.size + 1 + 1 + 1 + 1 + 1, 0, none⟩ = some (.slice (some ⟨w5.heap.size, 0, none⟩) 0 0) := c
          clear c
          go_wp2_with fail
          go_ret
          exact ⟨_, 0, [], rfl, OI.of_blk (K0.grown g7 (fun e => by injection e with e; omega)) (by omega) rfl rfl (by omega), by omega, r7.mono (by omega), G7⟩
        · have c := L.cell 1
          have c' : w7.cell? ⟨w5.heap.size + 1 + 1 + 1 + 1 + 1, 1, none⟩ = some (.slice (some ⟨w5.heap.size + 1, 0, none⟩) 3 3) := c
          clear c
          go_wp2_with fail
          go_ret
          exact ⟨_, 3, [0, 0, 0], rfl, OI.of_blk (K1.grown g7 (fun e => by injection e with e; omega)) (by omega) rfl rfl (by omega), by omega, r7.mono (by omega), G7⟩
        · have c := L.cell 2
          have c' : w7.cell? ⟨w5.heap.size + 1 + 1 + 1 + 1 + 1, 2, none⟩ = some (.slice (some ⟨w5.heap.size + 1 + 1, 0, none⟩) 4 4) := c
          clear c
          go_wp2_with fail
          go_ret
          exact ⟨_, 4, [0, 0, -1, 0], rfl, OI.of_blk (K2.grown g7 (fun e => by injection e with e; omega)) (by omega) rfl rfl (by omega), by omega, r7.mono (by omega), G7⟩
        · have c := L.cell 3
          have c' : w7.cell? ⟨w5.heap.size + 1 + 1 + 1 + 1 + 1, 3, none⟩ = some (.slice (some ⟨w5.heap.size + 1 + 1 + 1, 0, none⟩) 4 4) := c
          clear c
          go_wp2_with fail
          go_ret
          exact ⟨_, 4, [0, 1001, 0, 0], rfl, OI.of_blk (K3.grown g7 (fun e => by injection e with e; omega)) (by omega) rfl rfl (by omega), by omega, r7.mono (by omega), G7⟩
        · have c := L.cell 4
          have c' : w7.cell? ⟨w5.heap.size + 1 + 1 + 1 + 1 + 1, 4, none⟩ = some (.slice (some ⟨w5.heap.size + 1 + 1 + 1 + 1, 0, none⟩) 5 5) := c
          clear c
          go_wp2_with fail
          go_ret
          exact ⟨_, 5, [0, 0, 0, 0, 0], rfl, OI.of_blk (K4.grown g7 (fun e => by injection e with e; omega)) (by omega) rfl rfl (by omega), by omega, r7.mono (by omega), G7⟩

end Go.Proofs.YtopjdidigfdhbaaDoor
