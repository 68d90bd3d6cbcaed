/- The draw of a shared set and a number. Printed by mk_draw9.py. -/
import Derived.Test.YtcoienlblhbkpaaDoorDraw9
import Derived.Deep.RegionWith
import Derived.Deep.RegionHeld3
import Derived.Deep.DeepCutAuto
namespace Go.Proofs.YtcoienlblhbkpaaDoor
open Go.RowKit

set_option linter.unusedSimpArgs false
theorem tab7_at (k : Nat) (h : k < 7) : ∃ v : Nat, v < 4 ∧ (#[.int .i64 0, .int .i64 0, .int .i64 0, .int .i64 0, .int .i64 1, .int .i64 2, .int .i64 3] : Array Value)[k]? = some (.int .i64 (v : Int)) := by
  have : k = 0 ∨ k = 1 ∨ k = 2 ∨ k = 3 ∨ k = 4 ∨ k = 5 ∨ k = 6 := by omega
  rcases this with rfl | rfl | rfl | rfl | rfl | rfl | rfl
  · exact ⟨0, by omega, rfl⟩
  · exact ⟨0, by omega, rfl⟩
  · exact ⟨0, by omega, rfl⟩
  · exact ⟨0, by omega, rfl⟩
  · exact ⟨1, by omega, rfl⟩
  · exact ⟨2, by omega, rfl⟩
  · exact ⟨3, by omega, rfl⟩
theorem row4_at (x : Int) (k : Nat) (h : k < 4) : ∃ u : Int, (u = x ∨ u = 30 ∨ u = 31 ∨ u = -1) ∧ (#[.int .i64 x, .int .i64 30, .int .i64 31, .int .i64 (-1)] : Array Value)[k]? = some (.int .i64 u) := by
  have : k = 0 ∨ k = 1 ∨ k = 2 ∨ k = 3 := by omega
  rcases this with rfl | rfl | rfl | rfl
  · exact ⟨x, by omega, rfl⟩
  · exact ⟨30, by omega, rfl⟩
  · exact ⟨31, by omega, rfl⟩
  · exact ⟨-1, by omega, rfl⟩
set_option maxRecDepth 100000 in
set_option maxHeartbeats 16000000 in
theorem DrawPutShared_c {w : World} {A : Option Addr} {n c : Nat} (hnc : n ≤ c) (hmx : c ≤ maxLen) (hb : BY w w.heap.size A n) : Calls Tryd.prog 37 #[.slice A n c] w (OneShN w) := by
  have b0 := beB0 w (.cells #[.slice none 0 0, .slice none 0 0] 27)
  have KR0 := Blk.new w 27 #[.slice none 0 0, .slice none 0 0]
  go_enter Tryd.func37, Tryd.ntmps37
  go_wp2_with fail
  refine (l20Open_c hnc hmx (hb.upB b0)).mono ?_
  rintro e w1 ⟨rfl, r1, b1⟩
  have B1 := below_step b0 b1
  replace KR0 := KR0.belowAll b1
  have hz1 := b1.size
  simp only [World.size_alloc] at r1 hz1
  simp only [World.size_alloc]
  have l1 := r1.lt
  go_wp2_with fail
  refine (l20Shared_c r1 (by omega) (by omega) (by omega)).mono ?_
  rintro e w2 ⟨A1, n1, c1, xs, A2, n2, c2, ys, rfl, o1, o2, r2, g2⟩
  have B2 := belowG B1 g2 (by omega)
  replace KR0 := KR0.grown g2 (fun e => by injection e with e; omega)
  have hz2 := g2.size
  have K5 := Blk.new w2 27 #[.slice A1 n1 c1, .slice A2 n2 c2]
  have b3 := beB0 w2 (.cells #[.slice A1 n1 c1, .slice A2 n2 c2] 27)
  have B3 := below_step B2 b3
  replace KR0 := KR0.belowAll b3
  replace o1 := o1.below b3
  replace o2 := o2.below b3
  replace r2 := r2.below b3
  have hn0 : ¬ w.heap.size = w2.heap.size := by omega
  go_wp2_with fail
  generalize w2.alloc (.cells #[.slice A1 n1 c1, .slice A2 n2 c2] 27) = w3 at *
  have l5 := K5.lt
  have l0 := KR0.lt
  obtain ⟨c0, c1', _, _⟩ := K5.two
  go_upto_region 3 with fail
  go_cut [3] (fun s wx => ∃ u : Int, s = .int .i64 u ∧ -1 ≤ u ∧ u ≤ 31 ∧ Blk wx w.heap.size 27 #[.slice A1 n1 c1, .slice A2 n2 c2] ∧ OI wx w.heap.size (.slice A1 n1 c1) n1 xs ∧ OI wx w.heap.size (.slice A2 n2 c2) n2 ys ∧ Below w.heap.size w wx)
  case first =>
    have GZ : w3.grownBy w3.drew (some (w.heap.size + 1)) := grownDrew (World.grownBy.refl _ _)
    have l5' : w.heap.size + 1 < w2.heap.size := by omega
    refine wp_region_held_drew (S := (fun W => W.cell? ⟨w2.heap.size, 0, none⟩ = some (.slice A1 n1 c1) ∧ W.cell? ⟨w2.heap.size, 1, none⟩ = some (.slice A2 n2 c2))) (by kernel_rfl) ?_ (fun hHeld => ?_)
    · exact ⟨(K5.grown GZ (fun e => (by injection e with e; omega))).cell 0, (K5.grown GZ (fun e => (by injection e with e; omega))).cell 1⟩
    refine wpAnyH_take (i := 0) (v := ?vv0_1) (by rw [List.getElem?_toArray]; exact rfl) (by kernel_rfl) (by kernel_rfl) (by kernel_rfl) (by intro _ _ _ h; exact h) (Or.inl ⟨by rfl, ?hy0_1⟩) hHeld ?rest0_1
    case' hy0_1 => (intro w hSw; (try dsimp only at hSw); go_simp; try (with_reducible rfl))
    (try simp only [Act.put, List.setIfInBounds_toArray, List.set_cons_zero, List.set_cons_succ])
    refine wpAnyH_take (i := 1) (v := ?vv1_2) (by rw [List.getElem?_toArray]; exact rfl) (by kernel_rfl) (by kernel_rfl) (by kernel_rfl) (by intro _ _ _ h; exact h) (Or.inl ⟨by rfl, ?hy1_2⟩) hHeld ?rest1_2
    case' hy1_2 => (intro w hSw; (try dsimp only at hSw); go_simp; try (with_reducible rfl))
    (try simp only [Act.put, List.setIfInBounds_toArray, List.set_cons_zero, List.set_cons_succ])
    refine wpAnyH_take (i := 5) (v := ?vv5_3) (by rw [List.getElem?_toArray]; exact rfl) (by kernel_rfl) (by kernel_rfl) (by kernel_rfl) (by intro _ _ _ h; exact h) (Or.inl ⟨by rfl, ?hy5_3⟩) hHeld ?rest5_3
    case' hy5_3 => (intro w hSw; (try dsimp only at hSw); go_simp; try (with_reducible rfl))
    (try simp only [Act.put, List.setIfInBounds_toArray, List.set_cons_zero, List.set_cons_succ])
    refine wpAnyH_ready (rs := [2, 4]) (by kernel_rfl) (by simp) ?_
    refine AllReadyH.cons (by rw [List.getElem?_toArray]; exact rfl) (fun K hK => ?_) ?_
    · go_simp
      go_at_call 57
      refine (pick_c r2.drew (by omega) (by omega) (by omega)).mono ?_
      rintro e wp ⟨x, rfl, x0, x1, rp, gp⟩
      replace GZ := grown_trans' GZ gp
      have rpl := rp.lt
      (try go_wp2_with fail)
      refine hK.out _ _ ?_ (fun hHeld => ?_)
      · exact ⟨(K5.grown GZ (fun e => (by injection e with e; omega))).cell 0, (K5.grown GZ (fun e => (by injection e with e; omega))).cell 1⟩
      clear hK K
      (try simp only [Act.put, List.setIfInBounds_toArray, List.set_cons_zero, List.set_cons_succ])
      refine wpAnyH_ready (rs := [3, 4, 6]) (by kernel_rfl) (by simp) ?_
      refine AllReadyH.cons (by rw [List.getElem?_toArray]; exact rfl) (fun K hK => ?_) ?_
      · go_simp
        refine hK.out _ _ ?_ (fun hHeld => ?_)
        · exact ⟨((K5.grown GZ (fun e => (by injection e with e; omega))).alloc (.cells #[.int .i64 x, .int .i64 30, .int .i64 31, .int .i64 (-1)] 3)).cell 0, ((K5.grown GZ (fun e => (by injection e with e; omega))).alloc (.cells #[.int .i64 x, .int .i64 30, .int .i64 31, .int .i64 (-1)] 3)).cell 1⟩
        clear hK K
        (try simp only [Act.put, List.setIfInBounds_toArray, List.set_cons_zero, List.set_cons_succ])
        refine wpAnyH_ready (rs := [4, 6]) (by kernel_rfl) (by simp) ?_
        refine AllReadyH.cons (by rw [List.getElem?_toArray]; exact rfl) (fun K hK => ?_) ?_
        · go_simp
          refine hK.out _ _ ?_ (fun hHeld => ?_)
          · exact ⟨(((K5.grown GZ (fun e => (by injection e with e; omega))).alloc (.cells #[.int .i64 x, .int .i64 30, .int .i64 31, .int .i64 (-1)] 3)).alloc (.cells #[.int .i64 0, .int .i64 0, .int .i64 0, .int .i64 0, .int .i64 1, .int .i64 2, .int .i64 3] 3)).cell 0, (((K5.grown GZ (fun e => (by injection e with e; omega))).alloc (.cells #[.int .i64 x, .int .i64 30, .int .i64 31, .int .i64 (-1)] 3)).alloc (.cells #[.int .i64 0, .int .i64 0, .int .i64 0, .int .i64 0, .int .i64 1, .int .i64 2, .int .i64 3] 3)).cell 1⟩
          clear hK K
          (try simp only [Act.put, List.setIfInBounds_toArray, List.set_cons_zero, List.set_cons_succ])
          refine wpAnyH_ready (rs := [6]) (by kernel_rfl) (by simp) ?_
          refine AllReadyH.cons (by rw [List.getElem?_toArray]; exact rfl) (fun K hK => ?_) ?_
          · go_simp
            go_at_call 57
            refine (pick_c ((rp.alloc (.cells #[.int .i64 x, .int .i64 30, .int .i64 31, .int .i64 (-1)] 3)).alloc (.cells #[.int .i64 0, .int .i64 0, .int .i64 0, .int .i64 0, .int .i64 1, .int .i64 2, .int .i64 3] 3)) (by omega) (by omega) (by omega)).mono ?_
            rintro e wq ⟨y, rfl, y0, y1, rq, gq⟩
            have k3 := (((blkAt (w := wp) (g := wp.heap.size) rfl 3 #[.int .i64 x, .int .i64 30, .int .i64 31, .int .i64 (-1)]).alloc (.cells #[.int .i64 0, .int .i64 0, .int .i64 0, .int .i64 0, .int .i64 1, .int .i64 2, .int .i64 3] 3))).grown gq (fun e => (by injection e with e; omega))
            have k4 := ((blkAt (w := (wp.alloc (.cells #[.int .i64 x, .int .i64 30, .int .i64 31, .int .i64 (-1)] 3))) (g := wp.heap.size + 1) (by simp only [World.size_alloc, size_setCell]) 3 #[.int .i64 0, .int .i64 0, .int .i64 0, .int .i64 0, .int .i64 1, .int .i64 2, .int .i64 3])).grown gq (fun e => (by injection e with e; omega))
            replace GZ := grown_trans' (grown_alloc (grown_alloc GZ (.cells #[.int .i64 x, .int .i64 30, .int .i64 31, .int .i64 (-1)] 3)) (.cells #[.int .i64 0, .int .i64 0, .int .i64 0, .int .i64 0, .int .i64 1, .int .i64 2, .int .i64 3] 3)) gq
            have rql := rq.lt
            obtain ⟨yn, rfl⟩ : ∃ k : Nat, y = k := ⟨y.toNat, by omega⟩
            obtain ⟨v, hv, tv⟩ := tab7_at yn (by omega)
            obtain ⟨u, hu, ru⟩ := row4_at x v hv
            have v1 : (0 : Int) ≤ v := by omega
            have v2 : (v : Int) < 4 := by omega
            have y00 : (0 : Int) ≤ yn := by omega
            have y77 : (yn : Int) < 7 := by omega
            have Q := KR0.grown GZ (fun e => (by injection e with e; omega))
            have q1 := o1.grown GZ (o1.block_ne (by omega))
            have q2 := o2.grown GZ (o2.block_ne (by omega))
            have BX := belowG B3 GZ (by omega)
            have ub : -1 ≤ u ∧ u ≤ 31 := by omega
            (try go_wp2_with fail)
            refine hK.out _ _ ?_ (fun hHeld => ?_)
            · exact ⟨(K5.grown GZ (fun e => (by injection e with e; omega))).cell 0, (K5.grown GZ (fun e => (by injection e with e; omega))).cell 1⟩
            clear hK K
            (try simp only [Act.put, List.setIfInBounds_toArray, List.set_cons_zero, List.set_cons_succ])
            refine wpAnyH_take (i := 7) (v := ?vv7_4) (by rw [List.getElem?_toArray]; exact rfl) (by kernel_rfl) (by kernel_rfl) (by kernel_rfl) (by intro _ _ _ h; exact h) (Or.inl ⟨by rfl, ?hy7_4⟩) hHeld ?rest7_4
            case' hy7_4 => (intro w hSw; (try dsimp only at hSw); go_simp; try (with_reducible rfl))
            (try simp only [Act.put, List.setIfInBounds_toArray, List.set_cons_zero, List.set_cons_succ])
            refine wpAnyH_ready (rs := [8, 11]) (by kernel_rfl) (by simp) ?_
            refine AllReadyH.cons (by rw [List.getElem?_toArray]; exact rfl) (fun K hK => ?_) ?_
            · have f18 := (k4.cell yn).trans tv
              go_simp
              refine hK.out _ _ ?_ (fun hHeld => ?_)
              · exact ⟨(K5.grown GZ (fun e => (by injection e with e; omega))).cell 0, (K5.grown GZ (fun e => (by injection e with e; omega))).cell 1⟩
              clear hK K
              (try simp only [Act.put, List.setIfInBounds_toArray, List.set_cons_zero, List.set_cons_succ])
              refine wpAnyH_take (i := 9) (v := ?vv9_5) (by rw [List.getElem?_toArray]; exact rfl) (by kernel_rfl) (by kernel_rfl) (by kernel_rfl) (by intro _ _ _ h; exact h) (Or.inl ⟨by rfl, ?hy9_5⟩) hHeld ?rest9_5
              case' hy9_5 => (intro w hSw; (try dsimp only at hSw); go_simp; try (with_reducible rfl))
              (try simp only [Act.put, List.setIfInBounds_toArray, List.set_cons_zero, List.set_cons_succ])
              refine wpAnyH_ready (rs := [10, 11]) (by kernel_rfl) (by simp) ?_
              refine AllReadyH.cons (by rw [List.getElem?_toArray]; exact rfl) (fun K hK => ?_) ?_
              · have f20 := (k3.cell v).trans ru
                go_simp
                refine hK.out _ _ ?_ (fun hHeld => ?_)
                · exact ⟨(K5.grown GZ (fun e => (by injection e with e; omega))).cell 0, (K5.grown GZ (fun e => (by injection e with e; omega))).cell 1⟩
                clear hK K
                (try simp only [Act.put, List.setIfInBounds_toArray, List.set_cons_zero, List.set_cons_succ])
                refine wpAnyH_ready (rs := [11]) (by kernel_rfl) (by simp) ?_
                refine AllReadyH.cons (by rw [List.getElem?_toArray]; exact rfl) (fun K hK => ?_) ?_
                · obtain ⟨d0, d1, d2, d3⟩ := (Q).two
                  go_simp
                  refine hK.out _ _ ?_ (fun hHeld => ?_)
                  · exact ⟨(((K5.grown GZ (fun e => (by injection e with e; omega))).far (p := ⟨w.heap.size, 0, none⟩) (by show _ ≠ w.heap.size; omega) (.slice A1 n1 c1)).far (p := ⟨w.heap.size, 1, none⟩) (by show _ ≠ w.heap.size; omega) (.slice A2 n2 c2)).cell 0, (((K5.grown GZ (fun e => (by injection e with e; omega))).far (p := ⟨w.heap.size, 0, none⟩) (by show _ ≠ w.heap.size; omega) (.slice A1 n1 c1)).far (p := ⟨w.heap.size, 1, none⟩) (by show _ ≠ w.heap.size; omega) (.slice A2 n2 c2)).cell 1⟩
                  clear hK K
                  (try simp only [Act.put, List.setIfInBounds_toArray, List.set_cons_zero, List.set_cons_succ])
                  refine wpAnyH_take (i := 12) (v := ?vv12_6) (by rw [List.getElem?_toArray]; exact rfl) (by kernel_rfl) (by kernel_rfl) (by kernel_rfl) (by intro _ _ _ h; exact h) (Or.inl ⟨by rfl, ?hy12_6⟩) hHeld ?rest12_6
                  case' hy12_6 => (intro w hSw; (try dsimp only at hSw); go_simp; try (with_reducible rfl))
                  (try simp only [Act.put, List.setIfInBounds_toArray, List.set_cons_zero, List.set_cons_succ])
                  refine wpAnyH_done (by kernel_rfl) ?_ _
                  go_wp2_with fail
                  go_meet
                  exact ⟨u, rfl, ub.1, ub.2, ((Q.set_ 0 (.slice A1 n1 c1)).set_ 1 (.slice A2 n2 c2)), ((q1.set_low (p := ⟨w.heap.size, 0, none⟩) (by show w.heap.size < _; omega) (.slice A1 n1 c1)).set_low (p := ⟨w.heap.size, 1, none⟩) (by show w.heap.size < _; omega) (.slice A2 n2 c2)).mono (by omega), ((q2.set_low (p := ⟨w.heap.size, 0, none⟩) (by show w.heap.size < _; omega) (.slice A1 n1 c1)).set_low (p := ⟨w.heap.size, 1, none⟩) (by show w.heap.size < _; omega) (.slice A2 n2 c2)).mono (by omega), ((BX.setCell (p := ⟨w.heap.size, 0, none⟩) (Nat.le_refl _) (.slice A1 n1 c1)).setCell (p := ⟨w.heap.size, 1, none⟩) (Nat.le_refl _) (.slice A2 n2 c2))⟩
                exact AllReadyH.nil
              refine AllReadyH.cons (by rw [List.getElem?_toArray]; exact rfl) (fun K hK => ?_) ?_
              · obtain ⟨d0, d1, d2, d3⟩ := (Q).two
                go_simp
                refine hK.out _ _ ?_ (fun hHeld => ?_)
                · exact ⟨(((K5.grown GZ (fun e => (by injection e with e; omega))).far (p := ⟨w.heap.size, 0, none⟩) (by show _ ≠ w.heap.size; omega) (.slice A1 n1 c1)).far (p := ⟨w.heap.size, 1, none⟩) (by show _ ≠ w.heap.size; omega) (.slice A2 n2 c2)).cell 0, (((K5.grown GZ (fun e => (by injection e with e; omega))).far (p := ⟨w.heap.size, 0, none⟩) (by show _ ≠ w.heap.size; omega) (.slice A1 n1 c1)).far (p := ⟨w.heap.size, 1, none⟩) (by show _ ≠ w.heap.size; omega) (.slice A2 n2 c2)).cell 1⟩
                clear hK K
                (try simp only [Act.put, List.setIfInBounds_toArray, List.set_cons_zero, List.set_cons_succ])
                refine wpAnyH_ready (rs := [10]) (by kernel_rfl) (by simp) ?_
                refine AllReadyH.cons (by rw [List.getElem?_toArray]; exact rfl) (fun K hK => ?_) ?_
                · have f20 := (((k3.far (p := ⟨w.heap.size, 0, none⟩) (by show _ ≠ w.heap.size; omega) (.slice A1 n1 c1)).far (p := ⟨w.heap.size, 1, none⟩) (by show _ ≠ w.heap.size; omega) (.slice A2 n2 c2)).cell v).trans ru
                  go_simp
                  refine hK.out _ _ ?_ (fun hHeld => ?_)
                  · exact ⟨(((K5.grown GZ (fun e => (by injection e with e; omega))).far (p := ⟨w.heap.size, 0, none⟩) (by show _ ≠ w.heap.size; omega) (.slice A1 n1 c1)).far (p := ⟨w.heap.size, 1, none⟩) (by show _ ≠ w.heap.size; omega) (.slice A2 n2 c2)).cell 0, (((K5.grown GZ (fun e => (by injection e with e; omega))).far (p := ⟨w.heap.size, 0, none⟩) (by show _ ≠ w.heap.size; omega) (.slice A1 n1 c1)).far (p := ⟨w.heap.size, 1, none⟩) (by show _ ≠ w.heap.size; omega) (.slice A2 n2 c2)).cell 1⟩
                  clear hK K
                  (try simp only [Act.put, List.setIfInBounds_toArray, List.set_cons_zero, List.set_cons_succ])
                  refine wpAnyH_take (i := 12) (v := ?vv12_7) (by rw [List.getElem?_toArray]; exact rfl) (by kernel_rfl) (by kernel_rfl) (by kernel_rfl) (by intro _ _ _ h; exact h) (Or.inl ⟨by rfl, ?hy12_7⟩) hHeld ?rest12_7
                  case' hy12_7 => (intro w hSw; (try dsimp only at hSw); go_simp; try (with_reducible rfl))
                  (try simp only [Act.put, List.setIfInBounds_toArray, List.set_cons_zero, List.set_cons_succ])
                  refine wpAnyH_done (by kernel_rfl) ?_ _
                  go_wp2_with fail
                  go_meet
                  exact ⟨u, rfl, ub.1, ub.2, ((Q.set_ 0 (.slice A1 n1 c1)).set_ 1 (.slice A2 n2 c2)), ((q1.set_low (p := ⟨w.heap.size, 0, none⟩) (by show w.heap.size < _; omega) (.slice A1 n1 c1)).set_low (p := ⟨w.heap.size, 1, none⟩) (by show w.heap.size < _; omega) (.slice A2 n2 c2)).mono (by omega), ((q2.set_low (p := ⟨w.heap.size, 0, none⟩) (by show w.heap.size < _; omega) (.slice A1 n1 c1)).set_low (p := ⟨w.heap.size, 1, none⟩) (by show w.heap.size < _; omega) (.slice A2 n2 c2)).mono (by omega), ((BX.setCell (p := ⟨w.heap.size, 0, none⟩) (Nat.le_refl _) (.slice A1 n1 c1)).setCell (p := ⟨w.heap.size, 1, none⟩) (Nat.le_refl _) (.slice A2 n2 c2))⟩
                exact AllReadyH.nil
              exact AllReadyH.nil
            refine AllReadyH.cons (by rw [List.getElem?_toArray]; exact rfl) (fun K hK => ?_) ?_
            · obtain ⟨d0, d1, d2, d3⟩ := (Q).two
              go_simp
              refine hK.out _ _ ?_ (fun hHeld => ?_)
              · exact ⟨(((K5.grown GZ (fun e => (by injection e with e; omega))).far (p := ⟨w.heap.size, 0, none⟩) (by show _ ≠ w.heap.size; omega) (.slice A1 n1 c1)).far (p := ⟨w.heap.size, 1, none⟩) (by show _ ≠ w.heap.size; omega) (.slice A2 n2 c2)).cell 0, (((K5.grown GZ (fun e => (by injection e with e; omega))).far (p := ⟨w.heap.size, 0, none⟩) (by show _ ≠ w.heap.size; omega) (.slice A1 n1 c1)).far (p := ⟨w.heap.size, 1, none⟩) (by show _ ≠ w.heap.size; omega) (.slice A2 n2 c2)).cell 1⟩
              clear hK K
              (try simp only [Act.put, List.setIfInBounds_toArray, List.set_cons_zero, List.set_cons_succ])
              refine wpAnyH_ready (rs := [8]) (by kernel_rfl) (by simp) ?_
              refine AllReadyH.cons (by rw [List.getElem?_toArray]; exact rfl) (fun K hK => ?_) ?_
              · have f18 := (((k4.far (p := ⟨w.heap.size, 0, none⟩) (by show _ ≠ w.heap.size; omega) (.slice A1 n1 c1)).far (p := ⟨w.heap.size, 1, none⟩) (by show _ ≠ w.heap.size; omega) (.slice A2 n2 c2)).cell yn).trans tv
                go_simp
                refine hK.out _ _ ?_ (fun hHeld => ?_)
                · exact ⟨(((K5.grown GZ (fun e => (by injection e with e; omega))).far (p := ⟨w.heap.size, 0, none⟩) (by show _ ≠ w.heap.size; omega) (.slice A1 n1 c1)).far (p := ⟨w.heap.size, 1, none⟩) (by show _ ≠ w.heap.size; omega) (.slice A2 n2 c2)).cell 0, (((K5.grown GZ (fun e => (by injection e with e; omega))).far (p := ⟨w.heap.size, 0, none⟩) (by show _ ≠ w.heap.size; omega) (.slice A1 n1 c1)).far (p := ⟨w.heap.size, 1, none⟩) (by show _ ≠ w.heap.size; omega) (.slice A2 n2 c2)).cell 1⟩
                clear hK K
                (try simp only [Act.put, List.setIfInBounds_toArray, List.set_cons_zero, List.set_cons_succ])
                refine wpAnyH_take (i := 9) (v := ?vv9_8) (by rw [List.getElem?_toArray]; exact rfl) (by kernel_rfl) (by kernel_rfl) (by kernel_rfl) (by intro _ _ _ h; exact h) (Or.inl ⟨by rfl, ?hy9_8⟩) hHeld ?rest9_8
                case' hy9_8 => (intro w hSw; (try dsimp only at hSw); go_simp; try (with_reducible rfl))
                (try simp only [Act.put, List.setIfInBounds_toArray, List.set_cons_zero, List.set_cons_succ])
                refine wpAnyH_ready (rs := [10]) (by kernel_rfl) (by simp) ?_
                refine AllReadyH.cons (by rw [List.getElem?_toArray]; exact rfl) (fun K hK => ?_) ?_
                · have f20 := (((k3.far (p := ⟨w.heap.size, 0, none⟩) (by show _ ≠ w.heap.size; omega) (.slice A1 n1 c1)).far (p := ⟨w.heap.size, 1, none⟩) (by show _ ≠ w.heap.size; omega) (.slice A2 n2 c2)).cell v).trans ru
                  go_simp
                  refine hK.out _ _ ?_ (fun hHeld => ?_)
                  · exact ⟨(((K5.grown GZ (fun e => (by injection e with e; omega))).far (p := ⟨w.heap.size, 0, none⟩) (by show _ ≠ w.heap.size; omega) (.slice A1 n1 c1)).far (p := ⟨w.heap.size, 1, none⟩) (by show _ ≠ w.heap.size; omega) (.slice A2 n2 c2)).cell 0, (((K5.grown GZ (fun e => (by injection e with e; omega))).far (p := ⟨w.heap.size, 0, none⟩) (by show _ ≠ w.heap.size; omega) (.slice A1 n1 c1)).far (p := ⟨w.heap.size, 1, none⟩) (by show _ ≠ w.heap.size; omega) (.slice A2 n2 c2)).cell 1⟩
                  clear hK K
                  (try simp only [Act.put, List.setIfInBounds_toArray, List.set_cons_zero, List.set_cons_succ])
                  refine wpAnyH_take (i := 12) (v := ?vv12_9) (by rw [List.getElem?_toArray]; exact rfl) (by kernel_rfl) (by kernel_rfl) (by kernel_rfl) (by intro _ _ _ h; exact h) (Or.inl ⟨by rfl, ?hy12_9⟩) hHeld ?rest12_9
                  case' hy12_9 => (intro w hSw; (try dsimp only at hSw); go_simp; try (with_reducible rfl))
                  (try simp only [Act.put, List.setIfInBounds_toArray, List.set_cons_zero, List.set_cons_succ])
                  refine wpAnyH_done (by kernel_rfl) ?_ _
                  go_wp2_with fail
                  go_meet
                  exact ⟨u, rfl, ub.1, ub.2, ((Q.set_ 0 (.slice A1 n1 c1)).set_ 1 (.slice A2 n2 c2)), ((q1.set_low (p := ⟨w.heap.size, 0, none⟩) (by show w.heap.size < _; omega) (.slice A1 n1 c1)).set_low (p := ⟨w.heap.size, 1, none⟩) (by show w.heap.size < _; omega) (.slice A2 n2 c2)).mono (by omega), ((q2.set_low (p := ⟨w.heap.size, 0, none⟩) (by show w.heap.size < _; omega) (.slice A1 n1 c1)).set_low (p := ⟨w.heap.size, 1, none⟩) (by show w.heap.size < _; omega) (.slice A2 n2 c2)).mono (by omega), ((BX.setCell (p := ⟨w.heap.size, 0, none⟩) (Nat.le_refl _) (.slice A1 n1 c1)).setCell (p := ⟨w.heap.size, 1, none⟩) (Nat.le_refl _) (.slice A2 n2 c2))⟩
                exact AllReadyH.nil
              exact AllReadyH.nil
            exact AllReadyH.nil
          exact AllReadyH.nil
        refine AllReadyH.cons (by rw [List.getElem?_toArray]; exact rfl) (fun K hK => ?_) ?_
        · go_simp
          go_at_call 57
          refine (pick_c (rp.alloc (.cells #[.int .i64 x, .int .i64 30, .int .i64 31, .int .i64 (-1)] 3)) (by omega) (by omega) (by omega)).mono ?_
          rintro e wq ⟨y, rfl, y0, y1, rq, gq⟩
          have k3 := ((blkAt (w := wp) (g := wp.heap.size) rfl 3 #[.int .i64 x, .int .i64 30, .int .i64 31, .int .i64 (-1)])).grown gq (fun e => (by injection e with e; omega))
          replace GZ := grown_trans' (grown_alloc GZ (.cells #[.int .i64 x, .int .i64 30, .int .i64 31, .int .i64 (-1)] 3)) gq
          have rql := rq.lt
          obtain ⟨yn, rfl⟩ : ∃ k : Nat, y = k := ⟨y.toNat, by omega⟩
          obtain ⟨v, hv, tv⟩ := tab7_at yn (by omega)
          obtain ⟨u, hu, ru⟩ := row4_at x v hv
          have v1 : (0 : Int) ≤ v := by omega
          have v2 : (v : Int) < 4 := by omega
          have y00 : (0 : Int) ≤ yn := by omega
          have y77 : (yn : Int) < 7 := by omega
          have Q := KR0.grown GZ (fun e => (by injection e with e; omega))
          have q1 := o1.grown GZ (o1.block_ne (by omega))
          have q2 := o2.grown GZ (o2.block_ne (by omega))
          have BX := belowG B3 GZ (by omega)
          have ub : -1 ≤ u ∧ u ≤ 31 := by omega
          (try go_wp2_with fail)
          refine hK.out _ _ ?_ (fun hHeld => ?_)
          · exact ⟨(K5.grown GZ (fun e => (by injection e with e; omega))).cell 0, (K5.grown GZ (fun e => (by injection e with e; omega))).cell 1⟩
          clear hK K
          (try simp only [Act.put, List.setIfInBounds_toArray, List.set_cons_zero, List.set_cons_succ])
          refine wpAnyH_ready (rs := [4, 11]) (by kernel_rfl) (by simp) ?_
          refine AllReadyH.cons (by rw [List.getElem?_toArray]; exact rfl) (fun K hK => ?_) ?_
          · go_simp
            refine hK.out _ _ ?_ (fun hHeld => ?_)
            · exact ⟨((K5.grown GZ (fun e => (by injection e with e; omega))).alloc (.cells #[.int .i64 0, .int .i64 0, .int .i64 0, .int .i64 0, .int .i64 1, .int .i64 2, .int .i64 3] 3)).cell 0, ((K5.grown GZ (fun e => (by injection e with e; omega))).alloc (.cells #[.int .i64 0, .int .i64 0, .int .i64 0, .int .i64 0, .int .i64 1, .int .i64 2, .int .i64 3] 3)).cell 1⟩
            clear hK K
            (try simp only [Act.put, List.setIfInBounds_toArray, List.set_cons_zero, List.set_cons_succ])
            refine wpAnyH_take (i := 7) (v := ?vv7_10) (by rw [List.getElem?_toArray]; exact rfl) (by kernel_rfl) (by kernel_rfl) (by kernel_rfl) (by intro _ _ _ h; exact h) (Or.inl ⟨by rfl, ?hy7_10⟩) hHeld ?rest7_10
            case' hy7_10 => (intro w hSw; (try dsimp only at hSw); go_simp; try (with_reducible rfl))
            (try simp only [Act.put, List.setIfInBounds_toArray, List.set_cons_zero, List.set_cons_succ])
            refine wpAnyH_ready (rs := [8, 11]) (by kernel_rfl) (by simp) ?_
            refine AllReadyH.cons (by rw [List.getElem?_toArray]; exact rfl) (fun K hK => ?_) ?_
            · have f18 := ((blkAt (w := wq) (g := wq.heap.size) rfl 3 #[.int .i64 0, .int .i64 0, .int .i64 0, .int .i64 0, .int .i64 1, .int .i64 2, .int .i64 3]).cell yn).trans tv
              go_simp
              refine hK.out _ _ ?_ (fun hHeld => ?_)
              · exact ⟨((K5.grown GZ (fun e => (by injection e with e; omega))).alloc (.cells #[.int .i64 0, .int .i64 0, .int .i64 0, .int .i64 0, .int .i64 1, .int .i64 2, .int .i64 3] 3)).cell 0, ((K5.grown GZ (fun e => (by injection e with e; omega))).alloc (.cells #[.int .i64 0, .int .i64 0, .int .i64 0, .int .i64 0, .int .i64 1, .int .i64 2, .int .i64 3] 3)).cell 1⟩
              clear hK K
              (try simp only [Act.put, List.setIfInBounds_toArray, List.set_cons_zero, List.set_cons_succ])
              refine wpAnyH_take (i := 9) (v := ?vv9_11) (by rw [List.getElem?_toArray]; exact rfl) (by kernel_rfl) (by kernel_rfl) (by kernel_rfl) (by intro _ _ _ h; exact h) (Or.inl ⟨by rfl, ?hy9_11⟩) hHeld ?rest9_11
              case' hy9_11 => (intro w hSw; (try dsimp only at hSw); go_simp; try (with_reducible rfl))
              (try simp only [Act.put, List.setIfInBounds_toArray, List.set_cons_zero, List.set_cons_succ])
              refine wpAnyH_ready (rs := [10, 11]) (by kernel_rfl) (by simp) ?_
              refine AllReadyH.cons (by rw [List.getElem?_toArray]; exact rfl) (fun K hK => ?_) ?_
              · have f20 := ((k3.alloc (.cells #[.int .i64 0, .int .i64 0, .int .i64 0, .int .i64 0, .int .i64 1, .int .i64 2, .int .i64 3] 3)).cell v).trans ru
                go_simp
                refine hK.out _ _ ?_ (fun hHeld => ?_)
                · exact ⟨((K5.grown GZ (fun e => (by injection e with e; omega))).alloc (.cells #[.int .i64 0, .int .i64 0, .int .i64 0, .int .i64 0, .int .i64 1, .int .i64 2, .int .i64 3] 3)).cell 0, ((K5.grown GZ (fun e => (by injection e with e; omega))).alloc (.cells #[.int .i64 0, .int .i64 0, .int .i64 0, .int .i64 0, .int .i64 1, .int .i64 2, .int .i64 3] 3)).cell 1⟩
                clear hK K
                (try simp only [Act.put, List.setIfInBounds_toArray, List.set_cons_zero, List.set_cons_succ])
                refine wpAnyH_ready (rs := [11]) (by kernel_rfl) (by simp) ?_
                refine AllReadyH.cons (by rw [List.getElem?_toArray]; exact rfl) (fun K hK => ?_) ?_
                · obtain ⟨d0, d1, d2, d3⟩ := ((Q.alloc (.cells #[.int .i64 0, .int .i64 0, .int .i64 0, .int .i64 0, .int .i64 1, .int .i64 2, .int .i64 3] 3))).two
                  go_simp
                  refine hK.out _ _ ?_ (fun hHeld => ?_)
                  · exact ⟨((((K5.grown GZ (fun e => (by injection e with e; omega))).alloc (.cells #[.int .i64 0, .int .i64 0, .int .i64 0, .int .i64 0, .int .i64 1, .int .i64 2, .int .i64 3] 3)).far (p := ⟨w.heap.size, 0, none⟩) (by show _ ≠ w.heap.size; omega) (.slice A1 n1 c1)).far (p := ⟨w.heap.size, 1, none⟩) (by show _ ≠ w.heap.size; omega) (.slice A2 n2 c2)).cell 0, ((((K5.grown GZ (fun e => (by injection e with e; omega))).alloc (.cells #[.int .i64 0, .int .i64 0, .int .i64 0, .int .i64 0, .int .i64 1, .int .i64 2, .int .i64 3] 3)).far (p := ⟨w.heap.size, 0, none⟩) (by show _ ≠ w.heap.size; omega) (.slice A1 n1 c1)).far (p := ⟨w.heap.size, 1, none⟩) (by show _ ≠ w.heap.size; omega) (.slice A2 n2 c2)).cell 1⟩
                  clear hK K
                  (try simp only [Act.put, List.setIfInBounds_toArray, List.set_cons_zero, List.set_cons_succ])
                  refine wpAnyH_take (i := 12) (v := ?vv12_12) (by rw [List.getElem?_toArray]; exact rfl) (by kernel_rfl) (by kernel_rfl) (by kernel_rfl) (by intro _ _ _ h; exact h) (Or.inl ⟨by rfl, ?hy12_12⟩) hHeld ?rest12_12
                  case' hy12_12 => (intro w hSw; (try dsimp only at hSw); go_simp; try (with_reducible rfl))
                  (try simp only [Act.put, List.setIfInBounds_toArray, List.set_cons_zero, List.set_cons_succ])
                  refine wpAnyH_done (by kernel_rfl) ?_ _
                  go_wp2_with fail
                  go_meet
                  exact ⟨u, rfl, ub.1, ub.2, (((Q.alloc (.cells #[.int .i64 0, .int .i64 0, .int .i64 0, .int .i64 0, .int .i64 1, .int .i64 2, .int .i64 3] 3)).set_ 0 (.slice A1 n1 c1)).set_ 1 (.slice A2 n2 c2)), (((q1.alloc (.cells #[.int .i64 0, .int .i64 0, .int .i64 0, .int .i64 0, .int .i64 1, .int .i64 2, .int .i64 3] 3)).set_low (p := ⟨w.heap.size, 0, none⟩) (by show w.heap.size < _; omega) (.slice A1 n1 c1)).set_low (p := ⟨w.heap.size, 1, none⟩) (by show w.heap.size < _; omega) (.slice A2 n2 c2)).mono (by omega), (((q2.alloc (.cells #[.int .i64 0, .int .i64 0, .int .i64 0, .int .i64 0, .int .i64 1, .int .i64 2, .int .i64 3] 3)).set_low (p := ⟨w.heap.size, 0, none⟩) (by show w.heap.size < _; omega) (.slice A1 n1 c1)).set_low (p := ⟨w.heap.size, 1, none⟩) (by show w.heap.size < _; omega) (.slice A2 n2 c2)).mono (by omega), ((((BX).alloc (BX).size (.cells #[.int .i64 0, .int .i64 0, .int .i64 0, .int .i64 0, .int .i64 1, .int .i64 2, .int .i64 3] 3)).setCell (p := ⟨w.heap.size, 0, none⟩) (Nat.le_refl _) (.slice A1 n1 c1)).setCell (p := ⟨w.heap.size, 1, none⟩) (Nat.le_refl _) (.slice A2 n2 c2))⟩
                exact AllReadyH.nil
              refine AllReadyH.cons (by rw [List.getElem?_toArray]; exact rfl) (fun K hK => ?_) ?_
              · obtain ⟨d0, d1, d2, d3⟩ := ((Q.alloc (.cells #[.int .i64 0, .int .i64 0, .int .i64 0, .int .i64 0, .int .i64 1, .int .i64 2, .int .i64 3] 3))).two
                go_simp
                refine hK.out _ _ ?_ (fun hHeld => ?_)
                · exact ⟨((((K5.grown GZ (fun e => (by injection e with e; omega))).alloc (.cells #[.int .i64 0, .int .i64 0, .int .i64 0, .int .i64 0, .int .i64 1, .int .i64 2, .int .i64 3] 3)).far (p := ⟨w.heap.size, 0, none⟩) (by show _ ≠ w.heap.size; omega) (.slice A1 n1 c1)).far (p := ⟨w.heap.size, 1, none⟩) (by show _ ≠ w.heap.size; omega) (.slice A2 n2 c2)).cell 0, ((((K5.grown GZ (fun e => (by injection e with e; omega))).alloc (.cells #[.int .i64 0, .int .i64 0, .int .i64 0, .int .i64 0, .int .i64 1, .int .i64 2, .int .i64 3] 3)).far (p := ⟨w.heap.size, 0, none⟩) (by show _ ≠ w.heap.size; omega) (.slice A1 n1 c1)).far (p := ⟨w.heap.size, 1, none⟩) (by show _ ≠ w.heap.size; omega) (.slice A2 n2 c2)).cell 1⟩
                clear hK K
                (try simp only [Act.put, List.setIfInBounds_toArray, List.set_cons_zero, List.set_cons_succ])
                refine wpAnyH_ready (rs := [10]) (by kernel_rfl) (by simp) ?_
                refine AllReadyH.cons (by rw [List.getElem?_toArray]; exact rfl) (fun K hK => ?_) ?_
                · have f20 := ((((k3.alloc (.cells #[.int .i64 0, .int .i64 0, .int .i64 0, .int .i64 0, .int .i64 1, .int .i64 2, .int .i64 3] 3)).far (p := ⟨w.heap.size, 0, none⟩) (by show _ ≠ w.heap.size; omega) (.slice A1 n1 c1)).far (p := ⟨w.heap.size, 1, none⟩) (by show _ ≠ w.heap.size; omega) (.slice A2 n2 c2)).cell v).trans ru
                  go_simp
                  refine hK.out _ _ ?_ (fun hHeld => ?_)
                  · exact ⟨((((K5.grown GZ (fun e => (by injection e with e; omega))).alloc (.cells #[.int .i64 0, .int .i64 0, .int .i64 0, .int .i64 0, .int .i64 1, .int .i64 2, .int .i64 3] 3)).far (p := ⟨w.heap.size, 0, none⟩) (by show _ ≠ w.heap.size; omega) (.slice A1 n1 c1)).far (p := ⟨w.heap.size, 1, none⟩) (by show _ ≠ w.heap.size; omega) (.slice A2 n2 c2)).cell 0, ((((K5.grown GZ (fun e => (by injection e with e; omega))).alloc (.cells #[.int .i64 0, .int .i64 0, .int .i64 0, .int .i64 0, .int .i64 1, .int .i64 2, .int .i64 3] 3)).far (p := ⟨w.heap.size, 0, none⟩) (by show _ ≠ w.heap.size; omega) (.slice A1 n1 c1)).far (p := ⟨w.heap.size, 1, none⟩) (by show _ ≠ w.heap.size; omega) (.slice A2 n2 c2)).cell 1⟩
                  clear hK K
                  (try simp only [Act.put, List.setIfInBounds_toArray, List.set_cons_zero, List.set_cons_succ])
                  refine wpAnyH_take (i := 12) (v := ?vv12_13) (by rw [List.getElem?_toArray]; exact rfl) (by kernel_rfl) (by kernel_rfl) (by kernel_rfl) (by intro _ _ _ h; exact h) (Or.inl ⟨by rfl, ?hy12_13⟩) hHeld ?rest12_13
                  case' hy12_13 => (intro w hSw; (try dsimp only at hSw); go_simp; try (with_reducible rfl))
                  (try simp only [Act.put, List.setIfInBounds_toArray, List.set_cons_zero, List.set_cons_succ])
                  refine wpAnyH_done (by kernel_rfl) ?_ _
                  go_wp2_with fail
                  go_meet
                  exact ⟨u, rfl, ub.1, ub.2, (((Q.alloc (.cells #[.int .i64 0, .int .i64 0, .int .i64 0, .int .i64 0, .int .i64 1, .int .i64 2, .int .i64 3] 3)).set_ 0 (.slice A1 n1 c1)).set_ 1 (.slice A2 n2 c2)), (((q1.alloc (.cells #[.int .i64 0, .int .i64 0, .int .i64 0, .int .i64 0, .int .i64 1, .int .i64 2, .int .i64 3] 3)).set_low (p := ⟨w.heap.size, 0, none⟩) (by show w.heap.size < _; omega) (.slice A1 n1 c1)).set_low (p := ⟨w.heap.size, 1, none⟩) (by show w.heap.size < _; omega) (.slice A2 n2 c2)).mono (by omega), (((q2.alloc (.cells #[.int .i64 0, .int .i64 0, .int .i64 0, .int .i64 0, .int .i64 1, .int .i64 2, .int .i64 3] 3)).set_low (p := ⟨w.heap.size, 0, none⟩) (by show w.heap.size < _; omega) (.slice A1 n1 c1)).set_low (p := ⟨w.heap.size, 1, none⟩) (by show w.heap.size < _; omega) (.slice A2 n2 c2)).mono (by omega), ((((BX).alloc (BX).size (.cells #[.int .i64 0, .int .i64 0, .int .i64 0, .int .i64 0, .int .i64 1, .int .i64 2, .int .i64 3] 3)).setCell (p := ⟨w.heap.size, 0, none⟩) (Nat.le_refl _) (.slice A1 n1 c1)).setCell (p := ⟨w.heap.size, 1, none⟩) (Nat.le_refl _) (.slice A2 n2 c2))⟩
                exact AllReadyH.nil
              exact AllReadyH.nil
            refine AllReadyH.cons (by rw [List.getElem?_toArray]; exact rfl) (fun K hK => ?_) ?_
            · obtain ⟨d0, d1, d2, d3⟩ := ((Q.alloc (.cells #[.int .i64 0, .int .i64 0, .int .i64 0, .int .i64 0, .int .i64 1, .int .i64 2, .int .i64 3] 3))).two
              go_simp
              refine hK.out _ _ ?_ (fun hHeld => ?_)
              · exact ⟨((((K5.grown GZ (fun e => (by injection e with e; omega))).alloc (.cells #[.int .i64 0, .int .i64 0, .int .i64 0, .int .i64 0, .int .i64 1, .int .i64 2, .int .i64 3] 3)).far (p := ⟨w.heap.size, 0, none⟩) (by show _ ≠ w.heap.size; omega) (.slice A1 n1 c1)).far (p := ⟨w.heap.size, 1, none⟩) (by show _ ≠ w.heap.size; omega) (.slice A2 n2 c2)).cell 0, ((((K5.grown GZ (fun e => (by injection e with e; omega))).alloc (.cells #[.int .i64 0, .int .i64 0, .int .i64 0, .int .i64 0, .int .i64 1, .int .i64 2, .int .i64 3] 3)).far (p := ⟨w.heap.size, 0, none⟩) (by show _ ≠ w.heap.size; omega) (.slice A1 n1 c1)).far (p := ⟨w.heap.size, 1, none⟩) (by show _ ≠ w.heap.size; omega) (.slice A2 n2 c2)).cell 1⟩
              clear hK K
              (try simp only [Act.put, List.setIfInBounds_toArray, List.set_cons_zero, List.set_cons_succ])
              refine wpAnyH_ready (rs := [8]) (by kernel_rfl) (by simp) ?_
              refine AllReadyH.cons (by rw [List.getElem?_toArray]; exact rfl) (fun K hK => ?_) ?_
              · have f18 := ((((blkAt (w := wq) (g := wq.heap.size) rfl 3 #[.int .i64 0, .int .i64 0, .int .i64 0, .int .i64 0, .int .i64 1, .int .i64 2, .int .i64 3]).far (p := ⟨w.heap.size, 0, none⟩) (by show _ ≠ w.heap.size; omega) (.slice A1 n1 c1)).far (p := ⟨w.heap.size, 1, none⟩) (by show _ ≠ w.heap.size; omega) (.slice A2 n2 c2)).cell yn).trans tv
                go_simp
                refine hK.out _ _ ?_ (fun hHeld => ?_)
                · exact ⟨((((K5.grown GZ (fun e => (by injection e with e; omega))).alloc (.cells #[.int .i64 0, .int .i64 0, .int .i64 0, .int .i64 0, .int .i64 1, .int .i64 2, .int .i64 3] 3)).far (p := ⟨w.heap.size, 0, none⟩) (by show _ ≠ w.heap.size; omega) (.slice A1 n1 c1)).far (p := ⟨w.heap.size, 1, none⟩) (by show _ ≠ w.heap.size; omega) (.slice A2 n2 c2)).cell 0, ((((K5.grown GZ (fun e => (by injection e with e; omega))).alloc (.cells #[.int .i64 0, .int .i64 0, .int .i64 0, .int .i64 0, .int .i64 1, .int .i64 2, .int .i64 3] 3)).far (p := ⟨w.heap.size, 0, none⟩) (by show _ ≠ w.heap.size; omega) (.slice A1 n1 c1)).far (p := ⟨w.heap.size, 1, none⟩) (by show _ ≠ w.heap.size; omega) (.slice A2 n2 c2)).cell 1⟩
                clear hK K
                (try simp only [Act.put, List.setIfInBounds_toArray, List.set_cons_zero, List.set_cons_succ])
                refine wpAnyH_take (i := 9) (v := ?vv9_14) (by rw [List.getElem?_toArray]; exact rfl) (by kernel_rfl) (by kernel_rfl) (by kernel_rfl) (by intro _ _ _ h; exact h) (Or.inl ⟨by rfl, ?hy9_14⟩) hHeld ?rest9_14
                case' hy9_14 => (intro w hSw; (try dsimp only at hSw); go_simp; try (with_reducible rfl))
                (try simp only [Act.put, List.setIfInBounds_toArray, List.set_cons_zero, List.set_cons_succ])
                refine wpAnyH_ready (rs := [10]) (by kernel_rfl) (by simp) ?_
                refine AllReadyH.cons (by rw [List.getElem?_toArray]; exact rfl) (fun K hK => ?_) ?_
                · have f20 := ((((k3.alloc (.cells #[.int .i64 0, .int .i64 0, .int .i64 0, .int .i64 0, .int .i64 1, .int .i64 2, .int .i64 3] 3)).far (p := ⟨w.heap.size, 0, none⟩) (by show _ ≠ w.heap.size; omega) (.slice A1 n1 c1)).far (p := ⟨w.heap.size, 1, none⟩) (by show _ ≠ w.heap.size; omega) (.slice A2 n2 c2)).cell v).trans ru
                  go_simp
                  refine hK.out _ _ ?_ (fun hHeld => ?_)
                  · exact ⟨((((K5.grown GZ (fun e => (by injection e with e; omega))).alloc (.cells #[.int .i64 0, .int .i64 0, .int .i64 0, .int .i64 0, .int .i64 1, .int .i64 2, .int .i64 3] 3)).far (p := ⟨w.heap.size, 0, none⟩) (by show _ ≠ w.heap.size; omega) (.slice A1 n1 c1)).far (p := ⟨w.heap.size, 1, none⟩) (by show _ ≠ w.heap.size; omega) (.slice A2 n2 c2)).cell 0, ((((K5.grown GZ (fun e => (by injection e with e; omega))).alloc (.cells #[.int .i64 0, .int .i64 0, .int .i64 0, .int .i64 0, .int .i64 1, .int .i64 2, .int .i64 3] 3)).far (p := ⟨w.heap.size, 0, none⟩) (by show _ ≠ w.heap.size; omega) (.slice A1 n1 c1)).far (p := ⟨w.heap.size, 1, none⟩) (by show _ ≠ w.heap.size; omega) (.slice A2 n2 c2)).cell 1⟩
                  clear hK K
                  (try simp only [Act.put, List.setIfInBounds_toArray, List.set_cons_zero, List.set_cons_succ])
                  refine wpAnyH_take (i := 12) (v := ?vv12_15) (by rw [List.getElem?_toArray]; exact rfl) (by kernel_rfl) (by kernel_rfl) (by kernel_rfl) (by intro _ _ _ h; exact h) (Or.inl ⟨by rfl, ?hy12_15⟩) hHeld ?rest12_15
                  case' hy12_15 => (intro w hSw; (try dsimp only at hSw); go_simp; try (with_reducible rfl))
                  (try simp only [Act.put, List.setIfInBounds_toArray, List.set_cons_zero, List.set_cons_succ])
                  refine wpAnyH_done (by kernel_rfl) ?_ _
                  go_wp2_with fail
                  go_meet
                  exact ⟨u, rfl, ub.1, ub.2, (((Q.alloc (.cells #[.int .i64 0, .int .i64 0, .int .i64 0, .int .i64 0, .int .i64 1, .int .i64 2, .int .i64 3] 3)).set_ 0 (.slice A1 n1 c1)).set_ 1 (.slice A2 n2 c2)), (((q1.alloc (.cells #[.int .i64 0, .int .i64 0, .int .i64 0, .int .i64 0, .int .i64 1, .int .i64 2, .int .i64 3] 3)).set_low (p := ⟨w.heap.size, 0, none⟩) (by show w.heap.size < _; omega) (.slice A1 n1 c1)).set_low (p := ⟨w.heap.size, 1, none⟩) (by show w.heap.size < _; omega) (.slice A2 n2 c2)).mono (by omega), (((q2.alloc (.cells #[.int .i64 0, .int .i64 0, .int .i64 0, .int .i64 0, .int .i64 1, .int .i64 2, .int .i64 3] 3)).set_low (p := ⟨w.heap.size, 0, none⟩) (by show w.heap.size < _; omega) (.slice A1 n1 c1)).set_low (p := ⟨w.heap.size, 1, none⟩) (by show w.heap.size < _; omega) (.slice A2 n2 c2)).mono (by omega), ((((BX).alloc (BX).size (.cells #[.int .i64 0, .int .i64 0, .int .i64 0, .int .i64 0, .int .i64 1, .int .i64 2, .int .i64 3] 3)).setCell (p := ⟨w.heap.size, 0, none⟩) (Nat.le_refl _) (.slice A1 n1 c1)).setCell (p := ⟨w.heap.size, 1, none⟩) (Nat.le_refl _) (.slice A2 n2 c2))⟩
                exact AllReadyH.nil
              exact AllReadyH.nil
            exact AllReadyH.nil
          refine AllReadyH.cons (by rw [List.getElem?_toArray]; exact rfl) (fun K hK => ?_) ?_
          · obtain ⟨d0, d1, d2, d3⟩ := (Q).two
            go_simp
            refine hK.out _ _ ?_ (fun hHeld => ?_)
            · exact ⟨(((K5.grown GZ (fun e => (by injection e with e; omega))).far (p := ⟨w.heap.size, 0, none⟩) (by show _ ≠ w.heap.size; omega) (.slice A1 n1 c1)).far (p := ⟨w.heap.size, 1, none⟩) (by show _ ≠ w.heap.size; omega) (.slice A2 n2 c2)).cell 0, (((K5.grown GZ (fun e => (by injection e with e; omega))).far (p := ⟨w.heap.size, 0, none⟩) (by show _ ≠ w.heap.size; omega) (.slice A1 n1 c1)).far (p := ⟨w.heap.size, 1, none⟩) (by show _ ≠ w.heap.size; omega) (.slice A2 n2 c2)).cell 1⟩
            clear hK K
            (try simp only [Act.put, List.setIfInBounds_toArray, List.set_cons_zero, List.set_cons_succ])
            refine wpAnyH_ready (rs := [4]) (by kernel_rfl) (by simp) ?_
            refine AllReadyH.cons (by rw [List.getElem?_toArray]; exact rfl) (fun K hK => ?_) ?_
            · go_simp
              refine hK.out _ _ ?_ (fun hHeld => ?_)
              · exact ⟨((((K5.grown GZ (fun e => (by injection e with e; omega))).far (p := ⟨w.heap.size, 0, none⟩) (by show _ ≠ w.heap.size; omega) (.slice A1 n1 c1)).far (p := ⟨w.heap.size, 1, none⟩) (by show _ ≠ w.heap.size; omega) (.slice A2 n2 c2)).alloc (.cells #[.int .i64 0, .int .i64 0, .int .i64 0, .int .i64 0, .int .i64 1, .int .i64 2, .int .i64 3] 3)).cell 0, ((((K5.grown GZ (fun e => (by injection e with e; omega))).far (p := ⟨w.heap.size, 0, none⟩) (by show _ ≠ w.heap.size; omega) (.slice A1 n1 c1)).far (p := ⟨w.heap.size, 1, none⟩) (by show _ ≠ w.heap.size; omega) (.slice A2 n2 c2)).alloc (.cells #[.int .i64 0, .int .i64 0, .int .i64 0, .int .i64 0, .int .i64 1, .int .i64 2, .int .i64 3] 3)).cell 1⟩
              clear hK K
              (try simp only [Act.put, List.setIfInBounds_toArray, List.set_cons_zero, List.set_cons_succ])
              refine wpAnyH_take (i := 7) (v := ?vv7_16) (by rw [List.getElem?_toArray]; exact rfl) (by kernel_rfl) (by kernel_rfl) (by kernel_rfl) (by intro _ _ _ h; exact h) (Or.inl ⟨by rfl, ?hy7_16⟩) hHeld ?rest7_16
              case' hy7_16 => (intro w hSw; (try dsimp only at hSw); go_simp; try (with_reducible rfl))
              (try simp only [Act.put, List.setIfInBounds_toArray, List.set_cons_zero, List.set_cons_succ])
              refine wpAnyH_ready (rs := [8]) (by kernel_rfl) (by simp) ?_
              refine AllReadyH.cons (by rw [List.getElem?_toArray]; exact rfl) (fun K hK => ?_) ?_
              · have f18 := ((blkAt (w := ((wq.setCell ⟨w.heap.size, 0, none⟩ (.slice A1 n1 c1)).setCell ⟨w.heap.size, 1, none⟩ (.slice A2 n2 c2))) (g := wq.heap.size) (by simp only [World.size_alloc, size_setCell]) 3 #[.int .i64 0, .int .i64 0, .int .i64 0, .int .i64 0, .int .i64 1, .int .i64 2, .int .i64 3]).cell yn).trans tv
                go_simp
                refine hK.out _ _ ?_ (fun hHeld => ?_)
                · exact ⟨((((K5.grown GZ (fun e => (by injection e with e; omega))).far (p := ⟨w.heap.size, 0, none⟩) (by show _ ≠ w.heap.size; omega) (.slice A1 n1 c1)).far (p := ⟨w.heap.size, 1, none⟩) (by show _ ≠ w.heap.size; omega) (.slice A2 n2 c2)).alloc (.cells #[.int .i64 0, .int .i64 0, .int .i64 0, .int .i64 0, .int .i64 1, .int .i64 2, .int .i64 3] 3)).cell 0, ((((K5.grown GZ (fun e => (by injection e with e; omega))).far (p := ⟨w.heap.size, 0, none⟩) (by show _ ≠ w.heap.size; omega) (.slice A1 n1 c1)).far (p := ⟨w.heap.size, 1, none⟩) (by show _ ≠ w.heap.size; omega) (.slice A2 n2 c2)).alloc (.cells #[.int .i64 0, .int .i64 0, .int .i64 0, .int .i64 0, .int .i64 1, .int .i64 2, .int .i64 3] 3)).cell 1⟩
                clear hK K
                (try simp only [Act.put, List.setIfInBounds_toArray, List.set_cons_zero, List.set_cons_succ])
                refine wpAnyH_take (i := 9) (v := ?vv9_17) (by rw [List.getElem?_toArray]; exact rfl) (by kernel_rfl) (by kernel_rfl) (by kernel_rfl) (by intro _ _ _ h; exact h) (Or.inl ⟨by rfl, ?hy9_17⟩) hHeld ?rest9_17
                case' hy9_17 => (intro w hSw; (try dsimp only at hSw); go_simp; try (with_reducible rfl))
                (try simp only [Act.put, List.setIfInBounds_toArray, List.set_cons_zero, List.set_cons_succ])
                refine wpAnyH_ready (rs := [10]) (by kernel_rfl) (by simp) ?_
                refine AllReadyH.cons (by rw [List.getElem?_toArray]; exact rfl) (fun K hK => ?_) ?_
                · have f20 := ((((k3.far (p := ⟨w.heap.size, 0, none⟩) (by show _ ≠ w.heap.size; omega) (.slice A1 n1 c1)).far (p := ⟨w.heap.size, 1, none⟩) (by show _ ≠ w.heap.size; omega) (.slice A2 n2 c2)).alloc (.cells #[.int .i64 0, .int .i64 0, .int .i64 0, .int .i64 0, .int .i64 1, .int .i64 2, .int .i64 3] 3)).cell v).trans ru
                  go_simp
                  refine hK.out _ _ ?_ (fun hHeld => ?_)
                  · exact ⟨((((K5.grown GZ (fun e => (by injection e with e; omega))).far (p := ⟨w.heap.size, 0, none⟩) (by show _ ≠ w.heap.size; omega) (.slice A1 n1 c1)).far (p := ⟨w.heap.size, 1, none⟩) (by show _ ≠ w.heap.size; omega) (.slice A2 n2 c2)).alloc (.cells #[.int .i64 0, .int .i64 0, .int .i64 0, .int .i64 0, .int .i64 1, .int .i64 2, .int .i64 3] 3)).cell 0, ((((K5.grown GZ (fun e => (by injection e with e; omega))).far (p := ⟨w.heap.size, 0, none⟩) (by show _ ≠ w.heap.size; omega) (.slice A1 n1 c1)).far (p := ⟨w.heap.size, 1, none⟩) (by show _ ≠ w.heap.size; omega) (.slice A2 n2 c2)).alloc (.cells #[.int .i64 0, .int .i64 0, .int .i64 0, .int .i64 0, .int .i64 1, .int .i64 2, .int .i64 3] 3)).cell 1⟩
                  clear hK K
                  (try simp only [Act.put, List.setIfInBounds_toArray, List.set_cons_zero, List.set_cons_succ])
                  refine wpAnyH_take (i := 12) (v := ?vv12_18) (by rw [List.getElem?_toArray]; exact rfl) (by kernel_rfl) (by kernel_rfl) (by kernel_rfl) (by intro _ _ _ h; exact h) (Or.inl ⟨by rfl, ?hy12_18⟩) hHeld ?rest12_18
                  case' hy12_18 => (intro w hSw; (try dsimp only at hSw); go_simp; try (with_reducible rfl))
                  (try simp only [Act.put, List.setIfInBounds_toArray, List.set_cons_zero, List.set_cons_succ])
                  refine wpAnyH_done (by kernel_rfl) ?_ _
                  go_wp2_with fail
                  go_meet
                  exact ⟨u, rfl, ub.1, ub.2, (((Q.set_ 0 (.slice A1 n1 c1)).set_ 1 (.slice A2 n2 c2)).alloc (.cells #[.int .i64 0, .int .i64 0, .int .i64 0, .int .i64 0, .int .i64 1, .int .i64 2, .int .i64 3] 3)), (((q1.set_low (p := ⟨w.heap.size, 0, none⟩) (by show w.heap.size < _; omega) (.slice A1 n1 c1)).set_low (p := ⟨w.heap.size, 1, none⟩) (by show w.heap.size < _; omega) (.slice A2 n2 c2)).alloc (.cells #[.int .i64 0, .int .i64 0, .int .i64 0, .int .i64 0, .int .i64 1, .int .i64 2, .int .i64 3] 3)).mono (by omega), (((q2.set_low (p := ⟨w.heap.size, 0, none⟩) (by show w.heap.size < _; omega) (.slice A1 n1 c1)).set_low (p := ⟨w.heap.size, 1, none⟩) (by show w.heap.size < _; omega) (.slice A2 n2 c2)).alloc (.cells #[.int .i64 0, .int .i64 0, .int .i64 0, .int .i64 0, .int .i64 1, .int .i64 2, .int .i64 3] 3)).mono (by omega), ((((BX.setCell (p := ⟨w.heap.size, 0, none⟩) (Nat.le_refl _) (.slice A1 n1 c1)).setCell (p := ⟨w.heap.size, 1, none⟩) (Nat.le_refl _) (.slice A2 n2 c2))).alloc (((BX.setCell (p := ⟨w.heap.size, 0, none⟩) (Nat.le_refl _) (.slice A1 n1 c1)).setCell (p := ⟨w.heap.size, 1, none⟩) (Nat.le_refl _) (.slice A2 n2 c2))).size (.cells #[.int .i64 0, .int .i64 0, .int .i64 0, .int .i64 0, .int .i64 1, .int .i64 2, .int .i64 3] 3))⟩
                exact AllReadyH.nil
              exact AllReadyH.nil
            exact AllReadyH.nil
          exact AllReadyH.nil
        exact AllReadyH.nil
      refine AllReadyH.cons (by rw [List.getElem?_toArray]; exact rfl) (fun K hK => ?_) ?_
      · go_simp
        refine hK.out _ _ ?_ (fun hHeld => ?_)
        · exact ⟨((K5.grown GZ (fun e => (by injection e with e; omega))).alloc (.cells #[.int .i64 0, .int .i64 0, .int .i64 0, .int .i64 0, .int .i64 1, .int .i64 2, .int .i64 3] 3)).cell 0, ((K5.grown GZ (fun e => (by injection e with e; omega))).alloc (.cells #[.int .i64 0, .int .i64 0, .int .i64 0, .int .i64 0, .int .i64 1, .int .i64 2, .int .i64 3] 3)).cell 1⟩
        clear hK K
        (try simp only [Act.put, List.setIfInBounds_toArray, List.set_cons_zero, List.set_cons_succ])
        refine wpAnyH_ready (rs := [3, 6]) (by kernel_rfl) (by simp) ?_
        refine AllReadyH.cons (by rw [List.getElem?_toArray]; exact rfl) (fun K hK => ?_) ?_
        · go_simp
          refine hK.out _ _ ?_ (fun hHeld => ?_)
          · exact ⟨(((K5.grown GZ (fun e => (by injection e with e; omega))).alloc (.cells #[.int .i64 0, .int .i64 0, .int .i64 0, .int .i64 0, .int .i64 1, .int .i64 2, .int .i64 3] 3)).alloc (.cells #[.int .i64 x, .int .i64 30, .int .i64 31, .int .i64 (-1)] 3)).cell 0, (((K5.grown GZ (fun e => (by injection e with e; omega))).alloc (.cells #[.int .i64 0, .int .i64 0, .int .i64 0, .int .i64 0, .int .i64 1, .int .i64 2, .int .i64 3] 3)).alloc (.cells #[.int .i64 x, .int .i64 30, .int .i64 31, .int .i64 (-1)] 3)).cell 1⟩
          clear hK K
          (try simp only [Act.put, List.setIfInBounds_toArray, List.set_cons_zero, List.set_cons_succ])
          refine wpAnyH_ready (rs := [6]) (by kernel_rfl) (by simp) ?_
          refine AllReadyH.cons (by rw [List.getElem?_toArray]; exact rfl) (fun K hK => ?_) ?_
          · go_simp
            go_at_call 57
            refine (pick_c ((rp.alloc (.cells #[.int .i64 0, .int .i64 0, .int .i64 0, .int .i64 0, .int .i64 1, .int .i64 2, .int .i64 3] 3)).alloc (.cells #[.int .i64 x, .int .i64 30, .int .i64 31, .int .i64 (-1)] 3)) (by omega) (by omega) (by omega)).mono ?_
            rintro e wq ⟨y, rfl, y0, y1, rq, gq⟩
            have k4 := (((blkAt (w := wp) (g := wp.heap.size) rfl 3 #[.int .i64 0, .int .i64 0, .int .i64 0, .int .i64 0, .int .i64 1, .int .i64 2, .int .i64 3]).alloc (.cells #[.int .i64 x, .int .i64 30, .int .i64 31, .int .i64 (-1)] 3))).grown gq (fun e => (by injection e with e; omega))
            have k3 := ((blkAt (w := (wp.alloc (.cells #[.int .i64 0, .int .i64 0, .int .i64 0, .int .i64 0, .int .i64 1, .int .i64 2, .int .i64 3] 3))) (g := wp.heap.size + 1) (by simp only [World.size_alloc, size_setCell]) 3 #[.int .i64 x, .int .i64 30, .int .i64 31, .int .i64 (-1)])).grown gq (fun e => (by injection e with e; omega))
            replace GZ := grown_trans' (grown_alloc (grown_alloc GZ (.cells #[.int .i64 0, .int .i64 0, .int .i64 0, .int .i64 0, .int .i64 1, .int .i64 2, .int .i64 3] 3)) (.cells #[.int .i64 x, .int .i64 30, .int .i64 31, .int .i64 (-1)] 3)) gq
            have rql := rq.lt
            obtain ⟨yn, rfl⟩ : ∃ k : Nat, y = k := ⟨y.toNat, by omega⟩
            obtain ⟨v, hv, tv⟩ := tab7_at yn (by omega)
            obtain ⟨u, hu, ru⟩ := row4_at x v hv
            have v1 : (0 : Int) ≤ v := by omega
            have v2 : (v : Int) < 4 := by omega
            have y00 : (0 : Int) ≤ yn := by omega
            have y77 : (yn : Int) < 7 := by omega
            have Q := KR0.grown GZ (fun e => (by injection e with e; omega))
            have q1 := o1.grown GZ (o1.block_ne (by omega))
            have q2 := o2.grown GZ (o2.block_ne (by omega))
            have BX := belowG B3 GZ (by omega)
            have ub : -1 ≤ u ∧ u ≤ 31 := by omega
            (try go_wp2_with fail)
            refine hK.out _ _ ?_ (fun hHeld => ?_)
            · exact ⟨(K5.grown GZ (fun e => (by injection e with e; omega))).cell 0, (K5.grown GZ (fun e => (by injection e with e; omega))).cell 1⟩
            clear hK K
            (try simp only [Act.put, List.setIfInBounds_toArray, List.set_cons_zero, List.set_cons_succ])
            refine wpAnyH_take (i := 7) (v := ?vv7_19) (by rw [List.getElem?_toArray]; exact rfl) (by kernel_rfl) (by kernel_rfl) (by kernel_rfl) (by intro _ _ _ h; exact h) (Or.inl ⟨by rfl, ?hy7_19⟩) hHeld ?rest7_19
            case' hy7_19 => (intro w hSw; (try dsimp only at hSw); go_simp; try (with_reducible rfl))
            (try simp only [Act.put, List.setIfInBounds_toArray, List.set_cons_zero, List.set_cons_succ])
            refine wpAnyH_ready (rs := [8, 11]) (by kernel_rfl) (by simp) ?_
            refine AllReadyH.cons (by rw [List.getElem?_toArray]; exact rfl) (fun K hK => ?_) ?_
            · have f18 := (k4.cell yn).trans tv
              go_simp
              refine hK.out _ _ ?_ (fun hHeld => ?_)
              · exact ⟨(K5.grown GZ (fun e => (by injection e with e; omega))).cell 0, (K5.grown GZ (fun e => (by injection e with e; omega))).cell 1⟩
              clear hK K
              (try simp only [Act.put, List.setIfInBounds_toArray, List.set_cons_zero, List.set_cons_succ])
              refine wpAnyH_take (i := 9) (v := ?vv9_20) (by rw [List.getElem?_toArray]; exact rfl) (by kernel_rfl) (by kernel_rfl) (by kernel_rfl) (by intro _ _ _ h; exact h) (Or.inl ⟨by rfl, ?hy9_20⟩) hHeld ?rest9_20
              case' hy9_20 => (intro w hSw; (try dsimp only at hSw); go_simp; try (with_reducible rfl))
              (try simp only [Act.put, List.setIfInBounds_toArray, List.set_cons_zero, List.set_cons_succ])
              refine wpAnyH_ready (rs := [10, 11]) (by kernel_rfl) (by simp) ?_
              refine AllReadyH.cons (by rw [List.getElem?_toArray]; exact rfl) (fun K hK => ?_) ?_
              · have f20 := (k3.cell v).trans ru
                go_simp
                refine hK.out _ _ ?_ (fun hHeld => ?_)
                · exact ⟨(K5.grown GZ (fun e => (by injection e with e; omega))).cell 0, (K5.grown GZ (fun e => (by injection e with e; omega))).cell 1⟩
                clear hK K
                (try simp only [Act.put, List.setIfInBounds_toArray, List.set_cons_zero, List.set_cons_succ])
                refine wpAnyH_ready (rs := [11]) (by kernel_rfl) (by simp) ?_
                refine AllReadyH.cons (by rw [List.getElem?_toArray]; exact rfl) (fun K hK => ?_) ?_
                · obtain ⟨d0, d1, d2, d3⟩ := (Q).two
                  go_simp
                  refine hK.out _ _ ?_ (fun hHeld => ?_)
                  · exact ⟨(((K5.grown GZ (fun e => (by injection e with e; omega))).far (p := ⟨w.heap.size, 0, none⟩) (by show _ ≠ w.heap.size; omega) (.slice A1 n1 c1)).far (p := ⟨w.heap.size, 1, none⟩) (by show _ ≠ w.heap.size; omega) (.slice A2 n2 c2)).cell 0, (((K5.grown GZ (fun e => (by injection e with e; omega))).far (p := ⟨w.heap.size, 0, none⟩) (by show _ ≠ w.heap.size; omega) (.slice A1 n1 c1)).far (p := ⟨w.heap.size, 1, none⟩) (by show _ ≠ w.heap.size; omega) (.slice A2 n2 c2)).cell 1⟩
                  clear hK K
                  (try simp only [Act.put, List.setIfInBounds_toArray, List.set_cons_zero, List.set_cons_succ])
                  refine wpAnyH_take (i := 12) (v := ?vv12_21) (by rw [List.getElem?_toArray]; exact rfl) (by kernel_rfl) (by kernel_rfl) (by kernel_rfl) (by intro _ _ _ h; exact h) (Or.inl ⟨by rfl, ?hy12_21⟩) hHeld ?rest12_21
                  case' hy12_21 => (intro w hSw; (try dsimp only at hSw); go_simp; try (with_reducible rfl))
                  (try simp only [Act.put, List.setIfInBounds_toArray, List.set_cons_zero, List.set_cons_succ])
                  refine wpAnyH_done (by kernel_rfl) ?_ _
                  go_wp2_with fail
                  go_meet
                  exact ⟨u, rfl, ub.1, ub.2, ((Q.set_ 0 (.slice A1 n1 c1)).set_ 1 (.slice A2 n2 c2)), ((q1.set_low (p := ⟨w.heap.size, 0, none⟩) (by show w.heap.size < _; omega) (.slice A1 n1 c1)).set_low (p := ⟨w.heap.size, 1, none⟩) (by show w.heap.size < _; omega) (.slice A2 n2 c2)).mono (by omega), ((q2.set_low (p := ⟨w.heap.size, 0, none⟩) (by show w.heap.size < _; omega) (.slice A1 n1 c1)).set_low (p := ⟨w.heap.size, 1, none⟩) (by show w.heap.size < _; omega) (.slice A2 n2 c2)).mono (by omega), ((BX.setCell (p := ⟨w.heap.size, 0, none⟩) (Nat.le_refl _) (.slice A1 n1 c1)).setCell (p := ⟨w.heap.size, 1, none⟩) (Nat.le_refl _) (.slice A2 n2 c2))⟩
                exact AllReadyH.nil
              refine AllReadyH.cons (by rw [List.getElem?_toArray]; exact rfl) (fun K hK => ?_) ?_
              · obtain ⟨d0, d1, d2, d3⟩ := (Q).two
                go_simp
                refine hK.out _ _ ?_ (fun hHeld => ?_)
                · exact ⟨(((K5.grown GZ (fun e => (by injection e with e; omega))).far (p := ⟨w.heap.size, 0, none⟩) (by show _ ≠ w.heap.size; omega) (.slice A1 n1 c1)).far (p := ⟨w.heap.size, 1, none⟩) (by show _ ≠ w.heap.size; omega) (.slice A2 n2 c2)).cell 0, (((K5.grown GZ (fun e => (by injection e with e; omega))).far (p := ⟨w.heap.size, 0, none⟩) (by show _ ≠ w.heap.size; omega) (.slice A1 n1 c1)).far (p := ⟨w.heap.size, 1, none⟩) (by show _ ≠ w.heap.size; omega) (.slice A2 n2 c2)).cell 1⟩
                clear hK K
                (try simp only [Act.put, List.setIfInBounds_toArray, List.set_cons_zero, List.set_cons_succ])
                refine wpAnyH_ready (rs := [10]) (by kernel_rfl) (by simp) ?_
                refine AllReadyH.cons (by rw [List.getElem?_toArray]; exact rfl) (fun K hK => ?_) ?_
                · have f20 := (((k3.far (p := ⟨w.heap.size, 0, none⟩) (by show _ ≠ w.heap.size; omega) (.slice A1 n1 c1)).far (p := ⟨w.heap.size, 1, none⟩) (by show _ ≠ w.heap.size; omega) (.slice A2 n2 c2)).cell v).trans ru
                  go_simp
                  refine hK.out _ _ ?_ (fun hHeld => ?_)
                  · exact ⟨(((K5.grown GZ (fun e => (by injection e with e; omega))).far (p := ⟨w.heap.size, 0, none⟩) (by show _ ≠ w.heap.size; omega) (.slice A1 n1 c1)).far (p := ⟨w.heap.size, 1, none⟩) (by show _ ≠ w.heap.size; omega) (.slice A2 n2 c2)).cell 0, (((K5.grown GZ (fun e => (by injection e with e; omega))).far (p := ⟨w.heap.size, 0, none⟩) (by show _ ≠ w.heap.size; omega) (.slice A1 n1 c1)).far (p := ⟨w.heap.size, 1, none⟩) (by show _ ≠ w.heap.size; omega) (.slice A2 n2 c2)).cell 1⟩
                  clear hK K
                  (try simp only [Act.put, List.setIfInBounds_toArray, List.set_cons_zero, List.set_cons_succ])
                  refine wpAnyH_take (i := 12) (v := ?vv12_22) (by rw [List.getElem?_toArray]; exact rfl) (by kernel_rfl) (by kernel_rfl) (by kernel_rfl) (by intro _ _ _ h; exact h) (Or.inl ⟨by rfl, ?hy12_22⟩) hHeld ?rest12_22
                  case' hy12_22 => (intro w hSw; (try dsimp only at hSw); go_simp; try (with_reducible rfl))
                  (try simp only [Act.put, List.setIfInBounds_toArray, List.set_cons_zero, List.set_cons_succ])
                  refine wpAnyH_done (by kernel_rfl) ?_ _
                  go_wp2_with fail
                  go_meet
                  exact ⟨u, rfl, ub.1, ub.2, ((Q.set_ 0 (.slice A1 n1 c1)).set_ 1 (.slice A2 n2 c2)), ((q1.set_low (p := ⟨w.heap.size, 0, none⟩) (by show w.heap.size < _; omega) (.slice A1 n1 c1)).set_low (p := ⟨w.heap.size, 1, none⟩) (by show w.heap.size < _; omega) (.slice A2 n2 c2)).mono (by omega), ((q2.set_low (p := ⟨w.heap.size, 0, none⟩) (by show w.heap.size < _; omega) (.slice A1 n1 c1)).set_low (p := ⟨w.heap.size, 1, none⟩) (by show w.heap.size < _; omega) (.slice A2 n2 c2)).mono (by omega), ((BX.setCell (p := ⟨w.heap.size, 0, none⟩) (Nat.le_refl _) (.slice A1 n1 c1)).setCell (p := ⟨w.heap.size, 1, none⟩) (Nat.le_refl _) (.slice A2 n2 c2))⟩
                exact AllReadyH.nil
              exact AllReadyH.nil
            refine AllReadyH.cons (by rw [List.getElem?_toArray]; exact rfl) (fun K hK => ?_) ?_
            · obtain ⟨d0, d1, d2, d3⟩ := (Q).two
              go_simp
              refine hK.out _ _ ?_ (fun hHeld => ?_)
              · exact ⟨(((K5.grown GZ (fun e => (by injection e with e; omega))).far (p := ⟨w.heap.size, 0, none⟩) (by show _ ≠ w.heap.size; omega) (.slice A1 n1 c1)).far (p := ⟨w.heap.size, 1, none⟩) (by show _ ≠ w.heap.size; omega) (.slice A2 n2 c2)).cell 0, (((K5.grown GZ (fun e => (by injection e with e; omega))).far (p := ⟨w.heap.size, 0, none⟩) (by show _ ≠ w.heap.size; omega) (.slice A1 n1 c1)).far (p := ⟨w.heap.size, 1, none⟩) (by show _ ≠ w.heap.size; omega) (.slice A2 n2 c2)).cell 1⟩
              clear hK K
              (try simp only [Act.put, List.setIfInBounds_toArray, List.set_cons_zero, List.set_cons_succ])
              refine wpAnyH_ready (rs := [8]) (by kernel_rfl) (by simp) ?_
              refine AllReadyH.cons (by rw [List.getElem?_toArray]; exact rfl) (fun K hK => ?_) ?_
              · have f18 := (((k4.far (p := ⟨w.heap.size, 0, none⟩) (by show _ ≠ w.heap.size; omega) (.slice A1 n1 c1)).far (p := ⟨w.heap.size, 1, none⟩) (by show _ ≠ w.heap.size; omega) (.slice A2 n2 c2)).cell yn).trans tv
                go_simp
                refine hK.out _ _ ?_ (fun hHeld => ?_)
                · exact ⟨(((K5.grown GZ (fun e => (by injection e with e; omega))).far (p := ⟨w.heap.size, 0, none⟩) (by show _ ≠ w.heap.size; omega) (.slice A1 n1 c1)).far (p := ⟨w.heap.size, 1, none⟩) (by show _ ≠ w.heap.size; omega) (.slice A2 n2 c2)).cell 0, (((K5.grown GZ (fun e => (by injection e with e; omega))).far (p := ⟨w.heap.size, 0, none⟩) (by show _ ≠ w.heap.size; omega) (.slice A1 n1 c1)).far (p := ⟨w.heap.size, 1, none⟩) (by show _ ≠ w.heap.size; omega) (.slice A2 n2 c2)).cell 1⟩
                clear hK K
                (try simp only [Act.put, List.setIfInBounds_toArray, List.set_cons_zero, List.set_cons_succ])
                refine wpAnyH_take (i := 9) (v := ?vv9_23) (by rw [List.getElem?_toArray]; exact rfl) (by kernel_rfl) (by kernel_rfl) (by kernel_rfl) (by intro _ _ _ h; exact h) (Or.inl ⟨by rfl, ?hy9_23⟩) hHeld ?rest9_23
                case' hy9_23 => (intro w hSw; (try dsimp only at hSw); go_simp; try (with_reducible rfl))
                (try simp only [Act.put, List.setIfInBounds_toArray, List.set_cons_zero, List.set_cons_succ])
                refine wpAnyH_ready (rs := [10]) (by kernel_rfl) (by simp) ?_
                refine AllReadyH.cons (by rw [List.getElem?_toArray]; exact rfl) (fun K hK => ?_) ?_
                · have f20 := (((k3.far (p := ⟨w.heap.size, 0, none⟩) (by show _ ≠ w.heap.size; omega) (.slice A1 n1 c1)).far (p := ⟨w.heap.size, 1, none⟩) (by show _ ≠ w.heap.size; omega) (.slice A2 n2 c2)).cell v).trans ru
                  go_simp
                  refine hK.out _ _ ?_ (fun hHeld => ?_)
                  · exact ⟨(((K5.grown GZ (fun e => (by injection e with e; omega))).far (p := ⟨w.heap.size, 0, none⟩) (by show _ ≠ w.heap.size; omega) (.slice A1 n1 c1)).far (p := ⟨w.heap.size, 1, none⟩) (by show _ ≠ w.heap.size; omega) (.slice A2 n2 c2)).cell 0, (((K5.grown GZ (fun e => (by injection e with e; omega))).far (p := ⟨w.heap.size, 0, none⟩) (by show _ ≠ w.heap.size; omega) (.slice A1 n1 c1)).far (p := ⟨w.heap.size, 1, none⟩) (by show _ ≠ w.heap.size; omega) (.slice A2 n2 c2)).cell 1⟩
                  clear hK K
                  (try simp only [Act.put, List.setIfInBounds_toArray, List.set_cons_zero, List.set_cons_succ])
                  refine wpAnyH_take (i := 12) (v := ?vv12_24) (by rw [List.getElem?_toArray]; exact rfl) (by kernel_rfl) (by kernel_rfl) (by kernel_rfl) (by intro _ _ _ h; exact h) (Or.inl ⟨by rfl, ?hy12_24⟩) hHeld ?rest12_24
                  case' hy12_24 => (intro w hSw; (try dsimp only at hSw); go_simp; try (with_reducible rfl))
                  (try simp only [Act.put, List.setIfInBounds_toArray, List.set_cons_zero, List.set_cons_succ])
                  refine wpAnyH_done (by kernel_rfl) ?_ _
                  go_wp2_with fail
                  go_meet
                  exact ⟨u, rfl, ub.1, ub.2, ((Q.set_ 0 (.slice A1 n1 c1)).set_ 1 (.slice A2 n2 c2)), ((q1.set_low (p := ⟨w.heap.size, 0, none⟩) (by show w.heap.size < _; omega) (.slice A1 n1 c1)).set_low (p := ⟨w.heap.size, 1, none⟩) (by show w.heap.size < _; omega) (.slice A2 n2 c2)).mono (by omega), ((q2.set_low (p := ⟨w.heap.size, 0, none⟩) (by show w.heap.size < _; omega) (.slice A1 n1 c1)).set_low (p := ⟨w.heap.size, 1, none⟩) (by show w.heap.size < _; omega) (.slice A2 n2 c2)).mono (by omega), ((BX.setCell (p := ⟨w.heap.size, 0, none⟩) (Nat.le_refl _) (.slice A1 n1 c1)).setCell (p := ⟨w.heap.size, 1, none⟩) (Nat.le_refl _) (.slice A2 n2 c2))⟩
                exact AllReadyH.nil
              exact AllReadyH.nil
            exact AllReadyH.nil
          exact AllReadyH.nil
        refine AllReadyH.cons (by rw [List.getElem?_toArray]; exact rfl) (fun K hK => ?_) ?_
        · go_simp
          go_at_call 57
          refine (pick_c (rp.alloc (.cells #[.int .i64 0, .int .i64 0, .int .i64 0, .int .i64 0, .int .i64 1, .int .i64 2, .int .i64 3] 3)) (by omega) (by omega) (by omega)).mono ?_
          rintro e wq ⟨y, rfl, y0, y1, rq, gq⟩
          have k4 := ((blkAt (w := wp) (g := wp.heap.size) rfl 3 #[.int .i64 0, .int .i64 0, .int .i64 0, .int .i64 0, .int .i64 1, .int .i64 2, .int .i64 3])).grown gq (fun e => (by injection e with e; omega))
          replace GZ := grown_trans' (grown_alloc GZ (.cells #[.int .i64 0, .int .i64 0, .int .i64 0, .int .i64 0, .int .i64 1, .int .i64 2, .int .i64 3] 3)) gq
          have rql := rq.lt
          obtain ⟨yn, rfl⟩ : ∃ k : Nat, y = k := ⟨y.toNat, by omega⟩
          obtain ⟨v, hv, tv⟩ := tab7_at yn (by omega)
          obtain ⟨u, hu, ru⟩ := row4_at x v hv
          have v1 : (0 : Int) ≤ v := by omega
          have v2 : (v : Int) < 4 := by omega
          have y00 : (0 : Int) ≤ yn := by omega
          have y77 : (yn : Int) < 7 := by omega
          have Q := KR0.grown GZ (fun e => (by injection e with e; omega))
          have q1 := o1.grown GZ (o1.block_ne (by omega))
          have q2 := o2.grown GZ (o2.block_ne (by omega))
          have BX := belowG B3 GZ (by omega)
          have ub : -1 ≤ u ∧ u ≤ 31 := by omega
          (try go_wp2_with fail)
          refine hK.out _ _ ?_ (fun hHeld => ?_)
          · exact ⟨(K5.grown GZ (fun e => (by injection e with e; omega))).cell 0, (K5.grown GZ (fun e => (by injection e with e; omega))).cell 1⟩
          clear hK K
          (try simp only [Act.put, List.setIfInBounds_toArray, List.set_cons_zero, List.set_cons_succ])
          refine wpAnyH_take (i := 7) (v := ?vv7_25) (by rw [List.getElem?_toArray]; exact rfl) (by kernel_rfl) (by kernel_rfl) (by kernel_rfl) (by intro _ _ _ h; exact h) (Or.inl ⟨by rfl, ?hy7_25⟩) hHeld ?rest7_25
          case' hy7_25 => (intro w hSw; (try dsimp only at hSw); go_simp; try (with_reducible rfl))
          (try simp only [Act.put, List.setIfInBounds_toArray, List.set_cons_zero, List.set_cons_succ])
          refine wpAnyH_ready (rs := [3, 8, 11]) (by kernel_rfl) (by simp) ?_
          refine AllReadyH.cons (by rw [List.getElem?_toArray]; exact rfl) (fun K hK => ?_) ?_
          · go_simp
            refine hK.out _ _ ?_ (fun hHeld => ?_)
            · exact ⟨((K5.grown GZ (fun e => (by injection e with e; omega))).alloc (.cells #[.int .i64 x, .int .i64 30, .int .i64 31, .int .i64 (-1)] 3)).cell 0, ((K5.grown GZ (fun e => (by injection e with e; omega))).alloc (.cells #[.int .i64 x, .int .i64 30, .int .i64 31, .int .i64 (-1)] 3)).cell 1⟩
            clear hK K
            (try simp only [Act.put, List.setIfInBounds_toArray, List.set_cons_zero, List.set_cons_succ])
            refine wpAnyH_ready (rs := [8, 11]) (by kernel_rfl) (by simp) ?_
            refine AllReadyH.cons (by rw [List.getElem?_toArray]; exact rfl) (fun K hK => ?_) ?_
            · have f18 := ((k4.alloc (.cells #[.int .i64 x, .int .i64 30, .int .i64 31, .int .i64 (-1)] 3)).cell yn).trans tv
              go_simp
              refine hK.out _ _ ?_ (fun hHeld => ?_)
              · exact ⟨((K5.grown GZ (fun e => (by injection e with e; omega))).alloc (.cells #[.int .i64 x, .int .i64 30, .int .i64 31, .int .i64 (-1)] 3)).cell 0, ((K5.grown GZ (fun e => (by injection e with e; omega))).alloc (.cells #[.int .i64 x, .int .i64 30, .int .i64 31, .int .i64 (-1)] 3)).cell 1⟩
              clear hK K
              (try simp only [Act.put, List.setIfInBounds_toArray, List.set_cons_zero, List.set_cons_succ])
              refine wpAnyH_take (i := 9) (v := ?vv9_26) (by rw [List.getElem?_toArray]; exact rfl) (by kernel_rfl) (by kernel_rfl) (by kernel_rfl) (by intro _ _ _ h; exact h) (Or.inl ⟨by rfl, ?hy9_26⟩) hHeld ?rest9_26
              case' hy9_26 => (intro w hSw; (try dsimp only at hSw); go_simp; try (with_reducible rfl))
              (try simp only [Act.put, List.setIfInBounds_toArray, List.set_cons_zero, List.set_cons_succ])
              refine wpAnyH_ready (rs := [10, 11]) (by kernel_rfl) (by simp) ?_
              refine AllReadyH.cons (by rw [List.getElem?_toArray]; exact rfl) (fun K hK => ?_) ?_
              · have f20 := ((blkAt (w := wq) (g := wq.heap.size) rfl 3 #[.int .i64 x, .int .i64 30, .int .i64 31, .int .i64 (-1)]).cell v).trans ru
                go_simp
                refine hK.out _ _ ?_ (fun hHeld => ?_)
                · exact ⟨((K5.grown GZ (fun e => (by injection e with e; omega))).alloc (.cells #[.int .i64 x, .int .i64 30, .int .i64 31, .int .i64 (-1)] 3)).cell 0, ((K5.grown GZ (fun e => (by injection e with e; omega))).alloc (.cells #[.int .i64 x, .int .i64 30, .int .i64 31, .int .i64 (-1)] 3)).cell 1⟩
                clear hK K
                (try simp only [Act.put, List.setIfInBounds_toArray, List.set_cons_zero, List.set_cons_succ])
                refine wpAnyH_ready (rs := [11]) (by kernel_rfl) (by simp) ?_
                refine AllReadyH.cons (by rw [List.getElem?_toArray]; exact rfl) (fun K hK => ?_) ?_
                · obtain ⟨d0, d1, d2, d3⟩ := ((Q.alloc (.cells #[.int .i64 x, .int .i64 30, .int .i64 31, .int .i64 (-1)] 3))).two
                  go_simp
                  refine hK.out _ _ ?_ (fun hHeld => ?_)
                  · exact ⟨((((K5.grown GZ (fun e => (by injection e with e; omega))).alloc (.cells #[.int .i64 x, .int .i64 30, .int .i64 31, .int .i64 (-1)] 3)).far (p := ⟨w.heap.size, 0, none⟩) (by show _ ≠ w.heap.size; omega) (.slice A1 n1 c1)).far (p := ⟨w.heap.size, 1, none⟩) (by show _ ≠ w.heap.size; omega) (.slice A2 n2 c2)).cell 0, ((((K5.grown GZ (fun e => (by injection e with e; omega))).alloc (.cells #[.int .i64 x, .int .i64 30, .int .i64 31, .int .i64 (-1)] 3)).far (p := ⟨w.heap.size, 0, none⟩) (by show _ ≠ w.heap.size; omega) (.slice A1 n1 c1)).far (p := ⟨w.heap.size, 1, none⟩) (by show _ ≠ w.heap.size; omega) (.slice A2 n2 c2)).cell 1⟩
                  clear hK K
                  (try simp only [Act.put, List.setIfInBounds_toArray, List.set_cons_zero, List.set_cons_succ])
                  refine wpAnyH_take (i := 12) (v := ?vv12_27) (by rw [List.getElem?_toArray]; exact rfl) (by kernel_rfl) (by kernel_rfl) (by kernel_rfl) (by intro _ _ _ h; exact h) (Or.inl ⟨by rfl, ?hy12_27⟩) hHeld ?rest12_27
                  case' hy12_27 => (intro w hSw; (try dsimp only at hSw); go_simp; try (with_reducible rfl))
                  (try simp only [Act.put, List.setIfInBounds_toArray, List.set_cons_zero, List.set_cons_succ])
                  refine wpAnyH_done (by kernel_rfl) ?_ _
                  go_wp2_with fail
                  go_meet
                  exact ⟨u, rfl, ub.1, ub.2, (((Q.alloc (.cells #[.int .i64 x, .int .i64 30, .int .i64 31, .int .i64 (-1)] 3)).set_ 0 (.slice A1 n1 c1)).set_ 1 (.slice A2 n2 c2)), (((q1.alloc (.cells #[.int .i64 x, .int .i64 30, .int .i64 31, .int .i64 (-1)] 3)).set_low (p := ⟨w.heap.size, 0, none⟩) (by show w.heap.size < _; omega) (.slice A1 n1 c1)).set_low (p := ⟨w.heap.size, 1, none⟩) (by show w.heap.size < _; omega) (.slice A2 n2 c2)).mono (by omega), (((q2.alloc (.cells #[.int .i64 x, .int .i64 30, .int .i64 31, .int .i64 (-1)] 3)).set_low (p := ⟨w.heap.size, 0, none⟩) (by show w.heap.size < _; omega) (.slice A1 n1 c1)).set_low (p := ⟨w.heap.size, 1, none⟩) (by show w.heap.size < _; omega) (.slice A2 n2 c2)).mono (by omega), ((((BX).alloc (BX).size (.cells #[.int .i64 x, .int .i64 30, .int .i64 31, .int .i64 (-1)] 3)).setCell (p := ⟨w.heap.size, 0, none⟩) (Nat.le_refl _) (.slice A1 n1 c1)).setCell (p := ⟨w.heap.size, 1, none⟩) (Nat.le_refl _) (.slice A2 n2 c2))⟩
                exact AllReadyH.nil
              refine AllReadyH.cons (by rw [List.getElem?_toArray]; exact rfl) (fun K hK => ?_) ?_
              · obtain ⟨d0, d1, d2, d3⟩ := ((Q.alloc (.cells #[.int .i64 x, .int .i64 30, .int .i64 31, .int .i64 (-1)] 3))).two
                go_simp
                refine hK.out _ _ ?_ (fun hHeld => ?_)
                · exact ⟨((((K5.grown GZ (fun e => (by injection e with e; omega))).alloc (.cells #[.int .i64 x, .int .i64 30, .int .i64 31, .int .i64 (-1)] 3)).far (p := ⟨w.heap.size, 0, none⟩) (by show _ ≠ w.heap.size; omega) (.slice A1 n1 c1)).far (p := ⟨w.heap.size, 1, none⟩) (by show _ ≠ w.heap.size; omega) (.slice A2 n2 c2)).cell 0, ((((K5.grown GZ (fun e => (by injection e with e; omega))).alloc (.cells #[.int .i64 x, .int .i64 30, .int .i64 31, .int .i64 (-1)] 3)).far (p := ⟨w.heap.size, 0, none⟩) (by show _ ≠ w.heap.size; omega) (.slice A1 n1 c1)).far (p := ⟨w.heap.size, 1, none⟩) (by show _ ≠ w.heap.size; omega) (.slice A2 n2 c2)).cell 1⟩
                clear hK K
                (try simp only [Act.put, List.setIfInBounds_toArray, List.set_cons_zero, List.set_cons_succ])
                refine wpAnyH_ready (rs := [10]) (by kernel_rfl) (by simp) ?_
                refine AllReadyH.cons (by rw [List.getElem?_toArray]; exact rfl) (fun K hK => ?_) ?_
                · have f20 := ((((blkAt (w := wq) (g := wq.heap.size) rfl 3 #[.int .i64 x, .int .i64 30, .int .i64 31, .int .i64 (-1)]).far (p := ⟨w.heap.size, 0, none⟩) (by show _ ≠ w.heap.size; omega) (.slice A1 n1 c1)).far (p := ⟨w.heap.size, 1, none⟩) (by show _ ≠ w.heap.size; omega) (.slice A2 n2 c2)).cell v).trans ru
                  go_simp
                  refine hK.out _ _ ?_ (fun hHeld => ?_)
                  · exact ⟨((((K5.grown GZ (fun e => (by injection e with e; omega))).alloc (.cells #[.int .i64 x, .int .i64 30, .int .i64 31, .int .i64 (-1)] 3)).far (p := ⟨w.heap.size, 0, none⟩) (by show _ ≠ w.heap.size; omega) (.slice A1 n1 c1)).far (p := ⟨w.heap.size, 1, none⟩) (by show _ ≠ w.heap.size; omega) (.slice A2 n2 c2)).cell 0, ((((K5.grown GZ (fun e => (by injection e with e; omega))).alloc (.cells #[.int .i64 x, .int .i64 30, .int .i64 31, .int .i64 (-1)] 3)).far (p := ⟨w.heap.size, 0, none⟩) (by show _ ≠ w.heap.size; omega) (.slice A1 n1 c1)).far (p := ⟨w.heap.size, 1, none⟩) (by show _ ≠ w.heap.size; omega) (.slice A2 n2 c2)).cell 1⟩
                  clear hK K
                  (try simp only [Act.put, List.setIfInBounds_toArray, List.set_cons_zero, List.set_cons_succ])
                  refine wpAnyH_take (i := 12) (v := ?vv12_28) (by rw [List.getElem?_toArray]; exact rfl) (by kernel_rfl) (by kernel_rfl) (by kernel_rfl) (by intro _ _ _ h; exact h) (Or.inl ⟨by rfl, ?hy12_28⟩) hHeld ?rest12_28
                  case' hy12_28 => (intro w hSw; (try dsimp only at hSw); go_simp; try (with_reducible rfl))
                  (try simp only [Act.put, List.setIfInBounds_toArray, List.set_cons_zero, List.set_cons_succ])
                  refine wpAnyH_done (by kernel_rfl) ?_ _
                  go_wp2_with fail
                  go_meet
                  exact ⟨u, rfl, ub.1, ub.2, (((Q.alloc (.cells #[.int .i64 x, .int .i64 30, .int .i64 31, .int .i64 (-1)] 3)).set_ 0 (.slice A1 n1 c1)).set_ 1 (.slice A2 n2 c2)), (((q1.alloc (.cells #[.int .i64 x, .int .i64 30, .int .i64 31, .int .i64 (-1)] 3)).set_low (p := ⟨w.heap.size, 0, none⟩) (by show w.heap.size < _; omega) (.slice A1 n1 c1)).set_low (p := ⟨w.heap.size, 1, none⟩) (by show w.heap.size < _; omega) (.slice A2 n2 c2)).mono (by omega), (((q2.alloc (.cells #[.int .i64 x, .int .i64 30, .int .i64 31, .int .i64 (-1)] 3)).set_low (p := ⟨w.heap.size, 0, none⟩) (by show w.heap.size < _; omega) (.slice A1 n1 c1)).set_low (p := ⟨w.heap.size, 1, none⟩) (by show w.heap.size < _; omega) (.slice A2 n2 c2)).mono (by omega), ((((BX).alloc (BX).size (.cells #[.int .i64 x, .int .i64 30, .int .i64 31, .int .i64 (-1)] 3)).setCell (p := ⟨w.heap.size, 0, none⟩) (Nat.le_refl _) (.slice A1 n1 c1)).setCell (p := ⟨w.heap.size, 1, none⟩) (Nat.le_refl _) (.slice A2 n2 c2))⟩
                exact AllReadyH.nil
              exact AllReadyH.nil
            refine AllReadyH.cons (by rw [List.getElem?_toArray]; exact rfl) (fun K hK => ?_) ?_
            · obtain ⟨d0, d1, d2, d3⟩ := ((Q.alloc (.cells #[.int .i64 x, .int .i64 30, .int .i64 31, .int .i64 (-1)] 3))).two
              go_simp
              refine hK.out _ _ ?_ (fun hHeld => ?_)
              · exact ⟨((((K5.grown GZ (fun e => (by injection e with e; omega))).alloc (.cells #[.int .i64 x, .int .i64 30, .int .i64 31, .int .i64 (-1)] 3)).far (p := ⟨w.heap.size, 0, none⟩) (by show _ ≠ w.heap.size; omega) (.slice A1 n1 c1)).far (p := ⟨w.heap.size, 1, none⟩) (by show _ ≠ w.heap.size; omega) (.slice A2 n2 c2)).cell 0, ((((K5.grown GZ (fun e => (by injection e with e; omega))).alloc (.cells #[.int .i64 x, .int .i64 30, .int .i64 31, .int .i64 (-1)] 3)).far (p := ⟨w.heap.size, 0, none⟩) (by show _ ≠ w.heap.size; omega) (.slice A1 n1 c1)).far (p := ⟨w.heap.size, 1, none⟩) (by show _ ≠ w.heap.size; omega) (.slice A2 n2 c2)).cell 1⟩
              clear hK K
              (try simp only [Act.put, List.setIfInBounds_toArray, List.set_cons_zero, List.set_cons_succ])
              refine wpAnyH_ready (rs := [8]) (by kernel_rfl) (by simp) ?_
              refine AllReadyH.cons (by rw [List.getElem?_toArray]; exact rfl) (fun K hK => ?_) ?_
              · have f18 := ((((k4.alloc (.cells #[.int .i64 x, .int .i64 30, .int .i64 31, .int .i64 (-1)] 3)).far (p := ⟨w.heap.size, 0, none⟩) (by show _ ≠ w.heap.size; omega) (.slice A1 n1 c1)).far (p := ⟨w.heap.size, 1, none⟩) (by show _ ≠ w.heap.size; omega) (.slice A2 n2 c2)).cell yn).trans tv
                go_simp
                refine hK.out _ _ ?_ (fun hHeld => ?_)
                · exact ⟨((((K5.grown GZ (fun e => (by injection e with e; omega))).alloc (.cells #[.int .i64 x, .int .i64 30, .int .i64 31, .int .i64 (-1)] 3)).far (p := ⟨w.heap.size, 0, none⟩) (by show _ ≠ w.heap.size; omega) (.slice A1 n1 c1)).far (p := ⟨w.heap.size, 1, none⟩) (by show _ ≠ w.heap.size; omega) (.slice A2 n2 c2)).cell 0, ((((K5.grown GZ (fun e => (by injection e with e; omega))).alloc (.cells #[.int .i64 x, .int .i64 30, .int .i64 31, .int .i64 (-1)] 3)).far (p := ⟨w.heap.size, 0, none⟩) (by show _ ≠ w.heap.size; omega) (.slice A1 n1 c1)).far (p := ⟨w.heap.size, 1, none⟩) (by show _ ≠ w.heap.size; omega) (.slice A2 n2 c2)).cell 1⟩
                clear hK K
                (try simp only [Act.put, List.setIfInBounds_toArray, List.set_cons_zero, List.set_cons_succ])
                refine wpAnyH_take (i := 9) (v := ?vv9_29) (by rw [List.getElem?_toArray]; exact rfl) (by kernel_rfl) (by kernel_rfl) (by kernel_rfl) (by intro _ _ _ h; exact h) (Or.inl ⟨by rfl, ?hy9_29⟩) hHeld ?rest9_29
                case' hy9_29 => (intro w hSw; (try dsimp only at hSw); go_simp; try (with_reducible rfl))
                (try simp only [Act.put, List.setIfInBounds_toArray, List.set_cons_zero, List.set_cons_succ])
                refine wpAnyH_ready (rs := [10]) (by kernel_rfl) (by simp) ?_
                refine AllReadyH.cons (by rw [List.getElem?_toArray]; exact rfl) (fun K hK => ?_) ?_
                · have f20 := ((((blkAt (w := wq) (g := wq.heap.size) rfl 3 #[.int .i64 x, .int .i64 30, .int .i64 31, .int .i64 (-1)]).far (p := ⟨w.heap.size, 0, none⟩) (by show _ ≠ w.heap.size; omega) (.slice A1 n1 c1)).far (p := ⟨w.heap.size, 1, none⟩) (by show _ ≠ w.heap.size; omega) (.slice A2 n2 c2)).cell v).trans ru
                  go_simp
                  refine hK.out _ _ ?_ (fun hHeld => ?_)
                  · exact ⟨((((K5.grown GZ (fun e => (by injection e with e; omega))).alloc (.cells #[.int .i64 x, .int .i64 30, .int .i64 31, .int .i64 (-1)] 3)).far (p := ⟨w.heap.size, 0, none⟩) (by show _ ≠ w.heap.size; omega) (.slice A1 n1 c1)).far (p := ⟨w.heap.size, 1, none⟩) (by show _ ≠ w.heap.size; omega) (.slice A2 n2 c2)).cell 0, ((((K5.grown GZ (fun e => (by injection e with e; omega))).alloc (.cells #[.int .i64 x, .int .i64 30, .int .i64 31, .int .i64 (-1)] 3)).far (p := ⟨w.heap.size, 0, none⟩) (by show _ ≠ w.heap.size; omega) (.slice A1 n1 c1)).far (p := ⟨w.heap.size, 1, none⟩) (by show _ ≠ w.heap.size; omega) (.slice A2 n2 c2)).cell 1⟩
                  clear hK K
                  (try simp only [Act.put, List.setIfInBounds_toArray, List.set_cons_zero, List.set_cons_succ])
                  refine wpAnyH_take (i := 12) (v := ?vv12_30) (by rw [List.getElem?_toArray]; exact rfl) (by kernel_rfl) (by kernel_rfl) (by kernel_rfl) (by intro _ _ _ h; exact h) (Or.inl ⟨by rfl, ?hy12_30⟩) hHeld ?rest12_30
                  case' hy12_30 => (intro w hSw; (try dsimp only at hSw); go_simp; try (with_reducible rfl))
                  (try simp only [Act.put, List.setIfInBounds_toArray, List.set_cons_zero, List.set_cons_succ])
                  refine wpAnyH_done (by kernel_rfl) ?_ _
                  go_wp2_with fail
                  go_meet
                  exact ⟨u, rfl, ub.1, ub.2, (((Q.alloc (.cells #[.int .i64 x, .int .i64 30, .int .i64 31, .int .i64 (-1)] 3)).set_ 0 (.slice A1 n1 c1)).set_ 1 (.slice A2 n2 c2)), (((q1.alloc (.cells #[.int .i64 x, .int .i64 30, .int .i64 31, .int .i64 (-1)] 3)).set_low (p := ⟨w.heap.size, 0, none⟩) (by show w.heap.size < _; omega) (.slice A1 n1 c1)).set_low (p := ⟨w.heap.size, 1, none⟩) (by show w.heap.size < _; omega) (.slice A2 n2 c2)).mono (by omega), (((q2.alloc (.cells #[.int .i64 x, .int .i64 30, .int .i64 31, .int .i64 (-1)] 3)).set_low (p := ⟨w.heap.size, 0, none⟩) (by show w.heap.size < _; omega) (.slice A1 n1 c1)).set_low (p := ⟨w.heap.size, 1, none⟩) (by show w.heap.size < _; omega) (.slice A2 n2 c2)).mono (by omega), ((((BX).alloc (BX).size (.cells #[.int .i64 x, .int .i64 30, .int .i64 31, .int .i64 (-1)] 3)).setCell (p := ⟨w.heap.size, 0, none⟩) (Nat.le_refl _) (.slice A1 n1 c1)).setCell (p := ⟨w.heap.size, 1, none⟩) (Nat.le_refl _) (.slice A2 n2 c2))⟩
                exact AllReadyH.nil
              exact AllReadyH.nil
            exact AllReadyH.nil
          refine AllReadyH.cons (by rw [List.getElem?_toArray]; exact rfl) (fun K hK => ?_) ?_
          · have f18 := (k4.cell yn).trans tv
            go_simp
            refine hK.out _ _ ?_ (fun hHeld => ?_)
            · exact ⟨(K5.grown GZ (fun e => (by injection e with e; omega))).cell 0, (K5.grown GZ (fun e => (by injection e with e; omega))).cell 1⟩
            clear hK K
            (try simp only [Act.put, List.setIfInBounds_toArray, List.set_cons_zero, List.set_cons_succ])
            refine wpAnyH_ready (rs := [3, 11]) (by kernel_rfl) (by simp) ?_
            refine AllReadyH.cons (by rw [List.getElem?_toArray]; exact rfl) (fun K hK => ?_) ?_
            · go_simp
              refine hK.out _ _ ?_ (fun hHeld => ?_)
              · exact ⟨((K5.grown GZ (fun e => (by injection e with e; omega))).alloc (.cells #[.int .i64 x, .int .i64 30, .int .i64 31, .int .i64 (-1)] 3)).cell 0, ((K5.grown GZ (fun e => (by injection e with e; omega))).alloc (.cells #[.int .i64 x, .int .i64 30, .int .i64 31, .int .i64 (-1)] 3)).cell 1⟩
              clear hK K
              (try simp only [Act.put, List.setIfInBounds_toArray, List.set_cons_zero, List.set_cons_succ])
              refine wpAnyH_take (i := 9) (v := ?vv9_31) (by rw [List.getElem?_toArray]; exact rfl) (by kernel_rfl) (by kernel_rfl) (by kernel_rfl) (by intro _ _ _ h; exact h) (Or.inl ⟨by rfl, ?hy9_31⟩) hHeld ?rest9_31
              case' hy9_31 => (intro w hSw; (try dsimp only at hSw); go_simp; try (with_reducible rfl))
              (try simp only [Act.put, List.setIfInBounds_toArray, List.set_cons_zero, List.set_cons_succ])
              refine wpAnyH_ready (rs := [10, 11]) (by kernel_rfl) (by simp) ?_
              refine AllReadyH.cons (by rw [List.getElem?_toArray]; exact rfl) (fun K hK => ?_) ?_
              · have f20 := ((blkAt (w := wq) (g := wq.heap.size) rfl 3 #[.int .i64 x, .int .i64 30, .int .i64 31, .int .i64 (-1)]).cell v).trans ru
                go_simp
                refine hK.out _ _ ?_ (fun hHeld => ?_)
                · exact ⟨((K5.grown GZ (fun e => (by injection e with e; omega))).alloc (.cells #[.int .i64 x, .int .i64 30, .int .i64 31, .int .i64 (-1)] 3)).cell 0, ((K5.grown GZ (fun e => (by injection e with e; omega))).alloc (.cells #[.int .i64 x, .int .i64 30, .int .i64 31, .int .i64 (-1)] 3)).cell 1⟩
                clear hK K
                (try simp only [Act.put, List.setIfInBounds_toArray, List.set_cons_zero, List.set_cons_succ])
                refine wpAnyH_ready (rs := [11]) (by kernel_rfl) (by simp) ?_
                refine AllReadyH.cons (by rw [List.getElem?_toArray]; exact rfl) (fun K hK => ?_) ?_
                · obtain ⟨d0, d1, d2, d3⟩ := ((Q.alloc (.cells #[.int .i64 x, .int .i64 30, .int .i64 31, .int .i64 (-1)] 3))).two
                  go_simp
                  refine hK.out _ _ ?_ (fun hHeld => ?_)
                  · exact ⟨((((K5.grown GZ (fun e => (by injection e with e; omega))).alloc (.cells #[.int .i64 x, .int .i64 30, .int .i64 31, .int .i64 (-1)] 3)).far (p := ⟨w.heap.size, 0, none⟩) (by show _ ≠ w.heap.size; omega) (.slice A1 n1 c1)).far (p := ⟨w.heap.size, 1, none⟩) (by show _ ≠ w.heap.size; omega) (.slice A2 n2 c2)).cell 0, ((((K5.grown GZ (fun e => (by injection e with e; omega))).alloc (.cells #[.int .i64 x, .int .i64 30, .int .i64 31, .int .i64 (-1)] 3)).far (p := ⟨w.heap.size, 0, none⟩) (by show _ ≠ w.heap.size; omega) (.slice A1 n1 c1)).far (p := ⟨w.heap.size, 1, none⟩) (by show _ ≠ w.heap.size; omega) (.slice A2 n2 c2)).cell 1⟩
                  clear hK K
                  (try simp only [Act.put, List.setIfInBounds_toArray, List.set_cons_zero, List.set_cons_succ])
                  refine wpAnyH_take (i := 12) (v := ?vv12_32) (by rw [List.getElem?_toArray]; exact rfl) (by kernel_rfl) (by kernel_rfl) (by kernel_rfl) (by intro _ _ _ h; exact h) (Or.inl ⟨by rfl, ?hy12_32⟩) hHeld ?rest12_32
                  case' hy12_32 => (intro w hSw; (try dsimp only at hSw); go_simp; try (with_reducible rfl))
                  (try simp only [Act.put, List.setIfInBounds_toArray, List.set_cons_zero, List.set_cons_succ])
                  refine wpAnyH_done (by kernel_rfl) ?_ _
                  go_wp2_with fail
                  go_meet
                  exact ⟨u, rfl, ub.1, ub.2, (((Q.alloc (.cells #[.int .i64 x, .int .i64 30, .int .i64 31, .int .i64 (-1)] 3)).set_ 0 (.slice A1 n1 c1)).set_ 1 (.slice A2 n2 c2)), (((q1.alloc (.cells #[.int .i64 x, .int .i64 30, .int .i64 31, .int .i64 (-1)] 3)).set_low (p := ⟨w.heap.size, 0, none⟩) (by show w.heap.size < _; omega) (.slice A1 n1 c1)).set_low (p := ⟨w.heap.size, 1, none⟩) (by show w.heap.size < _; omega) (.slice A2 n2 c2)).mono (by omega), (((q2.alloc (.cells #[.int .i64 x, .int .i64 30, .int .i64 31, .int .i64 (-1)] 3)).set_low (p := ⟨w.heap.size, 0, none⟩) (by show w.heap.size < _; omega) (.slice A1 n1 c1)).set_low (p := ⟨w.heap.size, 1, none⟩) (by show w.heap.size < _; omega) (.slice A2 n2 c2)).mono (by omega), ((((BX).alloc (BX).size (.cells #[.int .i64 x, .int .i64 30, .int .i64 31, .int .i64 (-1)] 3)).setCell (p := ⟨w.heap.size, 0, none⟩) (Nat.le_refl _) (.slice A1 n1 c1)).setCell (p := ⟨w.heap.size, 1, none⟩) (Nat.le_refl _) (.slice A2 n2 c2))⟩
                exact AllReadyH.nil
              refine AllReadyH.cons (by rw [List.getElem?_toArray]; exact rfl) (fun K hK => ?_) ?_
              · obtain ⟨d0, d1, d2, d3⟩ := ((Q.alloc (.cells #[.int .i64 x, .int .i64 30, .int .i64 31, .int .i64 (-1)] 3))).two
                go_simp
                refine hK.out _ _ ?_ (fun hHeld => ?_)
                · exact ⟨((((K5.grown GZ (fun e => (by injection e with e; omega))).alloc (.cells #[.int .i64 x, .int .i64 30, .int .i64 31, .int .i64 (-1)] 3)).far (p := ⟨w.heap.size, 0, none⟩) (by show _ ≠ w.heap.size; omega) (.slice A1 n1 c1)).far (p := ⟨w.heap.size, 1, none⟩) (by show _ ≠ w.heap.size; omega) (.slice A2 n2 c2)).cell 0, ((((K5.grown GZ (fun e => (by injection e with e; omega))).alloc (.cells #[.int .i64 x, .int .i64 30, .int .i64 31, .int .i64 (-1)] 3)).far (p := ⟨w.heap.size, 0, none⟩) (by show _ ≠ w.heap.size; omega) (.slice A1 n1 c1)).far (p := ⟨w.heap.size, 1, none⟩) (by show _ ≠ w.heap.size; omega) (.slice A2 n2 c2)).cell 1⟩
                clear hK K
                (try simp only [Act.put, List.setIfInBounds_toArray, List.set_cons_zero, List.set_cons_succ])
                refine wpAnyH_ready (rs := [10]) (by kernel_rfl) (by simp) ?_
                refine AllReadyH.cons (by rw [List.getElem?_toArray]; exact rfl) (fun K hK => ?_) ?_
                · have f20 := ((((blkAt (w := wq) (g := wq.heap.size) rfl 3 #[.int .i64 x, .int .i64 30, .int .i64 31, .int .i64 (-1)]).far (p := ⟨w.heap.size, 0, none⟩) (by show _ ≠ w.heap.size; omega) (.slice A1 n1 c1)).far (p := ⟨w.heap.size, 1, none⟩) (by show _ ≠ w.heap.size; omega) (.slice A2 n2 c2)).cell v).trans ru
                  go_simp
                  refine hK.out _ _ ?_ (fun hHeld => ?_)
                  · exact ⟨((((K5.grown GZ (fun e => (by injection e with e; omega))).alloc (.cells #[.int .i64 x, .int .i64 30, .int .i64 31, .int .i64 (-1)] 3)).far (p := ⟨w.heap.size, 0, none⟩) (by show _ ≠ w.heap.size; omega) (.slice A1 n1 c1)).far (p := ⟨w.heap.size, 1, none⟩) (by show _ ≠ w.heap.size; omega) (.slice A2 n2 c2)).cell 0, ((((K5.grown GZ (fun e => (by injection e with e; omega))).alloc (.cells #[.int .i64 x, .int .i64 30, .int .i64 31, .int .i64 (-1)] 3)).far (p := ⟨w.heap.size, 0, none⟩) (by show _ ≠ w.heap.size; omega) (.slice A1 n1 c1)).far (p := ⟨w.heap.size, 1, none⟩) (by show _ ≠ w.heap.size; omega) (.slice A2 n2 c2)).cell 1⟩
                  clear hK K
                  (try simp only [Act.put, List.setIfInBounds_toArray, List.set_cons_zero, List.set_cons_succ])
                  refine wpAnyH_take (i := 12) (v := ?vv12_33) (by rw [List.getElem?_toArray]; exact rfl) (by kernel_rfl) (by kernel_rfl) (by kernel_rfl) (by intro _ _ _ h; exact h) (Or.inl ⟨by rfl, ?hy12_33⟩) hHeld ?rest12_33
                  case' hy12_33 => (intro w hSw; (try dsimp only at hSw); go_simp; try (with_reducible rfl))
                  (try simp only [Act.put, List.setIfInBounds_toArray, List.set_cons_zero, List.set_cons_succ])
                  refine wpAnyH_done (by kernel_rfl) ?_ _
                  go_wp2_with fail
                  go_meet
                  exact ⟨u, rfl, ub.1, ub.2, (((Q.alloc (.cells #[.int .i64 x, .int .i64 30, .int .i64 31, .int .i64 (-1)] 3)).set_ 0 (.slice A1 n1 c1)).set_ 1 (.slice A2 n2 c2)), (((q1.alloc (.cells #[.int .i64 x, .int .i64 30, .int .i64 31, .int .i64 (-1)] 3)).set_low (p := ⟨w.heap.size, 0, none⟩) (by show w.heap.size < _; omega) (.slice A1 n1 c1)).set_low (p := ⟨w.heap.size, 1, none⟩) (by show w.heap.size < _; omega) (.slice A2 n2 c2)).mono (by omega), (((q2.alloc (.cells #[.int .i64 x, .int .i64 30, .int .i64 31, .int .i64 (-1)] 3)).set_low (p := ⟨w.heap.size, 0, none⟩) (by show w.heap.size < _; omega) (.slice A1 n1 c1)).set_low (p := ⟨w.heap.size, 1, none⟩) (by show w.heap.size < _; omega) (.slice A2 n2 c2)).mono (by omega), ((((BX).alloc (BX).size (.cells #[.int .i64 x, .int .i64 30, .int .i64 31, .int .i64 (-1)] 3)).setCell (p := ⟨w.heap.size, 0, none⟩) (Nat.le_refl _) (.slice A1 n1 c1)).setCell (p := ⟨w.heap.size, 1, none⟩) (Nat.le_refl _) (.slice A2 n2 c2))⟩
                exact AllReadyH.nil
              exact AllReadyH.nil
            refine AllReadyH.cons (by rw [List.getElem?_toArray]; exact rfl) (fun K hK => ?_) ?_
            · obtain ⟨d0, d1, d2, d3⟩ := (Q).two
              go_simp
              refine hK.out _ _ ?_ (fun hHeld => ?_)
              · exact ⟨(((K5.grown GZ (fun e => (by injection e with e; omega))).far (p := ⟨w.heap.size, 0, none⟩) (by show _ ≠ w.heap.size; omega) (.slice A1 n1 c1)).far (p := ⟨w.heap.size, 1, none⟩) (by show _ ≠ w.heap.size; omega) (.slice A2 n2 c2)).cell 0, (((K5.grown GZ (fun e => (by injection e with e; omega))).far (p := ⟨w.heap.size, 0, none⟩) (by show _ ≠ w.heap.size; omega) (.slice A1 n1 c1)).far (p := ⟨w.heap.size, 1, none⟩) (by show _ ≠ w.heap.size; omega) (.slice A2 n2 c2)).cell 1⟩
              clear hK K
              (try simp only [Act.put, List.setIfInBounds_toArray, List.set_cons_zero, List.set_cons_succ])
              refine wpAnyH_ready (rs := [3]) (by kernel_rfl) (by simp) ?_
              refine AllReadyH.cons (by rw [List.getElem?_toArray]; exact rfl) (fun K hK => ?_) ?_
              · go_simp
                refine hK.out _ _ ?_ (fun hHeld => ?_)
                · exact ⟨((((K5.grown GZ (fun e => (by injection e with e; omega))).far (p := ⟨w.heap.size, 0, none⟩) (by show _ ≠ w.heap.size; omega) (.slice A1 n1 c1)).far (p := ⟨w.heap.size, 1, none⟩) (by show _ ≠ w.heap.size; omega) (.slice A2 n2 c2)).alloc (.cells #[.int .i64 x, .int .i64 30, .int .i64 31, .int .i64 (-1)] 3)).cell 0, ((((K5.grown GZ (fun e => (by injection e with e; omega))).far (p := ⟨w.heap.size, 0, none⟩) (by show _ ≠ w.heap.size; omega) (.slice A1 n1 c1)).far (p := ⟨w.heap.size, 1, none⟩) (by show _ ≠ w.heap.size; omega) (.slice A2 n2 c2)).alloc (.cells #[.int .i64 x, .int .i64 30, .int .i64 31, .int .i64 (-1)] 3)).cell 1⟩
                clear hK K
                (try simp only [Act.put, List.setIfInBounds_toArray, List.set_cons_zero, List.set_cons_succ])
                refine wpAnyH_take (i := 9) (v := ?vv9_34) (by rw [List.getElem?_toArray]; exact rfl) (by kernel_rfl) (by kernel_rfl) (by kernel_rfl) (by intro _ _ _ h; exact h) (Or.inl ⟨by rfl, ?hy9_34⟩) hHeld ?rest9_34
                case' hy9_34 => (intro w hSw; (try dsimp only at hSw); go_simp; try (with_reducible rfl))
                (try simp only [Act.put, List.setIfInBounds_toArray, List.set_cons_zero, List.set_cons_succ])
                refine wpAnyH_ready (rs := [10]) (by kernel_rfl) (by simp) ?_
                refine AllReadyH.cons (by rw [List.getElem?_toArray]; exact rfl) (fun K hK => ?_) ?_
                · have f20 := ((blkAt (w := ((wq.setCell ⟨w.heap.size, 0, none⟩ (.slice A1 n1 c1)).setCell ⟨w.heap.size, 1, none⟩ (.slice A2 n2 c2))) (g := wq.heap.size) (by simp only [World.size_alloc, size_setCell]) 3 #[.int .i64 x, .int .i64 30, .int .i64 31, .int .i64 (-1)]).cell v).trans ru
                  go_simp
                  refine hK.out _ _ ?_ (fun hHeld => ?_)
                  · exact ⟨((((K5.grown GZ (fun e => (by injection e with e; omega))).far (p := ⟨w.heap.size, 0, none⟩) (by show _ ≠ w.heap.size; omega) (.slice A1 n1 c1)).far (p := ⟨w.heap.size, 1, none⟩) (by show _ ≠ w.heap.size; omega) (.slice A2 n2 c2)).alloc (.cells #[.int .i64 x, .int .i64 30, .int .i64 31, .int .i64 (-1)] 3)).cell 0, ((((K5.grown GZ (fun e => (by injection e with e; omega))).far (p := ⟨w.heap.size, 0, none⟩) (by show _ ≠ w.heap.size; omega) (.slice A1 n1 c1)).far (p := ⟨w.heap.size, 1, none⟩) (by show _ ≠ w.heap.size; omega) (.slice A2 n2 c2)).alloc (.cells #[.int .i64 x, .int .i64 30, .int .i64 31, .int .i64 (-1)] 3)).cell 1⟩
                  clear hK K
                  (try simp only [Act.put, List.setIfInBounds_toArray, List.set_cons_zero, List.set_cons_succ])
                  refine wpAnyH_take (i := 12) (v := ?vv12_35) (by rw [List.getElem?_toArray]; exact rfl) (by kernel_rfl) (by kernel_rfl) (by kernel_rfl) (by intro _ _ _ h; exact h) (Or.inl ⟨by rfl, ?hy12_35⟩) hHeld ?rest12_35
                  case' hy12_35 => (intro w hSw; (try dsimp only at hSw); go_simp; try (with_reducible rfl))
                  (try simp only [Act.put, List.setIfInBounds_toArray, List.set_cons_zero, List.set_cons_succ])
                  refine wpAnyH_done (by kernel_rfl) ?_ _
                  go_wp2_with fail
                  go_meet
                  exact ⟨u, rfl, ub.1, ub.2, (((Q.set_ 0 (.slice A1 n1 c1)).set_ 1 (.slice A2 n2 c2)).alloc (.cells #[.int .i64 x, .int .i64 30, .int .i64 31, .int .i64 (-1)] 3)), (((q1.set_low (p := ⟨w.heap.size, 0, none⟩) (by show w.heap.size < _; omega) (.slice A1 n1 c1)).set_low (p := ⟨w.heap.size, 1, none⟩) (by show w.heap.size < _; omega) (.slice A2 n2 c2)).alloc (.cells #[.int .i64 x, .int .i64 30, .int .i64 31, .int .i64 (-1)] 3)).mono (by omega), (((q2.set_low (p := ⟨w.heap.size, 0, none⟩) (by show w.heap.size < _; omega) (.slice A1 n1 c1)).set_low (p := ⟨w.heap.size, 1, none⟩) (by show w.heap.size < _; omega) (.slice A2 n2 c2)).alloc (.cells #[.int .i64 x, .int .i64 30, .int .i64 31, .int .i64 (-1)] 3)).mono (by omega), ((((BX.setCell (p := ⟨w.heap.size, 0, none⟩) (Nat.le_refl _) (.slice A1 n1 c1)).setCell (p := ⟨w.heap.size, 1, none⟩) (Nat.le_refl _) (.slice A2 n2 c2))).alloc (((BX.setCell (p := ⟨w.heap.size, 0, none⟩) (Nat.le_refl _) (.slice A1 n1 c1)).setCell (p := ⟨w.heap.size, 1, none⟩) (Nat.le_refl _) (.slice A2 n2 c2))).size (.cells #[.int .i64 x, .int .i64 30, .int .i64 31, .int .i64 (-1)] 3))⟩
                exact AllReadyH.nil
              exact AllReadyH.nil
            exact AllReadyH.nil
          refine AllReadyH.cons (by rw [List.getElem?_toArray]; exact rfl) (fun K hK => ?_) ?_
          · obtain ⟨d0, d1, d2, d3⟩ := (Q).two
            go_simp
            refine hK.out _ _ ?_ (fun hHeld => ?_)
            · exact ⟨(((K5.grown GZ (fun e => (by injection e with e; omega))).far (p := ⟨w.heap.size, 0, none⟩) (by show _ ≠ w.heap.size; omega) (.slice A1 n1 c1)).far (p := ⟨w.heap.size, 1, none⟩) (by show _ ≠ w.heap.size; omega) (.slice A2 n2 c2)).cell 0, (((K5.grown GZ (fun e => (by injection e with e; omega))).far (p := ⟨w.heap.size, 0, none⟩) (by show _ ≠ w.heap.size; omega) (.slice A1 n1 c1)).far (p := ⟨w.heap.size, 1, none⟩) (by show _ ≠ w.heap.size; omega) (.slice A2 n2 c2)).cell 1⟩
            clear hK K
            (try simp only [Act.put, List.setIfInBounds_toArray, List.set_cons_zero, List.set_cons_succ])
            refine wpAnyH_ready (rs := [3, 8]) (by kernel_rfl) (by simp) ?_
            refine AllReadyH.cons (by rw [List.getElem?_toArray]; exact rfl) (fun K hK => ?_) ?_
            · go_simp
              refine hK.out _ _ ?_ (fun hHeld => ?_)
              · exact ⟨((((K5.grown GZ (fun e => (by injection e with e; omega))).far (p := ⟨w.heap.size, 0, none⟩) (by show _ ≠ w.heap.size; omega) (.slice A1 n1 c1)).far (p := ⟨w.heap.size, 1, none⟩) (by show _ ≠ w.heap.size; omega) (.slice A2 n2 c2)).alloc (.cells #[.int .i64 x, .int .i64 30, .int .i64 31, .int .i64 (-1)] 3)).cell 0, ((((K5.grown GZ (fun e => (by injection e with e; omega))).far (p := ⟨w.heap.size, 0, none⟩) (by show _ ≠ w.heap.size; omega) (.slice A1 n1 c1)).far (p := ⟨w.heap.size, 1, none⟩) (by show _ ≠ w.heap.size; omega) (.slice A2 n2 c2)).alloc (.cells #[.int .i64 x, .int .i64 30, .int .i64 31, .int .i64 (-1)] 3)).cell 1⟩
              clear hK K
              (try simp only [Act.put, List.setIfInBounds_toArray, List.set_cons_zero, List.set_cons_succ])
              refine wpAnyH_ready (rs := [8]) (by kernel_rfl) (by simp) ?_
              refine AllReadyH.cons (by rw [List.getElem?_toArray]; exact rfl) (fun K hK => ?_) ?_
              · have f18 := ((((k4.far (p := ⟨w.heap.size, 0, none⟩) (by show _ ≠ w.heap.size; omega) (.slice A1 n1 c1)).far (p := ⟨w.heap.size, 1, none⟩) (by show _ ≠ w.heap.size; omega) (.slice A2 n2 c2)).alloc (.cells #[.int .i64 x, .int .i64 30, .int .i64 31, .int .i64 (-1)] 3)).cell yn).trans tv
                go_simp
                refine hK.out _ _ ?_ (fun hHeld => ?_)
                · exact ⟨((((K5.grown GZ (fun e => (by injection e with e; omega))).far (p := ⟨w.heap.size, 0, none⟩) (by show _ ≠ w.heap.size; omega) (.slice A1 n1 c1)).far (p := ⟨w.heap.size, 1, none⟩) (by show _ ≠ w.heap.size; omega) (.slice A2 n2 c2)).alloc (.cells #[.int .i64 x, .int .i64 30, .int .i64 31, .int .i64 (-1)] 3)).cell 0, ((((K5.grown GZ (fun e => (by injection e with e; omega))).far (p := ⟨w.heap.size, 0, none⟩) (by show _ ≠ w.heap.size; omega) (.slice A1 n1 c1)).far (p := ⟨w.heap.size, 1, none⟩) (by show _ ≠ w.heap.size; omega) (.slice A2 n2 c2)).alloc (.cells #[.int .i64 x, .int .i64 30, .int .i64 31, .int .i64 (-1)] 3)).cell 1⟩
                clear hK K
                (try simp only [Act.put, List.setIfInBounds_toArray, List.set_cons_zero, List.set_cons_succ])
                refine wpAnyH_take (i := 9) (v := ?vv9_36) (by rw [List.getElem?_toArray]; exact rfl) (by kernel_rfl) (by kernel_rfl) (by kernel_rfl) (by intro _ _ _ h; exact h) (Or.inl ⟨by rfl, ?hy9_36⟩) hHeld ?rest9_36
                case' hy9_36 => (intro w hSw; (try dsimp only at hSw); go_simp; try (with_reducible rfl))
                (try simp only [Act.put, List.setIfInBounds_toArray, List.set_cons_zero, List.set_cons_succ])
                refine wpAnyH_ready (rs := [10]) (by kernel_rfl) (by simp) ?_
                refine AllReadyH.cons (by rw [List.getElem?_toArray]; exact rfl) (fun K hK => ?_) ?_
                · have f20 := ((blkAt (w := ((wq.setCell ⟨w.heap.size, 0, none⟩ (.slice A1 n1 c1)).setCell ⟨w.heap.size, 1, none⟩ (.slice A2 n2 c2))) (g := wq.heap.size) (by simp only [World.size_alloc, size_setCell]) 3 #[.int .i64 x, .int .i64 30, .int .i64 31, .int .i64 (-1)]).cell v).trans ru
                  go_simp
                  refine hK.out _ _ ?_ (fun hHeld => ?_)
                  · exact ⟨((((K5.grown GZ (fun e => (by injection e with e; omega))).far (p := ⟨w.heap.size, 0, none⟩) (by show _ ≠ w.heap.size; omega) (.slice A1 n1 c1)).far (p := ⟨w.heap.size, 1, none⟩) (by show _ ≠ w.heap.size; omega) (.slice A2 n2 c2)).alloc (.cells #[.int .i64 x, .int .i64 30, .int .i64 31, .int .i64 (-1)] 3)).cell 0, ((((K5.grown GZ (fun e => (by injection e with e; omega))).far (p := ⟨w.heap.size, 0, none⟩) (by show _ ≠ w.heap.size; omega) (.slice A1 n1 c1)).far (p := ⟨w.heap.size, 1, none⟩) (by show _ ≠ w.heap.size; omega) (.slice A2 n2 c2)).alloc (.cells #[.int .i64 x, .int .i64 30, .int .i64 31, .int .i64 (-1)] 3)).cell 1⟩
                  clear hK K
                  (try simp only [Act.put, List.setIfInBounds_toArray, List.set_cons_zero, List.set_cons_succ])
                  refine wpAnyH_take (i := 12) (v := ?vv12_37) (by rw [List.getElem?_toArray]; exact rfl) (by kernel_rfl) (by kernel_rfl) (by kernel_rfl) (by intro _ _ _ h; exact h) (Or.inl ⟨by rfl, ?hy12_37⟩) hHeld ?rest12_37
                  case' hy12_37 => (intro w hSw; (try dsimp only at hSw); go_simp; try (with_reducible rfl))
                  (try simp only [Act.put, List.setIfInBounds_toArray, List.set_cons_zero, List.set_cons_succ])
                  refine wpAnyH_done (by kernel_rfl) ?_ _
                  go_wp2_with fail
                  go_meet
                  exact ⟨u, rfl, ub.1, ub.2, (((Q.set_ 0 (.slice A1 n1 c1)).set_ 1 (.slice A2 n2 c2)).alloc (.cells #[.int .i64 x, .int .i64 30, .int .i64 31, .int .i64 (-1)] 3)), (((q1.set_low (p := ⟨w.heap.size, 0, none⟩) (by show w.heap.size < _; omega) (.slice A1 n1 c1)).set_low (p := ⟨w.heap.size, 1, none⟩) (by show w.heap.size < _; omega) (.slice A2 n2 c2)).alloc (.cells #[.int .i64 x, .int .i64 30, .int .i64 31, .int .i64 (-1)] 3)).mono (by omega), (((q2.set_low (p := ⟨w.heap.size, 0, none⟩) (by show w.heap.size < _; omega) (.slice A1 n1 c1)).set_low (p := ⟨w.heap.size, 1, none⟩) (by show w.heap.size < _; omega) (.slice A2 n2 c2)).alloc (.cells #[.int .i64 x, .int .i64 30, .int .i64 31, .int .i64 (-1)] 3)).mono (by omega), ((((BX.setCell (p := ⟨w.heap.size, 0, none⟩) (Nat.le_refl _) (.slice A1 n1 c1)).setCell (p := ⟨w.heap.size, 1, none⟩) (Nat.le_refl _) (.slice A2 n2 c2))).alloc (((BX.setCell (p := ⟨w.heap.size, 0, none⟩) (Nat.le_refl _) (.slice A1 n1 c1)).setCell (p := ⟨w.heap.size, 1, none⟩) (Nat.le_refl _) (.slice A2 n2 c2))).size (.cells #[.int .i64 x, .int .i64 30, .int .i64 31, .int .i64 (-1)] 3))⟩
                exact AllReadyH.nil
              exact AllReadyH.nil
            refine AllReadyH.cons (by rw [List.getElem?_toArray]; exact rfl) (fun K hK => ?_) ?_
            · have f18 := (((k4.far (p := ⟨w.heap.size, 0, none⟩) (by show _ ≠ w.heap.size; omega) (.slice A1 n1 c1)).far (p := ⟨w.heap.size, 1, none⟩) (by show _ ≠ w.heap.size; omega) (.slice A2 n2 c2)).cell yn).trans tv
              go_simp
              refine hK.out _ _ ?_ (fun hHeld => ?_)
              · exact ⟨(((K5.grown GZ (fun e => (by injection e with e; omega))).far (p := ⟨w.heap.size, 0, none⟩) (by show _ ≠ w.heap.size; omega) (.slice A1 n1 c1)).far (p := ⟨w.heap.size, 1, none⟩) (by show _ ≠ w.heap.size; omega) (.slice A2 n2 c2)).cell 0, (((K5.grown GZ (fun e => (by injection e with e; omega))).far (p := ⟨w.heap.size, 0, none⟩) (by show _ ≠ w.heap.size; omega) (.slice A1 n1 c1)).far (p := ⟨w.heap.size, 1, none⟩) (by show _ ≠ w.heap.size; omega) (.slice A2 n2 c2)).cell 1⟩
              clear hK K
              (try simp only [Act.put, List.setIfInBounds_toArray, List.set_cons_zero, List.set_cons_succ])
              refine wpAnyH_ready (rs := [3]) (by kernel_rfl) (by simp) ?_
              refine AllReadyH.cons (by rw [List.getElem?_toArray]; exact rfl) (fun K hK => ?_) ?_
              · go_simp
                refine hK.out _ _ ?_ (fun hHeld => ?_)
                · exact ⟨((((K5.grown GZ (fun e => (by injection e with e; omega))).far (p := ⟨w.heap.size, 0, none⟩) (by show _ ≠ w.heap.size; omega) (.slice A1 n1 c1)).far (p := ⟨w.heap.size, 1, none⟩) (by show _ ≠ w.heap.size; omega) (.slice A2 n2 c2)).alloc (.cells #[.int .i64 x, .int .i64 30, .int .i64 31, .int .i64 (-1)] 3)).cell 0, ((((K5.grown GZ (fun e => (by injection e with e; omega))).far (p := ⟨w.heap.size, 0, none⟩) (by show _ ≠ w.heap.size; omega) (.slice A1 n1 c1)).far (p := ⟨w.heap.size, 1, none⟩) (by show _ ≠ w.heap.size; omega) (.slice A2 n2 c2)).alloc (.cells #[.int .i64 x, .int .i64 30, .int .i64 31, .int .i64 (-1)] 3)).cell 1⟩
                clear hK K
                (try simp only [Act.put, List.setIfInBounds_toArray, List.set_cons_zero, List.set_cons_succ])
                refine wpAnyH_take (i := 9) (v := ?vv9_38) (by rw [List.getElem?_toArray]; exact rfl) (by kernel_rfl) (by kernel_rfl) (by kernel_rfl) (by intro _ _ _ h; exact h) (Or.inl ⟨by rfl, ?hy9_38⟩) hHeld ?rest9_38
                case' hy9_38 => (intro w hSw; (try dsimp only at hSw); go_simp; try (with_reducible rfl))
                (try simp only [Act.put, List.setIfInBounds_toArray, List.set_cons_zero, List.set_cons_succ])
                refine wpAnyH_ready (rs := [10]) (by kernel_rfl) (by simp) ?_
                refine AllReadyH.cons (by rw [List.getElem?_toArray]; exact rfl) (fun K hK => ?_) ?_
                · have f20 := ((blkAt (w := ((wq.setCell ⟨w.heap.size, 0, none⟩ (.slice A1 n1 c1)).setCell ⟨w.heap.size, 1, none⟩ (.slice A2 n2 c2))) (g := wq.heap.size) (by simp only [World.size_alloc, size_setCell]) 3 #[.int .i64 x, .int .i64 30, .int .i64 31, .int .i64 (-1)]).cell v).trans ru
                  go_simp
                  refine hK.out _ _ ?_ (fun hHeld => ?_)
                  · exact ⟨((((K5.grown GZ (fun e => (by injection e with e; omega))).far (p := ⟨w.heap.size, 0, none⟩) (by show _ ≠ w.heap.size; omega) (.slice A1 n1 c1)).far (p := ⟨w.heap.size, 1, none⟩) (by show _ ≠ w.heap.size; omega) (.slice A2 n2 c2)).alloc (.cells #[.int .i64 x, .int .i64 30, .int .i64 31, .int .i64 (-1)] 3)).cell 0, ((((K5.grown GZ (fun e => (by injection e with e; omega))).far (p := ⟨w.heap.size, 0, none⟩) (by show _ ≠ w.heap.size; omega) (.slice A1 n1 c1)).far (p := ⟨w.heap.size, 1, none⟩) (by show _ ≠ w.heap.size; omega) (.slice A2 n2 c2)).alloc (.cells #[.int .i64 x, .int .i64 30, .int .i64 31, .int .i64 (-1)] 3)).cell 1⟩
                  clear hK K
                  (try simp only [Act.put, List.setIfInBounds_toArray, List.set_cons_zero, List.set_cons_succ])
                  refine wpAnyH_take (i := 12) (v := ?vv12_39) (by rw [List.getElem?_toArray]; exact rfl) (by kernel_rfl) (by kernel_rfl) (by kernel_rfl) (by intro _ _ _ h; exact h) (Or.inl ⟨by rfl, ?hy12_39⟩) hHeld ?rest12_39
                  case' hy12_39 => (intro w hSw; (try dsimp only at hSw); go_simp; try (with_reducible rfl))
                  (try simp only [Act.put, List.setIfInBounds_toArray, List.set_cons_zero, List.set_cons_succ])
                  refine wpAnyH_done (by kernel_rfl) ?_ _
                  go_wp2_with fail
                  go_meet
                  exact ⟨u, rfl, ub.1, ub.2, (((Q.set_ 0 (.slice A1 n1 c1)).set_ 1 (.slice A2 n2 c2)).alloc (.cells #[.int .i64 x, .int .i64 30, .int .i64 31, .int .i64 (-1)] 3)), (((q1.set_low (p := ⟨w.heap.size, 0, none⟩) (by show w.heap.size < _; omega) (.slice A1 n1 c1)).set_low (p := ⟨w.heap.size, 1, none⟩) (by show w.heap.size < _; omega) (.slice A2 n2 c2)).alloc (.cells #[.int .i64 x, .int .i64 30, .int .i64 31, .int .i64 (-1)] 3)).mono (by omega), (((q2.set_low (p := ⟨w.heap.size, 0, none⟩) (by show w.heap.size < _; omega) (.slice A1 n1 c1)).set_low (p := ⟨w.heap.size, 1, none⟩) (by show w.heap.size < _; omega) (.slice A2 n2 c2)).alloc (.cells #[.int .i64 x, .int .i64 30, .int .i64 31, .int .i64 (-1)] 3)).mono (by omega), ((((BX.setCell (p := ⟨w.heap.size, 0, none⟩) (Nat.le_refl _) (.slice A1 n1 c1)).setCell (p := ⟨w.heap.size, 1, none⟩) (Nat.le_refl _) (.slice A2 n2 c2))).alloc (((BX.setCell (p := ⟨w.heap.size, 0, none⟩) (Nat.le_refl _) (.slice A1 n1 c1)).setCell (p := ⟨w.heap.size, 1, none⟩) (Nat.le_refl _) (.slice A2 n2 c2))).size (.cells #[.int .i64 x, .int .i64 30, .int .i64 31, .int .i64 (-1)] 3))⟩
                exact AllReadyH.nil
              exact AllReadyH.nil
            exact AllReadyH.nil
          exact AllReadyH.nil
        exact AllReadyH.nil
      refine AllReadyH.cons (by rw [List.getElem?_toArray]; exact rfl) (fun K hK => ?_) ?_
      · go_simp
        go_at_call 57
        refine (pick_c rp (by omega) (by omega) (by omega)).mono ?_
        rintro e wq ⟨y, rfl, y0, y1, rq, gq⟩
        replace GZ := grown_trans' GZ gq
        have rql := rq.lt
        obtain ⟨yn, rfl⟩ : ∃ k : Nat, y = k := ⟨y.toNat, by omega⟩
        obtain ⟨v, hv, tv⟩ := tab7_at yn (by omega)
        obtain ⟨u, hu, ru⟩ := row4_at x v hv
        have v1 : (0 : Int) ≤ v := by omega
        have v2 : (v : Int) < 4 := by omega
        have y00 : (0 : Int) ≤ yn := by omega
        have y77 : (yn : Int) < 7 := by omega
        have Q := KR0.grown GZ (fun e => (by injection e with e; omega))
        have q1 := o1.grown GZ (o1.block_ne (by omega))
        have q2 := o2.grown GZ (o2.block_ne (by omega))
        have BX := belowG B3 GZ (by omega)
        have ub : -1 ≤ u ∧ u ≤ 31 := by omega
        (try go_wp2_with fail)
        refine hK.out _ _ ?_ (fun hHeld => ?_)
        · exact ⟨(K5.grown GZ (fun e => (by injection e with e; omega))).cell 0, (K5.grown GZ (fun e => (by injection e with e; omega))).cell 1⟩
        clear hK K
        (try simp only [Act.put, List.setIfInBounds_toArray, List.set_cons_zero, List.set_cons_succ])
        refine wpAnyH_ready (rs := [3, 4, 11]) (by kernel_rfl) (by simp) ?_
        refine AllReadyH.cons (by rw [List.getElem?_toArray]; exact rfl) (fun K hK => ?_) ?_
        · go_simp
          refine hK.out _ _ ?_ (fun hHeld => ?_)
          · exact ⟨((K5.grown GZ (fun e => (by injection e with e; omega))).alloc (.cells #[.int .i64 x, .int .i64 30, .int .i64 31, .int .i64 (-1)] 3)).cell 0, ((K5.grown GZ (fun e => (by injection e with e; omega))).alloc (.cells #[.int .i64 x, .int .i64 30, .int .i64 31, .int .i64 (-1)] 3)).cell 1⟩
          clear hK K
          (try simp only [Act.put, List.setIfInBounds_toArray, List.set_cons_zero, List.set_cons_succ])
          refine wpAnyH_ready (rs := [4, 11]) (by kernel_rfl) (by simp) ?_
          refine AllReadyH.cons (by rw [List.getElem?_toArray]; exact rfl) (fun K hK => ?_) ?_
          · go_simp
            refine hK.out _ _ ?_ (fun hHeld => ?_)
            · exact ⟨(((K5.grown GZ (fun e => (by injection e with e; omega))).alloc (.cells #[.int .i64 x, .int .i64 30, .int .i64 31, .int .i64 (-1)] 3)).alloc (.cells #[.int .i64 0, .int .i64 0, .int .i64 0, .int .i64 0, .int .i64 1, .int .i64 2, .int .i64 3] 3)).cell 0, (((K5.grown GZ (fun e => (by injection e with e; omega))).alloc (.cells #[.int .i64 x, .int .i64 30, .int .i64 31, .int .i64 (-1)] 3)).alloc (.cells #[.int .i64 0, .int .i64 0, .int .i64 0, .int .i64 0, .int .i64 1, .int .i64 2, .int .i64 3] 3)).cell 1⟩
            clear hK K
            (try simp only [Act.put, List.setIfInBounds_toArray, List.set_cons_zero, List.set_cons_succ])
            refine wpAnyH_take (i := 7) (v := ?vv7_40) (by rw [List.getElem?_toArray]; exact rfl) (by kernel_rfl) (by kernel_rfl) (by kernel_rfl) (by intro _ _ _ h; exact h) (Or.inl ⟨by rfl, ?hy7_40⟩) hHeld ?rest7_40
            case' hy7_40 => (intro w hSw; (try dsimp only at hSw); go_simp; try (with_reducible rfl))
            (try simp only [Act.put, List.setIfInBounds_toArray, List.set_cons_zero, List.set_cons_succ])
            refine wpAnyH_ready (rs := [8, 11]) (by kernel_rfl) (by simp) ?_
            refine AllReadyH.cons (by rw [List.getElem?_toArray]; exact rfl) (fun K hK => ?_) ?_
            · have f18 := ((blkAt (w := (wq.alloc (.cells #[.int .i64 x, .int .i64 30, .int .i64 31, .int .i64 (-1)] 3))) (g := wq.heap.size + 1) (by simp only [World.size_alloc, size_setCell]) 3 #[.int .i64 0, .int .i64 0, .int .i64 0, .int .i64 0, .int .i64 1, .int .i64 2, .int .i64 3]).cell yn).trans tv
              go_simp
              refine hK.out _ _ ?_ (fun hHeld => ?_)
              · exact ⟨(((K5.grown GZ (fun e => (by injection e with e; omega))).alloc (.cells #[.int .i64 x, .int .i64 30, .int .i64 31, .int .i64 (-1)] 3)).alloc (.cells #[.int .i64 0, .int .i64 0, .int .i64 0, .int .i64 0, .int .i64 1, .int .i64 2, .int .i64 3] 3)).cell 0, (((K5.grown GZ (fun e => (by injection e with e; omega))).alloc (.cells #[.int .i64 x, .int .i64 30, .int .i64 31, .int .i64 (-1)] 3)).alloc (.cells #[.int .i64 0, .int .i64 0, .int .i64 0, .int .i64 0, .int .i64 1, .int .i64 2, .int .i64 3] 3)).cell 1⟩
              clear hK K
              (try simp only [Act.put, List.setIfInBounds_toArray, List.set_cons_zero, List.set_cons_succ])
              refine wpAnyH_take (i := 9) (v := ?vv9_41) (by rw [List.getElem?_toArray]; exact rfl) (by kernel_rfl) (by kernel_rfl) (by kernel_rfl) (by intro _ _ _ h; exact h) (Or.inl ⟨by rfl, ?hy9_41⟩) hHeld ?rest9_41
              case' hy9_41 => (intro w hSw; (try dsimp only at hSw); go_simp; try (with_reducible rfl))
              (try simp only [Act.put, List.setIfInBounds_toArray, List.set_cons_zero, List.set_cons_succ])
              refine wpAnyH_ready (rs := [10, 11]) (by kernel_rfl) (by simp) ?_
              refine AllReadyH.cons (by rw [List.getElem?_toArray]; exact rfl) (fun K hK => ?_) ?_
              · have f20 := (((blkAt (w := wq) (g := wq.heap.size) rfl 3 #[.int .i64 x, .int .i64 30, .int .i64 31, .int .i64 (-1)]).alloc (.cells #[.int .i64 0, .int .i64 0, .int .i64 0, .int .i64 0, .int .i64 1, .int .i64 2, .int .i64 3] 3)).cell v).trans ru
                go_simp
                refine hK.out _ _ ?_ (fun hHeld => ?_)
                · exact ⟨(((K5.grown GZ (fun e => (by injection e with e; omega))).alloc (.cells #[.int .i64 x, .int .i64 30, .int .i64 31, .int .i64 (-1)] 3)).alloc (.cells #[.int .i64 0, .int .i64 0, .int .i64 0, .int .i64 0, .int .i64 1, .int .i64 2, .int .i64 3] 3)).cell 0, (((K5.grown GZ (fun e => (by injection e with e; omega))).alloc (.cells #[.int .i64 x, .int .i64 30, .int .i64 31, .int .i64 (-1)] 3)).alloc (.cells #[.int .i64 0, .int .i64 0, .int .i64 0, .int .i64 0, .int .i64 1, .int .i64 2, .int .i64 3] 3)).cell 1⟩
                clear hK K
                (try simp only [Act.put, List.setIfInBounds_toArray, List.set_cons_zero, List.set_cons_succ])
                refine wpAnyH_ready (rs := [11]) (by kernel_rfl) (by simp) ?_
                refine AllReadyH.cons (by rw [List.getElem?_toArray]; exact rfl) (fun K hK => ?_) ?_
                · obtain ⟨d0, d1, d2, d3⟩ := (((Q.alloc (.cells #[.int .i64 x, .int .i64 30, .int .i64 31, .int .i64 (-1)] 3)).alloc (.cells #[.int .i64 0, .int .i64 0, .int .i64 0, .int .i64 0, .int .i64 1, .int .i64 2, .int .i64 3] 3))).two
                  go_simp
                  refine hK.out _ _ ?_ (fun hHeld => ?_)
                  · exact ⟨(((((K5.grown GZ (fun e => (by injection e with e; omega))).alloc (.cells #[.int .i64 x, .int .i64 30, .int .i64 31, .int .i64 (-1)] 3)).alloc (.cells #[.int .i64 0, .int .i64 0, .int .i64 0, .int .i64 0, .int .i64 1, .int .i64 2, .int .i64 3] 3)).far (p := ⟨w.heap.size, 0, none⟩) (by show _ ≠ w.heap.size; omega) (.slice A1 n1 c1)).far (p := ⟨w.heap.size, 1, none⟩) (by show _ ≠ w.heap.size; omega) (.slice A2 n2 c2)).cell 0, (((((K5.grown GZ (fun e => (by injection e with e; omega))).alloc (.cells #[.int .i64 x, .int .i64 30, .int .i64 31, .int .i64 (-1)] 3)).alloc (.cells #[.int .i64 0, .int .i64 0, .int .i64 0, .int .i64 0, .int .i64 1, .int .i64 2, .int .i64 3] 3)).far (p := ⟨w.heap.size, 0, none⟩) (by show _ ≠ w.heap.size; omega) (.slice A1 n1 c1)).far (p := ⟨w.heap.size, 1, none⟩) (by show _ ≠ w.heap.size; omega) (.slice A2 n2 c2)).cell 1⟩
                  clear hK K
                  (try simp only [Act.put, List.setIfInBounds_toArray, List.set_cons_zero, List.set_cons_succ])
                  refine wpAnyH_take (i := 12) (v := ?vv12_42) (by rw [List.getElem?_toArray]; exact rfl) (by kernel_rfl) (by kernel_rfl) (by kernel_rfl) (by intro _ _ _ h; exact h) (Or.inl ⟨by rfl, ?hy12_42⟩) hHeld ?rest12_42
                  case' hy12_42 => (intro w hSw; (try dsimp only at hSw); go_simp; try (with_reducible rfl))
                  (try simp only [Act.put, List.setIfInBounds_toArray, List.set_cons_zero, List.set_cons_succ])
                  refine wpAnyH_done (by kernel_rfl) ?_ _
                  go_wp2_with fail
                  go_meet
                  exact ⟨u, rfl, ub.1, ub.2, ((((Q.alloc (.cells #[.int .i64 x, .int .i64 30, .int .i64 31, .int .i64 (-1)] 3)).alloc (.cells #[.int .i64 0, .int .i64 0, .int .i64 0, .int .i64 0, .int .i64 1, .int .i64 2, .int .i64 3] 3)).set_ 0 (.slice A1 n1 c1)).set_ 1 (.slice A2 n2 c2)), ((((q1.alloc (.cells #[.int .i64 x, .int .i64 30, .int .i64 31, .int .i64 (-1)] 3)).alloc (.cells #[.int .i64 0, .int .i64 0, .int .i64 0, .int .i64 0, .int .i64 1, .int .i64 2, .int .i64 3] 3)).set_low (p := ⟨w.heap.size, 0, none⟩) (by show w.heap.size < _; omega) (.slice A1 n1 c1)).set_low (p := ⟨w.heap.size, 1, none⟩) (by show w.heap.size < _; omega) (.slice A2 n2 c2)).mono (by omega), ((((q2.alloc (.cells #[.int .i64 x, .int .i64 30, .int .i64 31, .int .i64 (-1)] 3)).alloc (.cells #[.int .i64 0, .int .i64 0, .int .i64 0, .int .i64 0, .int .i64 1, .int .i64 2, .int .i64 3] 3)).set_low (p := ⟨w.heap.size, 0, none⟩) (by show w.heap.size < _; omega) (.slice A1 n1 c1)).set_low (p := ⟨w.heap.size, 1, none⟩) (by show w.heap.size < _; omega) (.slice A2 n2 c2)).mono (by omega), ((((((BX).alloc (BX).size (.cells #[.int .i64 x, .int .i64 30, .int .i64 31, .int .i64 (-1)] 3))).alloc (((BX).alloc (BX).size (.cells #[.int .i64 x, .int .i64 30, .int .i64 31, .int .i64 (-1)] 3))).size (.cells #[.int .i64 0, .int .i64 0, .int .i64 0, .int .i64 0, .int .i64 1, .int .i64 2, .int .i64 3] 3)).setCell (p := ⟨w.heap.size, 0, none⟩) (Nat.le_refl _) (.slice A1 n1 c1)).setCell (p := ⟨w.heap.size, 1, none⟩) (Nat.le_refl _) (.slice A2 n2 c2))⟩
                exact AllReadyH.nil
              refine AllReadyH.cons (by rw [List.getElem?_toArray]; exact rfl) (fun K hK => ?_) ?_
              · obtain ⟨d0, d1, d2, d3⟩ := (((Q.alloc (.cells #[.int .i64 x, .int .i64 30, .int .i64 31, .int .i64 (-1)] 3)).alloc (.cells #[.int .i64 0, .int .i64 0, .int .i64 0, .int .i64 0, .int .i64 1, .int .i64 2, .int .i64 3] 3))).two
                go_simp
                refine hK.out _ _ ?_ (fun hHeld => ?_)
                · exact ⟨(((((K5.grown GZ (fun e => (by injection e with e; omega))).alloc (.cells #[.int .i64 x, .int .i64 30, .int .i64 31, .int .i64 (-1)] 3)).alloc (.cells #[.int .i64 0, .int .i64 0, .int .i64 0, .int .i64 0, .int .i64 1, .int .i64 2, .int .i64 3] 3)).far (p := ⟨w.heap.size, 0, none⟩) (by show _ ≠ w.heap.size; omega) (.slice A1 n1 c1)).far (p := ⟨w.heap.size, 1, none⟩) (by show _ ≠ w.heap.size; omega) (.slice A2 n2 c2)).cell 0, (((((K5.grown GZ (fun e => (by injection e with e; omega))).alloc (.cells #[.int .i64 x, .int .i64 30, .int .i64 31, .int .i64 (-1)] 3)).alloc (.cells #[.int .i64 0, .int .i64 0, .int .i64 0, .int .i64 0, .int .i64 1, .int .i64 2, .int .i64 3] 3)).far (p := ⟨w.heap.size, 0, none⟩) (by show _ ≠ w.heap.size; omega) (.slice A1 n1 c1)).far (p := ⟨w.heap.size, 1, none⟩) (by show _ ≠ w.heap.size; omega) (.slice A2 n2 c2)).cell 1⟩
                clear hK K
                (try simp only [Act.put, List.setIfInBounds_toArray, List.set_cons_zero, List.set_cons_succ])
                refine wpAnyH_ready (rs := [10]) (by kernel_rfl) (by simp) ?_
                refine AllReadyH.cons (by rw [List.getElem?_toArray]; exact rfl) (fun K hK => ?_) ?_
                · have f20 := (((((blkAt (w := wq) (g := wq.heap.size) rfl 3 #[.int .i64 x, .int .i64 30, .int .i64 31, .int .i64 (-1)]).alloc (.cells #[.int .i64 0, .int .i64 0, .int .i64 0, .int .i64 0, .int .i64 1, .int .i64 2, .int .i64 3] 3)).far (p := ⟨w.heap.size, 0, none⟩) (by show _ ≠ w.heap.size; omega) (.slice A1 n1 c1)).far (p := ⟨w.heap.size, 1, none⟩) (by show _ ≠ w.heap.size; omega) (.slice A2 n2 c2)).cell v).trans ru
                  go_simp
                  refine hK.out _ _ ?_ (fun hHeld => ?_)
                  · exact ⟨(((((K5.grown GZ (fun e => (by injection e with e; omega))).alloc (.cells #[.int .i64 x, .int .i64 30, .int .i64 31, .int .i64 (-1)] 3)).alloc (.cells #[.int .i64 0, .int .i64 0, .int .i64 0, .int .i64 0, .int .i64 1, .int .i64 2, .int .i64 3] 3)).far (p := ⟨w.heap.size, 0, none⟩) (by show _ ≠ w.heap.size; omega) (.slice A1 n1 c1)).far (p := ⟨w.heap.size, 1, none⟩) (by show _ ≠ w.heap.size; omega) (.slice A2 n2 c2)).cell 0, (((((K5.grown GZ (fun e => (by injection e with e; omega))).alloc (.cells #[.int .i64 x, .int .i64 30, .int .i64 31, .int .i64 (-1)] 3)).alloc (.cells #[.int .i64 0, .int .i64 0, .int .i64 0, .int .i64 0, .int .i64 1, .int .i64 2, .int .i64 3] 3)).far (p := ⟨w.heap.size, 0, none⟩) (by show _ ≠ w.heap.size; omega) (.slice A1 n1 c1)).far (p := ⟨w.heap.size, 1, none⟩) (by show _ ≠ w.heap.size; omega) (.slice A2 n2 c2)).cell 1⟩
                  clear hK K
                  (try simp only [Act.put, List.setIfInBounds_toArray, List.set_cons_zero, List.set_cons_succ])
                  refine wpAnyH_take (i := 12) (v := ?vv12_43) (by rw [List.getElem?_toArray]; exact rfl) (by kernel_rfl) (by kernel_rfl) (by kernel_rfl) (by intro _ _ _ h; exact h) (Or.inl ⟨by rfl, ?hy12_43⟩) hHeld ?rest12_43
                  case' hy12_43 => (intro w hSw; (try dsimp only at hSw); go_simp; try (with_reducible rfl))
                  (try simp only [Act.put, List.setIfInBounds_toArray, List.set_cons_zero, List.set_cons_succ])
                  refine wpAnyH_done (by kernel_rfl) ?_ _
                  go_wp2_with fail
                  go_meet
                  exact ⟨u, rfl, ub.1, ub.2, ((((Q.alloc (.cells #[.int .i64 x, .int .i64 30, .int .i64 31, .int .i64 (-1)] 3)).alloc (.cells #[.int .i64 0, .int .i64 0, .int .i64 0, .int .i64 0, .int .i64 1, .int .i64 2, .int .i64 3] 3)).set_ 0 (.slice A1 n1 c1)).set_ 1 (.slice A2 n2 c2)), ((((q1.alloc (.cells #[.int .i64 x, .int .i64 30, .int .i64 31, .int .i64 (-1)] 3)).alloc (.cells #[.int .i64 0, .int .i64 0, .int .i64 0, .int .i64 0, .int .i64 1, .int .i64 2, .int .i64 3] 3)).set_low (p := ⟨w.heap.size, 0, none⟩) (by show w.heap.size < _; omega) (.slice A1 n1 c1)).set_low (p := ⟨w.heap.size, 1, none⟩) (by show w.heap.size < _; omega) (.slice A2 n2 c2)).mono (by omega), ((((q2.alloc (.cells #[.int .i64 x, .int .i64 30, .int .i64 31, .int .i64 (-1)] 3)).alloc (.cells #[.int .i64 0, .int .i64 0, .int .i64 0, .int .i64 0, .int .i64 1, .int .i64 2, .int .i64 3] 3)).set_low (p := ⟨w.heap.size, 0, none⟩) (by show w.heap.size < _; omega) (.slice A1 n1 c1)).set_low (p := ⟨w.heap.size, 1, none⟩) (by show w.heap.size < _; omega) (.slice A2 n2 c2)).mono (by omega), ((((((BX).alloc (BX).size (.cells #[.int .i64 x, .int .i64 30, .int .i64 31, .int .i64 (-1)] 3))).alloc (((BX).alloc (BX).size (.cells #[.int .i64 x, .int .i64 30, .int .i64 31, .int .i64 (-1)] 3))).size (.cells #[.int .i64 0, .int .i64 0, .int .i64 0, .int .i64 0, .int .i64 1, .int .i64 2, .int .i64 3] 3)).setCell (p := ⟨w.heap.size, 0, none⟩) (Nat.le_refl _) (.slice A1 n1 c1)).setCell (p := ⟨w.heap.size, 1, none⟩) (Nat.le_refl _) (.slice A2 n2 c2))⟩
                exact AllReadyH.nil
              exact AllReadyH.nil
            refine AllReadyH.cons (by rw [List.getElem?_toArray]; exact rfl) (fun K hK => ?_) ?_
            · obtain ⟨d0, d1, d2, d3⟩ := (((Q.alloc (.cells #[.int .i64 x, .int .i64 30, .int .i64 31, .int .i64 (-1)] 3)).alloc (.cells #[.int .i64 0, .int .i64 0, .int .i64 0, .int .i64 0, .int .i64 1, .int .i64 2, .int .i64 3] 3))).two
              go_simp
              refine hK.out _ _ ?_ (fun hHeld => ?_)
              · exact ⟨(((((K5.grown GZ (fun e => (by injection e with e; omega))).alloc (.cells #[.int .i64 x, .int .i64 30, .int .i64 31, .int .i64 (-1)] 3)).alloc (.cells #[.int .i64 0, .int .i64 0, .int .i64 0, .int .i64 0, .int .i64 1, .int .i64 2, .int .i64 3] 3)).far (p := ⟨w.heap.size, 0, none⟩) (by show _ ≠ w.heap.size; omega) (.slice A1 n1 c1)).far (p := ⟨w.heap.size, 1, none⟩) (by show _ ≠ w.heap.size; omega) (.slice A2 n2 c2)).cell 0, (((((K5.grown GZ (fun e => (by injection e with e; omega))).alloc (.cells #[.int .i64 x, .int .i64 30, .int .i64 31, .int .i64 (-1)] 3)).alloc (.cells #[.int .i64 0, .int .i64 0, .int .i64 0, .int .i64 0, .int .i64 1, .int .i64 2, .int .i64 3] 3)).far (p := ⟨w.heap.size, 0, none⟩) (by show _ ≠ w.heap.size; omega) (.slice A1 n1 c1)).far (p := ⟨w.heap.size, 1, none⟩) (by show _ ≠ w.heap.size; omega) (.slice A2 n2 c2)).cell 1⟩
              clear hK K
              (try simp only [Act.put, List.setIfInBounds_toArray, List.set_cons_zero, List.set_cons_succ])
              refine wpAnyH_ready (rs := [8]) (by kernel_rfl) (by simp) ?_
              refine AllReadyH.cons (by rw [List.getElem?_toArray]; exact rfl) (fun K hK => ?_) ?_
              · have f18 := ((((blkAt (w := (wq.alloc (.cells #[.int .i64 x, .int .i64 30, .int .i64 31, .int .i64 (-1)] 3))) (g := wq.heap.size + 1) (by simp only [World.size_alloc, size_setCell]) 3 #[.int .i64 0, .int .i64 0, .int .i64 0, .int .i64 0, .int .i64 1, .int .i64 2, .int .i64 3]).far (p := ⟨w.heap.size, 0, none⟩) (by show _ ≠ w.heap.size; omega) (.slice A1 n1 c1)).far (p := ⟨w.heap.size, 1, none⟩) (by show _ ≠ w.heap.size; omega) (.slice A2 n2 c2)).cell yn).trans tv
                go_simp
                refine hK.out _ _ ?_ (fun hHeld => ?_)
                · exact ⟨(((((K5.grown GZ (fun e => (by injection e with e; omega))).alloc (.cells #[.int .i64 x, .int .i64 30, .int .i64 31, .int .i64 (-1)] 3)).alloc (.cells #[.int .i64 0, .int .i64 0, .int .i64 0, .int .i64 0, .int .i64 1, .int .i64 2, .int .i64 3] 3)).far (p := ⟨w.heap.size, 0, none⟩) (by show _ ≠ w.heap.size; omega) (.slice A1 n1 c1)).far (p := ⟨w.heap.size, 1, none⟩) (by show _ ≠ w.heap.size; omega) (.slice A2 n2 c2)).cell 0, (((((K5.grown GZ (fun e => (by injection e with e; omega))).alloc (.cells #[.int .i64 x, .int .i64 30, .int .i64 31, .int .i64 (-1)] 3)).alloc (.cells #[.int .i64 0, .int .i64 0, .int .i64 0, .int .i64 0, .int .i64 1, .int .i64 2, .int .i64 3] 3)).far (p := ⟨w.heap.size, 0, none⟩) (by show _ ≠ w.heap.size; omega) (.slice A1 n1 c1)).far (p := ⟨w.heap.size, 1, none⟩) (by show _ ≠ w.heap.size; omega) (.slice A2 n2 c2)).cell 1⟩
                clear hK K
                (try simp only [Act.put, List.setIfInBounds_toArray, List.set_cons_zero, List.set_cons_succ])
                refine wpAnyH_take (i := 9) (v := ?vv9_44) (by rw [List.getElem?_toArray]; exact rfl) (by kernel_rfl) (by kernel_rfl) (by kernel_rfl) (by intro _ _ _ h; exact h) (Or.inl ⟨by rfl, ?hy9_44⟩) hHeld ?rest9_44
                case' hy9_44 => (intro w hSw; (try dsimp only at hSw); go_simp; try (with_reducible rfl))
                (try simp only [Act.put, List.setIfInBounds_toArray, List.set_cons_zero, List.set_cons_succ])
                refine wpAnyH_ready (rs := [10]) (by kernel_rfl) (by simp) ?_
                refine AllReadyH.cons (by rw [List.getElem?_toArray]; exact rfl) (fun K hK => ?_) ?_
                · have f20 := (((((blkAt (w := wq) (g := wq.heap.size) rfl 3 #[.int .i64 x, .int .i64 30, .int .i64 31, .int .i64 (-1)]).alloc (.cells #[.int .i64 0, .int .i64 0, .int .i64 0, .int .i64 0, .int .i64 1, .int .i64 2, .int .i64 3] 3)).far (p := ⟨w.heap.size, 0, none⟩) (by show _ ≠ w.heap.size; omega) (.slice A1 n1 c1)).far (p := ⟨w.heap.size, 1, none⟩) (by show _ ≠ w.heap.size; omega) (.slice A2 n2 c2)).cell v).trans ru
                  go_simp
                  refine hK.out _ _ ?_ (fun hHeld => ?_)
                  · exact ⟨(((((K5.grown GZ (fun e => (by injection e with e; omega))).alloc (.cells #[.int .i64 x, .int .i64 30, .int .i64 31, .int .i64 (-1)] 3)).alloc (.cells #[.int .i64 0, .int .i64 0, .int .i64 0, .int .i64 0, .int .i64 1, .int .i64 2, .int .i64 3] 3)).far (p := ⟨w.heap.size, 0, none⟩) (by show _ ≠ w.heap.size; omega) (.slice A1 n1 c1)).far (p := ⟨w.heap.size, 1, none⟩) (by show _ ≠ w.heap.size; omega) (.slice A2 n2 c2)).cell 0, (((((K5.grown GZ (fun e => (by injection e with e; omega))).alloc (.cells #[.int .i64 x, .int .i64 30, .int .i64 31, .int .i64 (-1)] 3)).alloc (.cells #[.int .i64 0, .int .i64 0, .int .i64 0, .int .i64 0, .int .i64 1, .int .i64 2, .int .i64 3] 3)).far (p := ⟨w.heap.size, 0, none⟩) (by show _ ≠ w.heap.size; omega) (.slice A1 n1 c1)).far (p := ⟨w.heap.size, 1, none⟩) (by show _ ≠ w.heap.size; omega) (.slice A2 n2 c2)).cell 1⟩
                  clear hK K
                  (try simp only [Act.put, List.setIfInBounds_toArray, List.set_cons_zero, List.set_cons_succ])
                  refine wpAnyH_take (i := 12) (v := ?vv12_45) (by rw [List.getElem?_toArray]; exact rfl) (by kernel_rfl) (by kernel_rfl) (by kernel_rfl) (by intro _ _ _ h; exact h) (Or.inl ⟨by rfl, ?hy12_45⟩) hHeld ?rest12_45
                  case' hy12_45 => (intro w hSw; (try dsimp only at hSw); go_simp; try (with_reducible rfl))
                  (try simp only [Act.put, List.setIfInBounds_toArray, List.set_cons_zero, List.set_cons_succ])
                  refine wpAnyH_done (by kernel_rfl) ?_ _
                  go_wp2_with fail
                  go_meet
                  exact ⟨u, rfl, ub.1, ub.2, ((((Q.alloc (.cells #[.int .i64 x, .int .i64 30, .int .i64 31, .int .i64 (-1)] 3)).alloc (.cells #[.int .i64 0, .int .i64 0, .int .i64 0, .int .i64 0, .int .i64 1, .int .i64 2, .int .i64 3] 3)).set_ 0 (.slice A1 n1 c1)).set_ 1 (.slice A2 n2 c2)), ((((q1.alloc (.cells #[.int .i64 x, .int .i64 30, .int .i64 31, .int .i64 (-1)] 3)).alloc (.cells #[.int .i64 0, .int .i64 0, .int .i64 0, .int .i64 0, .int .i64 1, .int .i64 2, .int .i64 3] 3)).set_low (p := ⟨w.heap.size, 0, none⟩) (by show w.heap.size < _; omega) (.slice A1 n1 c1)).set_low (p := ⟨w.heap.size, 1, none⟩) (by show w.heap.size < _; omega) (.slice A2 n2 c2)).mono (by omega), ((((q2.alloc (.cells #[.int .i64 x, .int .i64 30, .int .i64 31, .int .i64 (-1)] 3)).alloc (.cells #[.int .i64 0, .int .i64 0, .int .i64 0, .int .i64 0, .int .i64 1, .int .i64 2, .int .i64 3] 3)).set_low (p := ⟨w.heap.size, 0, none⟩) (by show w.heap.size < _; omega) (.slice A1 n1 c1)).set_low (p := ⟨w.heap.size, 1, none⟩) (by show w.heap.size < _; omega) (.slice A2 n2 c2)).mono (by omega), ((((((BX).alloc (BX).size (.cells #[.int .i64 x, .int .i64 30, .int .i64 31, .int .i64 (-1)] 3))).alloc (((BX).alloc (BX).size (.cells #[.int .i64 x, .int .i64 30, .int .i64 31, .int .i64 (-1)] 3))).size (.cells #[.int .i64 0, .int .i64 0, .int .i64 0, .int .i64 0, .int .i64 1, .int .i64 2, .int .i64 3] 3)).setCell (p := ⟨w.heap.size, 0, none⟩) (Nat.le_refl _) (.slice A1 n1 c1)).setCell (p := ⟨w.heap.size, 1, none⟩) (Nat.le_refl _) (.slice A2 n2 c2))⟩
                exact AllReadyH.nil
              exact AllReadyH.nil
            exact AllReadyH.nil
          refine AllReadyH.cons (by rw [List.getElem?_toArray]; exact rfl) (fun K hK => ?_) ?_
          · obtain ⟨d0, d1, d2, d3⟩ := ((Q.alloc (.cells #[.int .i64 x, .int .i64 30, .int .i64 31, .int .i64 (-1)] 3))).two
            go_simp
            refine hK.out _ _ ?_ (fun hHeld => ?_)
            · exact ⟨((((K5.grown GZ (fun e => (by injection e with e; omega))).alloc (.cells #[.int .i64 x, .int .i64 30, .int .i64 31, .int .i64 (-1)] 3)).far (p := ⟨w.heap.size, 0, none⟩) (by show _ ≠ w.heap.size; omega) (.slice A1 n1 c1)).far (p := ⟨w.heap.size, 1, none⟩) (by show _ ≠ w.heap.size; omega) (.slice A2 n2 c2)).cell 0, ((((K5.grown GZ (fun e => (by injection e with e; omega))).alloc (.cells #[.int .i64 x, .int .i64 30, .int .i64 31, .int .i64 (-1)] 3)).far (p := ⟨w.heap.size, 0, none⟩) (by show _ ≠ w.heap.size; omega) (.slice A1 n1 c1)).far (p := ⟨w.heap.size, 1, none⟩) (by show _ ≠ w.heap.size; omega) (.slice A2 n2 c2)).cell 1⟩
            clear hK K
            (try simp only [Act.put, List.setIfInBounds_toArray, List.set_cons_zero, List.set_cons_succ])
            refine wpAnyH_ready (rs := [4]) (by kernel_rfl) (by simp) ?_
            refine AllReadyH.cons (by rw [List.getElem?_toArray]; exact rfl) (fun K hK => ?_) ?_
            · go_simp
              refine hK.out _ _ ?_ (fun hHeld => ?_)
              · exact ⟨(((((K5.grown GZ (fun e => (by injection e with e; omega))).alloc (.cells #[.int .i64 x, .int .i64 30, .int .i64 31, .int .i64 (-1)] 3)).far (p := ⟨w.heap.size, 0, none⟩) (by show _ ≠ w.heap.size; omega) (.slice A1 n1 c1)).far (p := ⟨w.heap.size, 1, none⟩) (by show _ ≠ w.heap.size; omega) (.slice A2 n2 c2)).alloc (.cells #[.int .i64 0, .int .i64 0, .int .i64 0, .int .i64 0, .int .i64 1, .int .i64 2, .int .i64 3] 3)).cell 0, (((((K5.grown GZ (fun e => (by injection e with e; omega))).alloc (.cells #[.int .i64 x, .int .i64 30, .int .i64 31, .int .i64 (-1)] 3)).far (p := ⟨w.heap.size, 0, none⟩) (by show _ ≠ w.heap.size; omega) (.slice A1 n1 c1)).far (p := ⟨w.heap.size, 1, none⟩) (by show _ ≠ w.heap.size; omega) (.slice A2 n2 c2)).alloc (.cells #[.int .i64 0, .int .i64 0, .int .i64 0, .int .i64 0, .int .i64 1, .int .i64 2, .int .i64 3] 3)).cell 1⟩
              clear hK K
              (try simp only [Act.put, List.setIfInBounds_toArray, List.set_cons_zero, List.set_cons_succ])
              refine wpAnyH_take (i := 7) (v := ?vv7_46) (by rw [List.getElem?_toArray]; exact rfl) (by kernel_rfl) (by kernel_rfl) (by kernel_rfl) (by intro _ _ _ h; exact h) (Or.inl ⟨by rfl, ?hy7_46⟩) hHeld ?rest7_46
              case' hy7_46 => (intro w hSw; (try dsimp only at hSw); go_simp; try (with_reducible rfl))
              (try simp only [Act.put, List.setIfInBounds_toArray, List.set_cons_zero, List.set_cons_succ])
              refine wpAnyH_ready (rs := [8]) (by kernel_rfl) (by simp) ?_
              refine AllReadyH.cons (by rw [List.getElem?_toArray]; exact rfl) (fun K hK => ?_) ?_
              · have f18 := ((blkAt (w := (((wq.alloc (.cells #[.int .i64 x, .int .i64 30, .int .i64 31, .int .i64 (-1)] 3)).setCell ⟨w.heap.size, 0, none⟩ (.slice A1 n1 c1)).setCell ⟨w.heap.size, 1, none⟩ (.slice A2 n2 c2))) (g := wq.heap.size + 1) (by simp only [World.size_alloc, size_setCell]) 3 #[.int .i64 0, .int .i64 0, .int .i64 0, .int .i64 0, .int .i64 1, .int .i64 2, .int .i64 3]).cell yn).trans tv
                go_simp
                refine hK.out _ _ ?_ (fun hHeld => ?_)
                · exact ⟨(((((K5.grown GZ (fun e => (by injection e with e; omega))).alloc (.cells #[.int .i64 x, .int .i64 30, .int .i64 31, .int .i64 (-1)] 3)).far (p := ⟨w.heap.size, 0, none⟩) (by show _ ≠ w.heap.size; omega) (.slice A1 n1 c1)).far (p := ⟨w.heap.size, 1, none⟩) (by show _ ≠ w.heap.size; omega) (.slice A2 n2 c2)).alloc (.cells #[.int .i64 0, .int .i64 0, .int .i64 0, .int .i64 0, .int .i64 1, .int .i64 2, .int .i64 3] 3)).cell 0, (((((K5.grown GZ (fun e => (by injection e with e; omega))).alloc (.cells #[.int .i64 x, .int .i64 30, .int .i64 31, .int .i64 (-1)] 3)).far (p := ⟨w.heap.size, 0, none⟩) (by show _ ≠ w.heap.size; omega) (.slice A1 n1 c1)).far (p := ⟨w.heap.size, 1, none⟩) (by show _ ≠ w.heap.size; omega) (.slice A2 n2 c2)).alloc (.cells #[.int .i64 0, .int .i64 0, .int .i64 0, .int .i64 0, .int .i64 1, .int .i64 2, .int .i64 3] 3)).cell 1⟩
                clear hK K
                (try simp only [Act.put, List.setIfInBounds_toArray, List.set_cons_zero, List.set_cons_succ])
                refine wpAnyH_take (i := 9) (v := ?vv9_47) (by rw [List.getElem?_toArray]; exact rfl) (by kernel_rfl) (by kernel_rfl) (by kernel_rfl) (by intro _ _ _ h; exact h) (Or.inl ⟨by rfl, ?hy9_47⟩) hHeld ?rest9_47
                case' hy9_47 => (intro w hSw; (try dsimp only at hSw); go_simp; try (with_reducible rfl))
                (try simp only [Act.put, List.setIfInBounds_toArray, List.set_cons_zero, List.set_cons_succ])
                refine wpAnyH_ready (rs := [10]) (by kernel_rfl) (by simp) ?_
                refine AllReadyH.cons (by rw [List.getElem?_toArray]; exact rfl) (fun K hK => ?_) ?_
                · have f20 := (((((blkAt (w := wq) (g := wq.heap.size) rfl 3 #[.int .i64 x, .int .i64 30, .int .i64 31, .int .i64 (-1)]).far (p := ⟨w.heap.size, 0, none⟩) (by show _ ≠ w.heap.size; omega) (.slice A1 n1 c1)).far (p := ⟨w.heap.size, 1, none⟩) (by show _ ≠ w.heap.size; omega) (.slice A2 n2 c2)).alloc (.cells #[.int .i64 0, .int .i64 0, .int .i64 0, .int .i64 0, .int .i64 1, .int .i64 2, .int .i64 3] 3)).cell v).trans ru
                  go_simp
                  refine hK.out _ _ ?_ (fun hHeld => ?_)
                  · exact ⟨(((((K5.grown GZ (fun e => (by injection e with e; omega))).alloc (.cells #[.int .i64 x, .int .i64 30, .int .i64 31, .int .i64 (-1)] 3)).far (p := ⟨w.heap.size, 0, none⟩) (by show _ ≠ w.heap.size; omega) (.slice A1 n1 c1)).far (p := ⟨w.heap.size, 1, none⟩) (by show _ ≠ w.heap.size; omega) (.slice A2 n2 c2)).alloc (.cells #[.int .i64 0, .int .i64 0, .int .i64 0, .int .i64 0, .int .i64 1, .int .i64 2, .int .i64 3] 3)).cell 0, (((((K5.grown GZ (fun e => (by injection e with e; omega))).alloc (.cells #[.int .i64 x, .int .i64 30, .int .i64 31, .int .i64 (-1)] 3)).far (p := ⟨w.heap.size, 0, none⟩) (by show _ ≠ w.heap.size; omega) (.slice A1 n1 c1)).far (p := ⟨w.heap.size, 1, none⟩) (by show _ ≠ w.heap.size; omega) (.slice A2 n2 c2)).alloc (.cells #[.int .i64 0, .int .i64 0, .int .i64 0, .int .i64 0, .int .i64 1, .int .i64 2, .int .i64 3] 3)).cell 1⟩
                  clear hK K
                  (try simp only [Act.put, List.setIfInBounds_toArray, List.set_cons_zero, List.set_cons_succ])
                  refine wpAnyH_take (i := 12) (v := ?vv12_48) (by rw [List.getElem?_toArray]; exact rfl) (by kernel_rfl) (by kernel_rfl) (by kernel_rfl) (by intro _ _ _ h; exact h) (Or.inl ⟨by rfl, ?hy12_48⟩) hHeld ?rest12_48
                  case' hy12_48 => (intro w hSw; (try dsimp only at hSw); go_simp; try (with_reducible rfl))
                  (try simp only [Act.put, List.setIfInBounds_toArray, List.set_cons_zero, List.set_cons_succ])
                  refine wpAnyH_done (by kernel_rfl) ?_ _
                  go_wp2_with fail
                  go_meet
                  exact ⟨u, rfl, ub.1, ub.2, ((((Q.alloc (.cells #[.int .i64 x, .int .i64 30, .int .i64 31, .int .i64 (-1)] 3)).set_ 0 (.slice A1 n1 c1)).set_ 1 (.slice A2 n2 c2)).alloc (.cells #[.int .i64 0, .int .i64 0, .int .i64 0, .int .i64 0, .int .i64 1, .int .i64 2, .int .i64 3] 3)), ((((q1.alloc (.cells #[.int .i64 x, .int .i64 30, .int .i64 31, .int .i64 (-1)] 3)).set_low (p := ⟨w.heap.size, 0, none⟩) (by show w.heap.size < _; omega) (.slice A1 n1 c1)).set_low (p := ⟨w.heap.size, 1, none⟩) (by show w.heap.size < _; omega) (.slice A2 n2 c2)).alloc (.cells #[.int .i64 0, .int .i64 0, .int .i64 0, .int .i64 0, .int .i64 1, .int .i64 2, .int .i64 3] 3)).mono (by omega), ((((q2.alloc (.cells #[.int .i64 x, .int .i64 30, .int .i64 31, .int .i64 (-1)] 3)).set_low (p := ⟨w.heap.size, 0, none⟩) (by show w.heap.size < _; omega) (.slice A1 n1 c1)).set_low (p := ⟨w.heap.size, 1, none⟩) (by show w.heap.size < _; omega) (.slice A2 n2 c2)).alloc (.cells #[.int .i64 0, .int .i64 0, .int .i64 0, .int .i64 0, .int .i64 1, .int .i64 2, .int .i64 3] 3)).mono (by omega), ((((((BX).alloc (BX).size (.cells #[.int .i64 x, .int .i64 30, .int .i64 31, .int .i64 (-1)] 3)).setCell (p := ⟨w.heap.size, 0, none⟩) (Nat.le_refl _) (.slice A1 n1 c1)).setCell (p := ⟨w.heap.size, 1, none⟩) (Nat.le_refl _) (.slice A2 n2 c2))).alloc (((((BX).alloc (BX).size (.cells #[.int .i64 x, .int .i64 30, .int .i64 31, .int .i64 (-1)] 3)).setCell (p := ⟨w.heap.size, 0, none⟩) (Nat.le_refl _) (.slice A1 n1 c1)).setCell (p := ⟨w.heap.size, 1, none⟩) (Nat.le_refl _) (.slice A2 n2 c2))).size (.cells #[.int .i64 0, .int .i64 0, .int .i64 0, .int .i64 0, .int .i64 1, .int .i64 2, .int .i64 3] 3))⟩
                exact AllReadyH.nil
              exact AllReadyH.nil
            exact AllReadyH.nil
          exact AllReadyH.nil
        refine AllReadyH.cons (by rw [List.getElem?_toArray]; exact rfl) (fun K hK => ?_) ?_
        · go_simp
          refine hK.out _ _ ?_ (fun hHeld => ?_)
          · exact ⟨((K5.grown GZ (fun e => (by injection e with e; omega))).alloc (.cells #[.int .i64 0, .int .i64 0, .int .i64 0, .int .i64 0, .int .i64 1, .int .i64 2, .int .i64 3] 3)).cell 0, ((K5.grown GZ (fun e => (by injection e with e; omega))).alloc (.cells #[.int .i64 0, .int .i64 0, .int .i64 0, .int .i64 0, .int .i64 1, .int .i64 2, .int .i64 3] 3)).cell 1⟩
          clear hK K
          (try simp only [Act.put, List.setIfInBounds_toArray, List.set_cons_zero, List.set_cons_succ])
          refine wpAnyH_take (i := 7) (v := ?vv7_49) (by rw [List.getElem?_toArray]; exact rfl) (by kernel_rfl) (by kernel_rfl) (by kernel_rfl) (by intro _ _ _ h; exact h) (Or.inl ⟨by rfl, ?hy7_49⟩) hHeld ?rest7_49
          case' hy7_49 => (intro w hSw; (try dsimp only at hSw); go_simp; try (with_reducible rfl))
          (try simp only [Act.put, List.setIfInBounds_toArray, List.set_cons_zero, List.set_cons_succ])
          refine wpAnyH_ready (rs := [3, 8, 11]) (by kernel_rfl) (by simp) ?_
          refine AllReadyH.cons (by rw [List.getElem?_toArray]; exact rfl) (fun K hK => ?_) ?_
          · go_simp
            refine hK.out _ _ ?_ (fun hHeld => ?_)
            · exact ⟨(((K5.grown GZ (fun e => (by injection e with e; omega))).alloc (.cells #[.int .i64 0, .int .i64 0, .int .i64 0, .int .i64 0, .int .i64 1, .int .i64 2, .int .i64 3] 3)).alloc (.cells #[.int .i64 x, .int .i64 30, .int .i64 31, .int .i64 (-1)] 3)).cell 0, (((K5.grown GZ (fun e => (by injection e with e; omega))).alloc (.cells #[.int .i64 0, .int .i64 0, .int .i64 0, .int .i64 0, .int .i64 1, .int .i64 2, .int .i64 3] 3)).alloc (.cells #[.int .i64 x, .int .i64 30, .int .i64 31, .int .i64 (-1)] 3)).cell 1⟩
            clear hK K
            (try simp only [Act.put, List.setIfInBounds_toArray, List.set_cons_zero, List.set_cons_succ])
            refine wpAnyH_ready (rs := [8, 11]) (by kernel_rfl) (by simp) ?_
            refine AllReadyH.cons (by rw [List.getElem?_toArray]; exact rfl) (fun K hK => ?_) ?_
            · have f18 := (((blkAt (w := wq) (g := wq.heap.size) rfl 3 #[.int .i64 0, .int .i64 0, .int .i64 0, .int .i64 0, .int .i64 1, .int .i64 2, .int .i64 3]).alloc (.cells #[.int .i64 x, .int .i64 30, .int .i64 31, .int .i64 (-1)] 3)).cell yn).trans tv
              go_simp
              refine hK.out _ _ ?_ (fun hHeld => ?_)
              · exact ⟨(((K5.grown GZ (fun e => (by injection e with e; omega))).alloc (.cells #[.int .i64 0, .int .i64 0, .int .i64 0, .int .i64 0, .int .i64 1, .int .i64 2, .int .i64 3] 3)).alloc (.cells #[.int .i64 x, .int .i64 30, .int .i64 31, .int .i64 (-1)] 3)).cell 0, (((K5.grown GZ (fun e => (by injection e with e; omega))).alloc (.cells #[.int .i64 0, .int .i64 0, .int .i64 0, .int .i64 0, .int .i64 1, .int .i64 2, .int .i64 3] 3)).alloc (.cells #[.int .i64 x, .int .i64 30, .int .i64 31, .int .i64 (-1)] 3)).cell 1⟩
              clear hK K
              (try simp only [Act.put, List.setIfInBounds_toArray, List.set_cons_zero, List.set_cons_succ])
              refine wpAnyH_take (i := 9) (v := ?vv9_50) (by rw [List.getElem?_toArray]; exact rfl) (by kernel_rfl) (by kernel_rfl) (by kernel_rfl) (by intro _ _ _ h; exact h) (Or.inl ⟨by rfl, ?hy9_50⟩) hHeld ?rest9_50
              case' hy9_50 => (intro w hSw; (try dsimp only at hSw); go_simp; try (with_reducible rfl))
              (try simp only [Act.put, List.setIfInBounds_toArray, List.set_cons_zero, List.set_cons_succ])
              refine wpAnyH_ready (rs := [10, 11]) (by kernel_rfl) (by simp) ?_
              refine AllReadyH.cons (by rw [List.getElem?_toArray]; exact rfl) (fun K hK => ?_) ?_
              · have f20 := ((blkAt (w := (wq.alloc (.cells #[.int .i64 0, .int .i64 0, .int .i64 0, .int .i64 0, .int .i64 1, .int .i64 2, .int .i64 3] 3))) (g := wq.heap.size + 1) (by simp only [World.size_alloc, size_setCell]) 3 #[.int .i64 x, .int .i64 30, .int .i64 31, .int .i64 (-1)]).cell v).trans ru
                go_simp
                refine hK.out _ _ ?_ (fun hHeld => ?_)
                · exact ⟨(((K5.grown GZ (fun e => (by injection e with e; omega))).alloc (.cells #[.int .i64 0, .int .i64 0, .int .i64 0, .int .i64 0, .int .i64 1, .int .i64 2, .int .i64 3] 3)).alloc (.cells #[.int .i64 x, .int .i64 30, .int .i64 31, .int .i64 (-1)] 3)).cell 0, (((K5.grown GZ (fun e => (by injection e with e; omega))).alloc (.cells #[.int .i64 0, .int .i64 0, .int .i64 0, .int .i64 0, .int .i64 1, .int .i64 2, .int .i64 3] 3)).alloc (.cells #[.int .i64 x, .int .i64 30, .int .i64 31, .int .i64 (-1)] 3)).cell 1⟩
                clear hK K
                (try simp only [Act.put, List.setIfInBounds_toArray, List.set_cons_zero, List.set_cons_succ])
                refine wpAnyH_ready (rs := [11]) (by kernel_rfl) (by simp) ?_
                refine AllReadyH.cons (by rw [List.getElem?_toArray]; exact rfl) (fun K hK => ?_) ?_
                · obtain ⟨d0, d1, d2, d3⟩ := (((Q.alloc (.cells #[.int .i64 0, .int .i64 0, .int .i64 0, .int .i64 0, .int .i64 1, .int .i64 2, .int .i64 3] 3)).alloc (.cells #[.int .i64 x, .int .i64 30, .int .i64 31, .int .i64 (-1)] 3))).two
                  go_simp
                  refine hK.out _ _ ?_ (fun hHeld => ?_)
                  · exact ⟨(((((K5.grown GZ (fun e => (by injection e with e; omega))).alloc (.cells #[.int .i64 0, .int .i64 0, .int .i64 0, .int .i64 0, .int .i64 1, .int .i64 2, .int .i64 3] 3)).alloc (.cells #[.int .i64 x, .int .i64 30, .int .i64 31, .int .i64 (-1)] 3)).far (p := ⟨w.heap.size, 0, none⟩) (by show _ ≠ w.heap.size; omega) (.slice A1 n1 c1)).far (p := ⟨w.heap.size, 1, none⟩) (by show _ ≠ w.heap.size; omega) (.slice A2 n2 c2)).cell 0, (((((K5.grown GZ (fun e => (by injection e with e; omega))).alloc (.cells #[.int .i64 0, .int .i64 0, .int .i64 0, .int .i64 0, .int .i64 1, .int .i64 2, .int .i64 3] 3)).alloc (.cells #[.int .i64 x, .int .i64 30, .int .i64 31, .int .i64 (-1)] 3)).far (p := ⟨w.heap.size, 0, none⟩) (by show _ ≠ w.heap.size; omega) (.slice A1 n1 c1)).far (p := ⟨w.heap.size, 1, none⟩) (by show _ ≠ w.heap.size; omega) (.slice A2 n2 c2)).cell 1⟩
                  clear hK K
                  (try simp only [Act.put, List.setIfInBounds_toArray, List.set_cons_zero, List.set_cons_succ])
                  refine wpAnyH_take (i := 12) (v := ?vv12_51) (by rw [List.getElem?_toArray]; exact rfl) (by kernel_rfl) (by kernel_rfl) (by kernel_rfl) (by intro _ _ _ h; exact h) (Or.inl ⟨by rfl, ?hy12_51⟩) hHeld ?rest12_51
                  case' hy12_51 => (intro w hSw; (try dsimp only at hSw); go_simp; try (with_reducible rfl))
                  (try simp only [Act.put, List.setIfInBounds_toArray, List.set_cons_zero, List.set_cons_succ])
                  refine wpAnyH_done (by kernel_rfl) ?_ _
                  go_wp2_with fail
                  go_meet
                  exact ⟨u, rfl, ub.1, ub.2, ((((Q.alloc (.cells #[.int .i64 0, .int .i64 0, .int .i64 0, .int .i64 0, .int .i64 1, .int .i64 2, .int .i64 3] 3)).alloc (.cells #[.int .i64 x, .int .i64 30, .int .i64 31, .int .i64 (-1)] 3)).set_ 0 (.slice A1 n1 c1)).set_ 1 (.slice A2 n2 c2)), ((((q1.alloc (.cells #[.int .i64 0, .int .i64 0, .int .i64 0, .int .i64 0, .int .i64 1, .int .i64 2, .int .i64 3] 3)).alloc (.cells #[.int .i64 x, .int .i64 30, .int .i64 31, .int .i64 (-1)] 3)).set_low (p := ⟨w.heap.size, 0, none⟩) (by show w.heap.size < _; omega) (.slice A1 n1 c1)).set_low (p := ⟨w.heap.size, 1, none⟩) (by show w.heap.size < _; omega) (.slice A2 n2 c2)).mono (by omega), ((((q2.alloc (.cells #[.int .i64 0, .int .i64 0, .int .i64 0, .int .i64 0, .int .i64 1, .int .i64 2, .int .i64 3] 3)).alloc (.cells #[.int .i64 x, .int .i64 30, .int .i64 31, .int .i64 (-1)] 3)).set_low (p := ⟨w.heap.size, 0, none⟩) (by show w.heap.size < _; omega) (.slice A1 n1 c1)).set_low (p := ⟨w.heap.size, 1, none⟩) (by show w.heap.size < _; omega) (.slice A2 n2 c2)).mono (by omega), ((((((BX).alloc (BX).size (.cells #[.int .i64 0, .int .i64 0, .int .i64 0, .int .i64 0, .int .i64 1, .int .i64 2, .int .i64 3] 3))).alloc (((BX).alloc (BX).size (.cells #[.int .i64 0, .int .i64 0, .int .i64 0, .int .i64 0, .int .i64 1, .int .i64 2, .int .i64 3] 3))).size (.cells #[.int .i64 x, .int .i64 30, .int .i64 31, .int .i64 (-1)] 3)).setCell (p := ⟨w.heap.size, 0, none⟩) (Nat.le_refl _) (.slice A1 n1 c1)).setCell (p := ⟨w.heap.size, 1, none⟩) (Nat.le_refl _) (.slice A2 n2 c2))⟩
                exact AllReadyH.nil
              refine AllReadyH.cons (by rw [List.getElem?_toArray]; exact rfl) (fun K hK => ?_) ?_
              · obtain ⟨d0, d1, d2, d3⟩ := (((Q.alloc (.cells #[.int .i64 0, .int .i64 0, .int .i64 0, .int .i64 0, .int .i64 1, .int .i64 2, .int .i64 3] 3)).alloc (.cells #[.int .i64 x, .int .i64 30, .int .i64 31, .int .i64 (-1)] 3))).two
                go_simp
                refine hK.out _ _ ?_ (fun hHeld => ?_)
                · exact ⟨(((((K5.grown GZ (fun e => (by injection e with e; omega))).alloc (.cells #[.int .i64 0, .int .i64 0, .int .i64 0, .int .i64 0, .int .i64 1, .int .i64 2, .int .i64 3] 3)).alloc (.cells #[.int .i64 x, .int .i64 30, .int .i64 31, .int .i64 (-1)] 3)).far (p := ⟨w.heap.size, 0, none⟩) (by show _ ≠ w.heap.size; omega) (.slice A1 n1 c1)).far (p := ⟨w.heap.size, 1, none⟩) (by show _ ≠ w.heap.size; omega) (.slice A2 n2 c2)).cell 0, (((((K5.grown GZ (fun e => (by injection e with e; omega))).alloc (.cells #[.int .i64 0, .int .i64 0, .int .i64 0, .int .i64 0, .int .i64 1, .int .i64 2, .int .i64 3] 3)).alloc (.cells #[.int .i64 x, .int .i64 30, .int .i64 31, .int .i64 (-1)] 3)).far (p := ⟨w.heap.size, 0, none⟩) (by show _ ≠ w.heap.size; omega) (.slice A1 n1 c1)).far (p := ⟨w.heap.size, 1, none⟩) (by show _ ≠ w.heap.size; omega) (.slice A2 n2 c2)).cell 1⟩
                clear hK K
                (try simp only [Act.put, List.setIfInBounds_toArray, List.set_cons_zero, List.set_cons_succ])
                refine wpAnyH_ready (rs := [10]) (by kernel_rfl) (by simp) ?_
                refine AllReadyH.cons (by rw [List.getElem?_toArray]; exact rfl) (fun K hK => ?_) ?_
                · have f20 := ((((blkAt (w := (wq.alloc (.cells #[.int .i64 0, .int .i64 0, .int .i64 0, .int .i64 0, .int .i64 1, .int .i64 2, .int .i64 3] 3))) (g := wq.heap.size + 1) (by simp only [World.size_alloc, size_setCell]) 3 #[.int .i64 x, .int .i64 30, .int .i64 31, .int .i64 (-1)]).far (p := ⟨w.heap.size, 0, none⟩) (by show _ ≠ w.heap.size; omega) (.slice A1 n1 c1)).far (p := ⟨w.heap.size, 1, none⟩) (by show _ ≠ w.heap.size; omega) (.slice A2 n2 c2)).cell v).trans ru
                  go_simp
                  refine hK.out _ _ ?_ (fun hHeld => ?_)
                  · exact ⟨(((((K5.grown GZ (fun e => (by injection e with e; omega))).alloc (.cells #[.int .i64 0, .int .i64 0, .int .i64 0, .int .i64 0, .int .i64 1, .int .i64 2, .int .i64 3] 3)).alloc (.cells #[.int .i64 x, .int .i64 30, .int .i64 31, .int .i64 (-1)] 3)).far (p := ⟨w.heap.size, 0, none⟩) (by show _ ≠ w.heap.size; omega) (.slice A1 n1 c1)).far (p := ⟨w.heap.size, 1, none⟩) (by show _ ≠ w.heap.size; omega) (.slice A2 n2 c2)).cell 0, (((((K5.grown GZ (fun e => (by injection e with e; omega))).alloc (.cells #[.int .i64 0, .int .i64 0, .int .i64 0, .int .i64 0, .int .i64 1, .int .i64 2, .int .i64 3] 3)).alloc (.cells #[.int .i64 x, .int .i64 30, .int .i64 31, .int .i64 (-1)] 3)).far (p := ⟨w.heap.size, 0, none⟩) (by show _ ≠ w.heap.size; omega) (.slice A1 n1 c1)).far (p := ⟨w.heap.size, 1, none⟩) (by show _ ≠ w.heap.size; omega) (.slice A2 n2 c2)).cell 1⟩
                  clear hK K
                  (try simp only [Act.put, List.setIfInBounds_toArray, List.set_cons_zero, List.set_cons_succ])
                  refine wpAnyH_take (i := 12) (v := ?vv12_52) (by rw [List.getElem?_toArray]; exact rfl) (by kernel_rfl) (by kernel_rfl) (by kernel_rfl) (by intro _ _ _ h; exact h) (Or.inl ⟨by rfl, ?hy12_52⟩) hHeld ?rest12_52
                  case' hy12_52 => (intro w hSw; (try dsimp only at hSw); go_simp; try (with_reducible rfl))
                  (try simp only [Act.put, List.setIfInBounds_toArray, List.set_cons_zero, List.set_cons_succ])
                  refine wpAnyH_done (by kernel_rfl) ?_ _
                  go_wp2_with fail
                  go_meet
                  exact ⟨u, rfl, ub.1, ub.2, ((((Q.alloc (.cells #[.int .i64 0, .int .i64 0, .int .i64 0, .int .i64 0, .int .i64 1, .int .i64 2, .int .i64 3] 3)).alloc (.cells #[.int .i64 x, .int .i64 30, .int .i64 31, .int .i64 (-1)] 3)).set_ 0 (.slice A1 n1 c1)).set_ 1 (.slice A2 n2 c2)), ((((q1.alloc (.cells #[.int .i64 0, .int .i64 0, .int .i64 0, .int .i64 0, .int .i64 1, .int .i64 2, .int .i64 3] 3)).alloc (.cells #[.int .i64 x, .int .i64 30, .int .i64 31, .int .i64 (-1)] 3)).set_low (p := ⟨w.heap.size, 0, none⟩) (by show w.heap.size < _; omega) (.slice A1 n1 c1)).set_low (p := ⟨w.heap.size, 1, none⟩) (by show w.heap.size < _; omega) (.slice A2 n2 c2)).mono (by omega), ((((q2.alloc (.cells #[.int .i64 0, .int .i64 0, .int .i64 0, .int .i64 0, .int .i64 1, .int .i64 2, .int .i64 3] 3)).alloc (.cells #[.int .i64 x, .int .i64 30, .int .i64 31, .int .i64 (-1)] 3)).set_low (p := ⟨w.heap.size, 0, none⟩) (by show w.heap.size < _; omega) (.slice A1 n1 c1)).set_low (p := ⟨w.heap.size, 1, none⟩) (by show w.heap.size < _; omega) (.slice A2 n2 c2)).mono (by omega), ((((((BX).alloc (BX).size (.cells #[.int .i64 0, .int .i64 0, .int .i64 0, .int .i64 0, .int .i64 1, .int .i64 2, .int .i64 3] 3))).alloc (((BX).alloc (BX).size (.cells #[.int .i64 0, .int .i64 0, .int .i64 0, .int .i64 0, .int .i64 1, .int .i64 2, .int .i64 3] 3))).size (.cells #[.int .i64 x, .int .i64 30, .int .i64 31, .int .i64 (-1)] 3)).setCell (p := ⟨w.heap.size, 0, none⟩) (Nat.le_refl _) (.slice A1 n1 c1)).setCell (p := ⟨w.heap.size, 1, none⟩) (Nat.le_refl _) (.slice A2 n2 c2))⟩
                exact AllReadyH.nil
              exact AllReadyH.nil
            refine AllReadyH.cons (by rw [List.getElem?_toArray]; exact rfl) (fun K hK => ?_) ?_
            · obtain ⟨d0, d1, d2, d3⟩ := (((Q.alloc (.cells #[.int .i64 0, .int .i64 0, .int .i64 0, .int .i64 0, .int .i64 1, .int .i64 2, .int .i64 3] 3)).alloc (.cells #[.int .i64 x, .int .i64 30, .int .i64 31, .int .i64 (-1)] 3))).two
              go_simp
              refine hK.out _ _ ?_ (fun hHeld => ?_)
              · exact ⟨(((((K5.grown GZ (fun e => (by injection e with e; omega))).alloc (.cells #[.int .i64 0, .int .i64 0, .int .i64 0, .int .i64 0, .int .i64 1, .int .i64 2, .int .i64 3] 3)).alloc (.cells #[.int .i64 x, .int .i64 30, .int .i64 31, .int .i64 (-1)] 3)).far (p := ⟨w.heap.size, 0, none⟩) (by show _ ≠ w.heap.size; omega) (.slice A1 n1 c1)).far (p := ⟨w.heap.size, 1, none⟩) (by show _ ≠ w.heap.size; omega) (.slice A2 n2 c2)).cell 0, (((((K5.grown GZ (fun e => (by injection e with e; omega))).alloc (.cells #[.int .i64 0, .int .i64 0, .int .i64 0, .int .i64 0, .int .i64 1, .int .i64 2, .int .i64 3] 3)).alloc (.cells #[.int .i64 x, .int .i64 30, .int .i64 31, .int .i64 (-1)] 3)).far (p := ⟨w.heap.size, 0, none⟩) (by show _ ≠ w.heap.size; omega) (.slice A1 n1 c1)).far (p := ⟨w.heap.size, 1, none⟩) (by show _ ≠ w.heap.size; omega) (.slice A2 n2 c2)).cell 1⟩
              clear hK K
              (try simp only [Act.put, List.setIfInBounds_toArray, List.set_cons_zero, List.set_cons_succ])
              refine wpAnyH_ready (rs := [8]) (by kernel_rfl) (by simp) ?_
              refine AllReadyH.cons (by rw [List.getElem?_toArray]; exact rfl) (fun K hK => ?_) ?_
              · have f18 := (((((blkAt (w := wq) (g := wq.heap.size) rfl 3 #[.int .i64 0, .int .i64 0, .int .i64 0, .int .i64 0, .int .i64 1, .int .i64 2, .int .i64 3]).alloc (.cells #[.int .i64 x, .int .i64 30, .int .i64 31, .int .i64 (-1)] 3)).far (p := ⟨w.heap.size, 0, none⟩) (by show _ ≠ w.heap.size; omega) (.slice A1 n1 c1)).far (p := ⟨w.heap.size, 1, none⟩) (by show _ ≠ w.heap.size; omega) (.slice A2 n2 c2)).cell yn).trans tv
                go_simp
                refine hK.out _ _ ?_ (fun hHeld => ?_)
                · exact ⟨(((((K5.grown GZ (fun e => (by injection e with e; omega))).alloc (.cells #[.int .i64 0, .int .i64 0, .int .i64 0, .int .i64 0, .int .i64 1, .int .i64 2, .int .i64 3] 3)).alloc (.cells #[.int .i64 x, .int .i64 30, .int .i64 31, .int .i64 (-1)] 3)).far (p := ⟨w.heap.size, 0, none⟩) (by show _ ≠ w.heap.size; omega) (.slice A1 n1 c1)).far (p := ⟨w.heap.size, 1, none⟩) (by show _ ≠ w.heap.size; omega) (.slice A2 n2 c2)).cell 0, (((((K5.grown GZ (fun e => (by injection e with e; omega))).alloc (.cells #[.int .i64 0, .int .i64 0, .int .i64 0, .int .i64 0, .int .i64 1, .int .i64 2, .int .i64 3] 3)).alloc (.cells #[.int .i64 x, .int .i64 30, .int .i64 31, .int .i64 (-1)] 3)).far (p := ⟨w.heap.size, 0, none⟩) (by show _ ≠ w.heap.size; omega) (.slice A1 n1 c1)).far (p := ⟨w.heap.size, 1, none⟩) (by show _ ≠ w.heap.size; omega) (.slice A2 n2 c2)).cell 1⟩
                clear hK K
                (try simp only [Act.put, List.setIfInBounds_toArray, List.set_cons_zero, List.set_cons_succ])
                refine wpAnyH_take (i := 9) (v := ?vv9_53) (by rw [List.getElem?_toArray]; exact rfl) (by kernel_rfl) (by kernel_rfl) (by kernel_rfl) (by intro _ _ _ h; exact h) (Or.inl ⟨by rfl, ?hy9_53⟩) hHeld ?rest9_53
                case' hy9_53 => (intro w hSw; (try dsimp only at hSw); go_simp; try (with_reducible rfl))
                (try simp only [Act.put, List.setIfInBounds_toArray, List.set_cons_zero, List.set_cons_succ])
                refine wpAnyH_ready (rs := [10]) (by kernel_rfl) (by simp) ?_
                refine AllReadyH.cons (by rw [List.getElem?_toArray]; exact rfl) (fun K hK => ?_) ?_
                · have f20 := ((((blkAt (w := (wq.alloc (.cells #[.int .i64 0, .int .i64 0, .int .i64 0, .int .i64 0, .int .i64 1, .int .i64 2, .int .i64 3] 3))) (g := wq.heap.size + 1) (by simp only [World.size_alloc, size_setCell]) 3 #[.int .i64 x, .int .i64 30, .int .i64 31, .int .i64 (-1)]).far (p := ⟨w.heap.size, 0, none⟩) (by show _ ≠ w.heap.size; omega) (.slice A1 n1 c1)).far (p := ⟨w.heap.size, 1, none⟩) (by show _ ≠ w.heap.size; omega) (.slice A2 n2 c2)).cell v).trans ru
                  go_simp
                  refine hK.out _ _ ?_ (fun hHeld => ?_)
                  · exact ⟨(((((K5.grown GZ (fun e => (by injection e with e; omega))).alloc (.cells #[.int .i64 0, .int .i64 0, .int .i64 0, .int .i64 0, .int .i64 1, .int .i64 2, .int .i64 3] 3)).alloc (.cells #[.int .i64 x, .int .i64 30, .int .i64 31, .int .i64 (-1)] 3)).far (p := ⟨w.heap.size, 0, none⟩) (by show _ ≠ w.heap.size; omega) (.slice A1 n1 c1)).far (p := ⟨w.heap.size, 1, none⟩) (by show _ ≠ w.heap.size; omega) (.slice A2 n2 c2)).cell 0, (((((K5.grown GZ (fun e => (by injection e with e; omega))).alloc (.cells #[.int .i64 0, .int .i64 0, .int .i64 0, .int .i64 0, .int .i64 1, .int .i64 2, .int .i64 3] 3)).alloc (.cells #[.int .i64 x, .int .i64 30, .int .i64 31, .int .i64 (-1)] 3)).far (p := ⟨w.heap.size, 0, none⟩) (by show _ ≠ w.heap.size; omega) (.slice A1 n1 c1)).far (p := ⟨w.heap.size, 1, none⟩) (by show _ ≠ w.heap.size; omega) (.slice A2 n2 c2)).cell 1⟩
                  clear hK K
                  (try simp only [Act.put, List.setIfInBounds_toArray, List.set_cons_zero, List.set_cons_succ])
                  refine wpAnyH_take (i := 12) (v := ?vv12_54) (by rw [List.getElem?_toArray]; exact rfl) (by kernel_rfl) (by kernel_rfl) (by kernel_rfl) (by intro _ _ _ h; exact h) (Or.inl ⟨by rfl, ?hy12_54⟩) hHeld ?rest12_54
                  case' hy12_54 => (intro w hSw; (try dsimp only at hSw); go_simp; try (with_reducible rfl))
                  (try simp only [Act.put, List.setIfInBounds_toArray, List.set_cons_zero, List.set_cons_succ])
                  refine wpAnyH_done (by kernel_rfl) ?_ _
                  go_wp2_with fail
                  go_meet
                  exact ⟨u, rfl, ub.1, ub.2, ((((Q.alloc (.cells #[.int .i64 0, .int .i64 0, .int .i64 0, .int .i64 0, .int .i64 1, .int .i64 2, .int .i64 3] 3)).alloc (.cells #[.int .i64 x, .int .i64 30, .int .i64 31, .int .i64 (-1)] 3)).set_ 0 (.slice A1 n1 c1)).set_ 1 (.slice A2 n2 c2)), ((((q1.alloc (.cells #[.int .i64 0, .int .i64 0, .int .i64 0, .int .i64 0, .int .i64 1, .int .i64 2, .int .i64 3] 3)).alloc (.cells #[.int .i64 x, .int .i64 30, .int .i64 31, .int .i64 (-1)] 3)).set_low (p := ⟨w.heap.size, 0, none⟩) (by show w.heap.size < _; omega) (.slice A1 n1 c1)).set_low (p := ⟨w.heap.size, 1, none⟩) (by show w.heap.size < _; omega) (.slice A2 n2 c2)).mono (by omega), ((((q2.alloc (.cells #[.int .i64 0, .int .i64 0, .int .i64 0, .int .i64 0, .int .i64 1, .int .i64 2, .int .i64 3] 3)).alloc (.cells #[.int .i64 x, .int .i64 30, .int .i64 31, .int .i64 (-1)] 3)).set_low (p := ⟨w.heap.size, 0, none⟩) (by show w.heap.size < _; omega) (.slice A1 n1 c1)).set_low (p := ⟨w.heap.size, 1, none⟩) (by show w.heap.size < _; omega) (.slice A2 n2 c2)).mono (by omega), ((((((BX).alloc (BX).size (.cells #[.int .i64 0, .int .i64 0, .int .i64 0, .int .i64 0, .int .i64 1, .int .i64 2, .int .i64 3] 3))).alloc (((BX).alloc (BX).size (.cells #[.int .i64 0, .int .i64 0, .int .i64 0, .int .i64 0, .int .i64 1, .int .i64 2, .int .i64 3] 3))).size (.cells #[.int .i64 x, .int .i64 30, .int .i64 31, .int .i64 (-1)] 3)).setCell (p := ⟨w.heap.size, 0, none⟩) (Nat.le_refl _) (.slice A1 n1 c1)).setCell (p := ⟨w.heap.size, 1, none⟩) (Nat.le_refl _) (.slice A2 n2 c2))⟩
                exact AllReadyH.nil
              exact AllReadyH.nil
            exact AllReadyH.nil
          refine AllReadyH.cons (by rw [List.getElem?_toArray]; exact rfl) (fun K hK => ?_) ?_
          · have f18 := ((blkAt (w := wq) (g := wq.heap.size) rfl 3 #[.int .i64 0, .int .i64 0, .int .i64 0, .int .i64 0, .int .i64 1, .int .i64 2, .int .i64 3]).cell yn).trans tv
            go_simp
            refine hK.out _ _ ?_ (fun hHeld => ?_)
            · exact ⟨((K5.grown GZ (fun e => (by injection e with e; omega))).alloc (.cells #[.int .i64 0, .int .i64 0, .int .i64 0, .int .i64 0, .int .i64 1, .int .i64 2, .int .i64 3] 3)).cell 0, ((K5.grown GZ (fun e => (by injection e with e; omega))).alloc (.cells #[.int .i64 0, .int .i64 0, .int .i64 0, .int .i64 0, .int .i64 1, .int .i64 2, .int .i64 3] 3)).cell 1⟩
            clear hK K
            (try simp only [Act.put, List.setIfInBounds_toArray, List.set_cons_zero, List.set_cons_succ])
            refine wpAnyH_ready (rs := [3, 11]) (by kernel_rfl) (by simp) ?_
            refine AllReadyH.cons (by rw [List.getElem?_toArray]; exact rfl) (fun K hK => ?_) ?_
            · go_simp
              refine hK.out _ _ ?_ (fun hHeld => ?_)
              · exact ⟨(((K5.grown GZ (fun e => (by injection e with e; omega))).alloc (.cells #[.int .i64 0, .int .i64 0, .int .i64 0, .int .i64 0, .int .i64 1, .int .i64 2, .int .i64 3] 3)).alloc (.cells #[.int .i64 x, .int .i64 30, .int .i64 31, .int .i64 (-1)] 3)).cell 0, (((K5.grown GZ (fun e => (by injection e with e; omega))).alloc (.cells #[.int .i64 0, .int .i64 0, .int .i64 0, .int .i64 0, .int .i64 1, .int .i64 2, .int .i64 3] 3)).alloc (.cells #[.int .i64 x, .int .i64 30, .int .i64 31, .int .i64 (-1)] 3)).cell 1⟩
              clear hK K
              (try simp only [Act.put, List.setIfInBounds_toArray, List.set_cons_zero, List.set_cons_succ])
              refine wpAnyH_take (i := 9) (v := ?vv9_55) (by rw [List.getElem?_toArray]; exact rfl) (by kernel_rfl) (by kernel_rfl) (by kernel_rfl) (by intro _ _ _ h; exact h) (Or.inl ⟨by rfl, ?hy9_55⟩) hHeld ?rest9_55
              case' hy9_55 => (intro w hSw; (try dsimp only at hSw); go_simp; try (with_reducible rfl))
              (try simp only [Act.put, List.setIfInBounds_toArray, List.set_cons_zero, List.set_cons_succ])
              refine wpAnyH_ready (rs := [10, 11]) (by kernel_rfl) (by simp) ?_
              refine AllReadyH.cons (by rw [List.getElem?_toArray]; exact rfl) (fun K hK => ?_) ?_
              · have f20 := ((blkAt (w := (wq.alloc (.cells #[.int .i64 0, .int .i64 0, .int .i64 0, .int .i64 0, .int .i64 1, .int .i64 2, .int .i64 3] 3))) (g := wq.heap.size + 1) (by simp only [World.size_alloc, size_setCell]) 3 #[.int .i64 x, .int .i64 30, .int .i64 31, .int .i64 (-1)]).cell v).trans ru
                go_simp
                refine hK.out _ _ ?_ (fun hHeld => ?_)
                · exact ⟨(((K5.grown GZ (fun e => (by injection e with e; omega))).alloc (.cells #[.int .i64 0, .int .i64 0, .int .i64 0, .int .i64 0, .int .i64 1, .int .i64 2, .int .i64 3] 3)).alloc (.cells #[.int .i64 x, .int .i64 30, .int .i64 31, .int .i64 (-1)] 3)).cell 0, (((K5.grown GZ (fun e => (by injection e with e; omega))).alloc (.cells #[.int .i64 0, .int .i64 0, .int .i64 0, .int .i64 0, .int .i64 1, .int .i64 2, .int .i64 3] 3)).alloc (.cells #[.int .i64 x, .int .i64 30, .int .i64 31, .int .i64 (-1)] 3)).cell 1⟩
                clear hK K
                (try simp only [Act.put, List.setIfInBounds_toArray, List.set_cons_zero, List.set_cons_succ])
                refine wpAnyH_ready (rs := [11]) (by kernel_rfl) (by simp) ?_
                refine AllReadyH.cons (by rw [List.getElem?_toArray]; exact rfl) (fun K hK => ?_) ?_
                · obtain ⟨d0, d1, d2, d3⟩ := (((Q.alloc (.cells #[.int .i64 0, .int .i64 0, .int .i64 0, .int .i64 0, .int .i64 1, .int .i64 2, .int .i64 3] 3)).alloc (.cells #[.int .i64 x, .int .i64 30, .int .i64 31, .int .i64 (-1)] 3))).two
                  go_simp
                  refine hK.out _ _ ?_ (fun hHeld => ?_)
                  · exact ⟨(((((K5.grown GZ (fun e => (by injection e with e; omega))).alloc (.cells #[.int .i64 0, .int .i64 0, .int .i64 0, .int .i64 0, .int .i64 1, .int .i64 2, .int .i64 3] 3)).alloc (.cells #[.int .i64 x, .int .i64 30, .int .i64 31, .int .i64 (-1)] 3)).far (p := ⟨w.heap.size, 0, none⟩) (by show _ ≠ w.heap.size; omega) (.slice A1 n1 c1)).far (p := ⟨w.heap.size, 1, none⟩) (by show _ ≠ w.heap.size; omega) (.slice A2 n2 c2)).cell 0, (((((K5.grown GZ (fun e => (by injection e with e; omega))).alloc (.cells #[.int .i64 0, .int .i64 0, .int .i64 0, .int .i64 0, .int .i64 1, .int .i64 2, .int .i64 3] 3)).alloc (.cells #[.int .i64 x, .int .i64 30, .int .i64 31, .int .i64 (-1)] 3)).far (p := ⟨w.heap.size, 0, none⟩) (by show _ ≠ w.heap.size; omega) (.slice A1 n1 c1)).far (p := ⟨w.heap.size, 1, none⟩) (by show _ ≠ w.heap.size; omega) (.slice A2 n2 c2)).cell 1⟩
                  clear hK K
                  (try simp only [Act.put, List.setIfInBounds_toArray, List.set_cons_zero, List.set_cons_succ])
                  refine wpAnyH_take (i := 12) (v := ?vv12_56) (by rw [List.getElem?_toArray]; exact rfl) (by kernel_rfl) (by kernel_rfl) (by kernel_rfl) (by intro _ _ _ h; exact h) (Or.inl ⟨by rfl, ?hy12_56⟩) hHeld ?rest12_56
                  case' hy12_56 => (intro w hSw; (try dsimp only at hSw); go_simp; try (with_reducible rfl))
                  (try simp only [Act.put, List.setIfInBounds_toArray, List.set_cons_zero, List.set_cons_succ])
                  refine wpAnyH_done (by kernel_rfl) ?_ _
                  go_wp2_with fail
                  go_meet
                  exact ⟨u, rfl, ub.1, ub.2, ((((Q.alloc (.cells #[.int .i64 0, .int .i64 0, .int .i64 0, .int .i64 0, .int .i64 1, .int .i64 2, .int .i64 3] 3)).alloc (.cells #[.int .i64 x, .int .i64 30, .int .i64 31, .int .i64 (-1)] 3)).set_ 0 (.slice A1 n1 c1)).set_ 1 (.slice A2 n2 c2)), ((((q1.alloc (.cells #[.int .i64 0, .int .i64 0, .int .i64 0, .int .i64 0, .int .i64 1, .int .i64 2, .int .i64 3] 3)).alloc (.cells #[.int .i64 x, .int .i64 30, .int .i64 31, .int .i64 (-1)] 3)).set_low (p := ⟨w.heap.size, 0, none⟩) (by show w.heap.size < _; omega) (.slice A1 n1 c1)).set_low (p := ⟨w.heap.size, 1, none⟩) (by show w.heap.size < _; omega) (.slice A2 n2 c2)).mono (by omega), ((((q2.alloc (.cells #[.int .i64 0, .int .i64 0, .int .i64 0, .int .i64 0, .int .i64 1, .int .i64 2, .int .i64 3] 3)).alloc (.cells #[.int .i64 x, .int .i64 30, .int .i64 31, .int .i64 (-1)] 3)).set_low (p := ⟨w.heap.size, 0, none⟩) (by show w.heap.size < _; omega) (.slice A1 n1 c1)).set_low (p := ⟨w.heap.size, 1, none⟩) (by show w.heap.size < _; omega) (.slice A2 n2 c2)).mono (by omega), ((((((BX).alloc (BX).size (.cells #[.int .i64 0, .int .i64 0, .int .i64 0, .int .i64 0, .int .i64 1, .int .i64 2, .int .i64 3] 3))).alloc (((BX).alloc (BX).size (.cells #[.int .i64 0, .int .i64 0, .int .i64 0, .int .i64 0, .int .i64 1, .int .i64 2, .int .i64 3] 3))).size (.cells #[.int .i64 x, .int .i64 30, .int .i64 31, .int .i64 (-1)] 3)).setCell (p := ⟨w.heap.size, 0, none⟩) (Nat.le_refl _) (.slice A1 n1 c1)).setCell (p := ⟨w.heap.size, 1, none⟩) (Nat.le_refl _) (.slice A2 n2 c2))⟩
                exact AllReadyH.nil
              refine AllReadyH.cons (by rw [List.getElem?_toArray]; exact rfl) (fun K hK => ?_) ?_
              · obtain ⟨d0, d1, d2, d3⟩ := (((Q.alloc (.cells #[.int .i64 0, .int .i64 0, .int .i64 0, .int .i64 0, .int .i64 1, .int .i64 2, .int .i64 3] 3)).alloc (.cells #[.int .i64 x, .int .i64 30, .int .i64 31, .int .i64 (-1)] 3))).two
                go_simp
                refine hK.out _ _ ?_ (fun hHeld => ?_)
                · exact ⟨(((((K5.grown GZ (fun e => (by injection e with e; omega))).alloc (.cells #[.int .i64 0, .int .i64 0, .int .i64 0, .int .i64 0, .int .i64 1, .int .i64 2, .int .i64 3] 3)).alloc (.cells #[.int .i64 x, .int .i64 30, .int .i64 31, .int .i64 (-1)] 3)).far (p := ⟨w.heap.size, 0, none⟩) (by show _ ≠ w.heap.size; omega) (.slice A1 n1 c1)).far (p := ⟨w.heap.size, 1, none⟩) (by show _ ≠ w.heap.size; omega) (.slice A2 n2 c2)).cell 0, (((((K5.grown GZ (fun e => (by injection e with e; omega))).alloc (.cells #[.int .i64 0, .int .i64 0, .int .i64 0, .int .i64 0, .int .i64 1, .int .i64 2, .int .i64 3] 3)).alloc (.cells #[.int .i64 x, .int .i64 30, .int .i64 31, .int .i64 (-1)] 3)).far (p := ⟨w.heap.size, 0, none⟩) (by show _ ≠ w.heap.size; omega) (.slice A1 n1 c1)).far (p := ⟨w.heap.size, 1, none⟩) (by show _ ≠ w.heap.size; omega) (.slice A2 n2 c2)).cell 1⟩
                clear hK K
                (try simp only [Act.put, List.setIfInBounds_toArray, List.set_cons_zero, List.set_cons_succ])
                refine wpAnyH_ready (rs := [10]) (by kernel_rfl) (by simp) ?_
                refine AllReadyH.cons (by rw [List.getElem?_toArray]; exact rfl) (fun K hK => ?_) ?_
                · have f20 := ((((blkAt (w := (wq.alloc (.cells #[.int .i64 0, .int .i64 0, .int .i64 0, .int .i64 0, .int .i64 1, .int .i64 2, .int .i64 3] 3))) (g := wq.heap.size + 1) (by simp only [World.size_alloc, size_setCell]) 3 #[.int .i64 x, .int .i64 30, .int .i64 31, .int .i64 (-1)]).far (p := ⟨w.heap.size, 0, none⟩) (by show _ ≠ w.heap.size; omega) (.slice A1 n1 c1)).far (p := ⟨w.heap.size, 1, none⟩) (by show _ ≠ w.heap.size; omega) (.slice A2 n2 c2)).cell v).trans ru
                  go_simp
                  refine hK.out _ _ ?_ (fun hHeld => ?_)
                  · exact ⟨(((((K5.grown GZ (fun e => (by injection e with e; omega))).alloc (.cells #[.int .i64 0, .int .i64 0, .int .i64 0, .int .i64 0, .int .i64 1, .int .i64 2, .int .i64 3] 3)).alloc (.cells #[.int .i64 x, .int .i64 30, .int .i64 31, .int .i64 (-1)] 3)).far (p := ⟨w.heap.size, 0, none⟩) (by show _ ≠ w.heap.size; omega) (.slice A1 n1 c1)).far (p := ⟨w.heap.size, 1, none⟩) (by show _ ≠ w.heap.size; omega) (.slice A2 n2 c2)).cell 0, (((((K5.grown GZ (fun e => (by injection e with e; omega))).alloc (.cells #[.int .i64 0, .int .i64 0, .int .i64 0, .int .i64 0, .int .i64 1, .int .i64 2, .int .i64 3] 3)).alloc (.cells #[.int .i64 x, .int .i64 30, .int .i64 31, .int .i64 (-1)] 3)).far (p := ⟨w.heap.size, 0, none⟩) (by show _ ≠ w.heap.size; omega) (.slice A1 n1 c1)).far (p := ⟨w.heap.size, 1, none⟩) (by show _ ≠ w.heap.size; omega) (.slice A2 n2 c2)).cell 1⟩
                  clear hK K
                  (try simp only [Act.put, List.setIfInBounds_toArray, List.set_cons_zero, List.set_cons_succ])
                  refine wpAnyH_take (i := 12) (v := ?vv12_57) (by rw [List.getElem?_toArray]; exact rfl) (by kernel_rfl) (by kernel_rfl) (by kernel_rfl) (by intro _ _ _ h; exact h) (Or.inl ⟨by rfl, ?hy12_57⟩) hHeld ?rest12_57
                  case' hy12_57 => (intro w hSw; (try dsimp only at hSw); go_simp; try (with_reducible rfl))
                  (try simp only [Act.put, List.setIfInBounds_toArray, List.set_cons_zero, List.set_cons_succ])
                  refine wpAnyH_done (by kernel_rfl) ?_ _
                  go_wp2_with fail
                  go_meet
                  exact ⟨u, rfl, ub.1, ub.2, ((((Q.alloc (.cells #[.int .i64 0, .int .i64 0, .int .i64 0, .int .i64 0, .int .i64 1, .int .i64 2, .int .i64 3] 3)).alloc (.cells #[.int .i64 x, .int .i64 30, .int .i64 31, .int .i64 (-1)] 3)).set_ 0 (.slice A1 n1 c1)).set_ 1 (.slice A2 n2 c2)), ((((q1.alloc (.cells #[.int .i64 0, .int .i64 0, .int .i64 0, .int .i64 0, .int .i64 1, .int .i64 2, .int .i64 3] 3)).alloc (.cells #[.int .i64 x, .int .i64 30, .int .i64 31, .int .i64 (-1)] 3)).set_low (p := ⟨w.heap.size, 0, none⟩) (by show w.heap.size < _; omega) (.slice A1 n1 c1)).set_low (p := ⟨w.heap.size, 1, none⟩) (by show w.heap.size < _; omega) (.slice A2 n2 c2)).mono (by omega), ((((q2.alloc (.cells #[.int .i64 0, .int .i64 0, .int .i64 0, .int .i64 0, .int .i64 1, .int .i64 2, .int .i64 3] 3)).alloc (.cells #[.int .i64 x, .int .i64 30, .int .i64 31, .int .i64 (-1)] 3)).set_low (p := ⟨w.heap.size, 0, none⟩) (by show w.heap.size < _; omega) (.slice A1 n1 c1)).set_low (p := ⟨w.heap.size, 1, none⟩) (by show w.heap.size < _; omega) (.slice A2 n2 c2)).mono (by omega), ((((((BX).alloc (BX).size (.cells #[.int .i64 0, .int .i64 0, .int .i64 0, .int .i64 0, .int .i64 1, .int .i64 2, .int .i64 3] 3))).alloc (((BX).alloc (BX).size (.cells #[.int .i64 0, .int .i64 0, .int .i64 0, .int .i64 0, .int .i64 1, .int .i64 2, .int .i64 3] 3))).size (.cells #[.int .i64 x, .int .i64 30, .int .i64 31, .int .i64 (-1)] 3)).setCell (p := ⟨w.heap.size, 0, none⟩) (Nat.le_refl _) (.slice A1 n1 c1)).setCell (p := ⟨w.heap.size, 1, none⟩) (Nat.le_refl _) (.slice A2 n2 c2))⟩
                exact AllReadyH.nil
              exact AllReadyH.nil
            refine AllReadyH.cons (by rw [List.getElem?_toArray]; exact rfl) (fun K hK => ?_) ?_
            · obtain ⟨d0, d1, d2, d3⟩ := ((Q.alloc (.cells #[.int .i64 0, .int .i64 0, .int .i64 0, .int .i64 0, .int .i64 1, .int .i64 2, .int .i64 3] 3))).two
              go_simp
              refine hK.out _ _ ?_ (fun hHeld => ?_)
              · exact ⟨((((K5.grown GZ (fun e => (by injection e with e; omega))).alloc (.cells #[.int .i64 0, .int .i64 0, .int .i64 0, .int .i64 0, .int .i64 1, .int .i64 2, .int .i64 3] 3)).far (p := ⟨w.heap.size, 0, none⟩) (by show _ ≠ w.heap.size; omega) (.slice A1 n1 c1)).far (p := ⟨w.heap.size, 1, none⟩) (by show _ ≠ w.heap.size; omega) (.slice A2 n2 c2)).cell 0, ((((K5.grown GZ (fun e => (by injection e with e; omega))).alloc (.cells #[.int .i64 0, .int .i64 0, .int .i64 0, .int .i64 0, .int .i64 1, .int .i64 2, .int .i64 3] 3)).far (p := ⟨w.heap.size, 0, none⟩) (by show _ ≠ w.heap.size; omega) (.slice A1 n1 c1)).far (p := ⟨w.heap.size, 1, none⟩) (by show _ ≠ w.heap.size; omega) (.slice A2 n2 c2)).cell 1⟩
              clear hK K
              (try simp only [Act.put, List.setIfInBounds_toArray, List.set_cons_zero, List.set_cons_succ])
              refine wpAnyH_ready (rs := [3]) (by kernel_rfl) (by simp) ?_
              refine AllReadyH.cons (by rw [List.getElem?_toArray]; exact rfl) (fun K hK => ?_) ?_
              · go_simp
                refine hK.out _ _ ?_ (fun hHeld => ?_)
                · exact ⟨(((((K5.grown GZ (fun e => (by injection e with e; omega))).alloc (.cells #[.int .i64 0, .int .i64 0, .int .i64 0, .int .i64 0, .int .i64 1, .int .i64 2, .int .i64 3] 3)).far (p := ⟨w.heap.size, 0, none⟩) (by show _ ≠ w.heap.size; omega) (.slice A1 n1 c1)).far (p := ⟨w.heap.size, 1, none⟩) (by show _ ≠ w.heap.size; omega) (.slice A2 n2 c2)).alloc (.cells #[.int .i64 x, .int .i64 30, .int .i64 31, .int .i64 (-1)] 3)).cell 0, (((((K5.grown GZ (fun e => (by injection e with e; omega))).alloc (.cells #[.int .i64 0, .int .i64 0, .int .i64 0, .int .i64 0, .int .i64 1, .int .i64 2, .int .i64 3] 3)).far (p := ⟨w.heap.size, 0, none⟩) (by show _ ≠ w.heap.size; omega) (.slice A1 n1 c1)).far (p := ⟨w.heap.size, 1, none⟩) (by show _ ≠ w.heap.size; omega) (.slice A2 n2 c2)).alloc (.cells #[.int .i64 x, .int .i64 30, .int .i64 31, .int .i64 (-1)] 3)).cell 1⟩
                clear hK K
                (try simp only [Act.put, List.setIfInBounds_toArray, List.set_cons_zero, List.set_cons_succ])
                refine wpAnyH_take (i := 9) (v := ?vv9_58) (by rw [List.getElem?_toArray]; exact rfl) (by kernel_rfl) (by kernel_rfl) (by kernel_rfl) (by intro _ _ _ h; exact h) (Or.inl ⟨by rfl, ?hy9_58⟩) hHeld ?rest9_58
                case' hy9_58 => (intro w hSw; (try dsimp only at hSw); go_simp; try (with_reducible rfl))
                (try simp only [Act.put, List.setIfInBounds_toArray, List.set_cons_zero, List.set_cons_succ])
                refine wpAnyH_ready (rs := [10]) (by kernel_rfl) (by simp) ?_
                refine AllReadyH.cons (by rw [List.getElem?_toArray]; exact rfl) (fun K hK => ?_) ?_
                · have f20 := ((blkAt (w := (((wq.alloc (.cells #[.int .i64 0, .int .i64 0, .int .i64 0, .int .i64 0, .int .i64 1, .int .i64 2, .int .i64 3] 3)).setCell ⟨w.heap.size, 0, none⟩ (.slice A1 n1 c1)).setCell ⟨w.heap.size, 1, none⟩ (.slice A2 n2 c2))) (g := wq.heap.size + 1) (by simp only [World.size_alloc, size_setCell]) 3 #[.int .i64 x, .int .i64 30, .int .i64 31, .int .i64 (-1)]).cell v).trans ru
                  go_simp
                  refine hK.out _ _ ?_ (fun hHeld => ?_)
                  · exact ⟨(((((K5.grown GZ (fun e => (by injection e with e; omega))).alloc (.cells #[.int .i64 0, .int .i64 0, .int .i64 0, .int .i64 0, .int .i64 1, .int .i64 2, .int .i64 3] 3)).far (p := ⟨w.heap.size, 0, none⟩) (by show _ ≠ w.heap.size; omega) (.slice A1 n1 c1)).far (p := ⟨w.heap.size, 1, none⟩) (by show _ ≠ w.heap.size; omega) (.slice A2 n2 c2)).alloc (.cells #[.int .i64 x, .int .i64 30, .int .i64 31, .int .i64 (-1)] 3)).cell 0, (((((K5.grown GZ (fun e => (by injection e with e; omega))).alloc (.cells #[.int .i64 0, .int .i64 0, .int .i64 0, .int .i64 0, .int .i64 1, .int .i64 2, .int .i64 3] 3)).far (p := ⟨w.heap.size, 0, none⟩) (by show _ ≠ w.heap.size; omega) (.slice A1 n1 c1)).far (p := ⟨w.heap.size, 1, none⟩) (by show _ ≠ w.heap.size; omega) (.slice A2 n2 c2)).alloc (.cells #[.int .i64 x, .int .i64 30, .int .i64 31, .int .i64 (-1)] 3)).cell 1⟩
                  clear hK K
                  (try simp only [Act.put, List.setIfInBounds_toArray, List.set_cons_zero, List.set_cons_succ])
                  refine wpAnyH_take (i := 12) (v := ?vv12_59) (by rw [List.getElem?_toArray]; exact rfl) (by kernel_rfl) (by kernel_rfl) (by kernel_rfl) (by intro _ _ _ h; exact h) (Or.inl ⟨by rfl, ?hy12_59⟩) hHeld ?rest12_59
                  case' hy12_59 => (intro w hSw; (try dsimp only at hSw); go_simp; try (with_reducible rfl))
                  (try simp only [Act.put, List.setIfInBounds_toArray, List.set_cons_zero, List.set_cons_succ])
                  refine wpAnyH_done (by kernel_rfl) ?_ _
                  go_wp2_with fail
                  go_meet
                  exact ⟨u, rfl, ub.1, ub.2, ((((Q.alloc (.cells #[.int .i64 0, .int .i64 0, .int .i64 0, .int .i64 0, .int .i64 1, .int .i64 2, .int .i64 3] 3)).set_ 0 (.slice A1 n1 c1)).set_ 1 (.slice A2 n2 c2)).alloc (.cells #[.int .i64 x, .int .i64 30, .int .i64 31, .int .i64 (-1)] 3)), ((((q1.alloc (.cells #[.int .i64 0, .int .i64 0, .int .i64 0, .int .i64 0, .int .i64 1, .int .i64 2, .int .i64 3] 3)).set_low (p := ⟨w.heap.size, 0, none⟩) (by show w.heap.size < _; omega) (.slice A1 n1 c1)).set_low (p := ⟨w.heap.size, 1, none⟩) (by show w.heap.size < _; omega) (.slice A2 n2 c2)).alloc (.cells #[.int .i64 x, .int .i64 30, .int .i64 31, .int .i64 (-1)] 3)).mono (by omega), ((((q2.alloc (.cells #[.int .i64 0, .int .i64 0, .int .i64 0, .int .i64 0, .int .i64 1, .int .i64 2, .int .i64 3] 3)).set_low (p := ⟨w.heap.size, 0, none⟩) (by show w.heap.size < _; omega) (.slice A1 n1 c1)).set_low (p := ⟨w.heap.size, 1, none⟩) (by show w.heap.size < _; omega) (.slice A2 n2 c2)).alloc (.cells #[.int .i64 x, .int .i64 30, .int .i64 31, .int .i64 (-1)] 3)).mono (by omega), ((((((BX).alloc (BX).size (.cells #[.int .i64 0, .int .i64 0, .int .i64 0, .int .i64 0, .int .i64 1, .int .i64 2, .int .i64 3] 3)).setCell (p := ⟨w.heap.size, 0, none⟩) (Nat.le_refl _) (.slice A1 n1 c1)).setCell (p := ⟨w.heap.size, 1, none⟩) (Nat.le_refl _) (.slice A2 n2 c2))).alloc (((((BX).alloc (BX).size (.cells #[.int .i64 0, .int .i64 0, .int .i64 0, .int .i64 0, .int .i64 1, .int .i64 2, .int .i64 3] 3)).setCell (p := ⟨w.heap.size, 0, none⟩) (Nat.le_refl _) (.slice A1 n1 c1)).setCell (p := ⟨w.heap.size, 1, none⟩) (Nat.le_refl _) (.slice A2 n2 c2))).size (.cells #[.int .i64 x, .int .i64 30, .int .i64 31, .int .i64 (-1)] 3))⟩
                exact AllReadyH.nil
              exact AllReadyH.nil
            exact AllReadyH.nil
          refine AllReadyH.cons (by rw [List.getElem?_toArray]; exact rfl) (fun K hK => ?_) ?_
          · obtain ⟨d0, d1, d2, d3⟩ := ((Q.alloc (.cells #[.int .i64 0, .int .i64 0, .int .i64 0, .int .i64 0, .int .i64 1, .int .i64 2, .int .i64 3] 3))).two
            go_simp
            refine hK.out _ _ ?_ (fun hHeld => ?_)
            · exact ⟨((((K5.grown GZ (fun e => (by injection e with e; omega))).alloc (.cells #[.int .i64 0, .int .i64 0, .int .i64 0, .int .i64 0, .int .i64 1, .int .i64 2, .int .i64 3] 3)).far (p := ⟨w.heap.size, 0, none⟩) (by show _ ≠ w.heap.size; omega) (.slice A1 n1 c1)).far (p := ⟨w.heap.size, 1, none⟩) (by show _ ≠ w.heap.size; omega) (.slice A2 n2 c2)).cell 0, ((((K5.grown GZ (fun e => (by injection e with e; omega))).alloc (.cells #[.int .i64 0, .int .i64 0, .int .i64 0, .int .i64 0, .int .i64 1, .int .i64 2, .int .i64 3] 3)).far (p := ⟨w.heap.size, 0, none⟩) (by show _ ≠ w.heap.size; omega) (.slice A1 n1 c1)).far (p := ⟨w.heap.size, 1, none⟩) (by show _ ≠ w.heap.size; omega) (.slice A2 n2 c2)).cell 1⟩
            clear hK K
            (try simp only [Act.put, List.setIfInBounds_toArray, List.set_cons_zero, List.set_cons_succ])
            refine wpAnyH_ready (rs := [3, 8]) (by kernel_rfl) (by simp) ?_
            refine AllReadyH.cons (by rw [List.getElem?_toArray]; exact rfl) (fun K hK => ?_) ?_
            · go_simp
              refine hK.out _ _ ?_ (fun hHeld => ?_)
              · exact ⟨(((((K5.grown GZ (fun e => (by injection e with e; omega))).alloc (.cells #[.int .i64 0, .int .i64 0, .int .i64 0, .int .i64 0, .int .i64 1, .int .i64 2, .int .i64 3] 3)).far (p := ⟨w.heap.size, 0, none⟩) (by show _ ≠ w.heap.size; omega) (.slice A1 n1 c1)).far (p := ⟨w.heap.size, 1, none⟩) (by show _ ≠ w.heap.size; omega) (.slice A2 n2 c2)).alloc (.cells #[.int .i64 x, .int .i64 30, .int .i64 31, .int .i64 (-1)] 3)).cell 0, (((((K5.grown GZ (fun e => (by injection e with e; omega))).alloc (.cells #[.int .i64 0, .int .i64 0, .int .i64 0, .int .i64 0, .int .i64 1, .int .i64 2, .int .i64 3] 3)).far (p := ⟨w.heap.size, 0, none⟩) (by show _ ≠ w.heap.size; omega) (.slice A1 n1 c1)).far (p := ⟨w.heap.size, 1, none⟩) (by show _ ≠ w.heap.size; omega) (.slice A2 n2 c2)).alloc (.cells #[.int .i64 x, .int .i64 30, .int .i64 31, .int .i64 (-1)] 3)).cell 1⟩
              clear hK K
              (try simp only [Act.put, List.setIfInBounds_toArray, List.set_cons_zero, List.set_cons_succ])
              refine wpAnyH_ready (rs := [8]) (by kernel_rfl) (by simp) ?_
              refine AllReadyH.cons (by rw [List.getElem?_toArray]; exact rfl) (fun K hK => ?_) ?_
              · have f18 := (((((blkAt (w := wq) (g := wq.heap.size) rfl 3 #[.int .i64 0, .int .i64 0, .int .i64 0, .int .i64 0, .int .i64 1, .int .i64 2, .int .i64 3]).far (p := ⟨w.heap.size, 0, none⟩) (by show _ ≠ w.heap.size; omega) (.slice A1 n1 c1)).far (p := ⟨w.heap.size, 1, none⟩) (by show _ ≠ w.heap.size; omega) (.slice A2 n2 c2)).alloc (.cells #[.int .i64 x, .int .i64 30, .int .i64 31, .int .i64 (-1)] 3)).cell yn).trans tv
                go_simp
                refine hK.out _ _ ?_ (fun hHeld => ?_)
                · exact ⟨(((((K5.grown GZ (fun e => (by injection e with e; omega))).alloc (.cells #[.int .i64 0, .int .i64 0, .int .i64 0, .int .i64 0, .int .i64 1, .int .i64 2, .int .i64 3] 3)).far (p := ⟨w.heap.size, 0, none⟩) (by show _ ≠ w.heap.size; omega) (.slice A1 n1 c1)).far (p := ⟨w.heap.size, 1, none⟩) (by show _ ≠ w.heap.size; omega) (.slice A2 n2 c2)).alloc (.cells #[.int .i64 x, .int .i64 30, .int .i64 31, .int .i64 (-1)] 3)).cell 0, (((((K5.grown GZ (fun e => (by injection e with e; omega))).alloc (.cells #[.int .i64 0, .int .i64 0, .int .i64 0, .int .i64 0, .int .i64 1, .int .i64 2, .int .i64 3] 3)).far (p := ⟨w.heap.size, 0, none⟩) (by show _ ≠ w.heap.size; omega) (.slice A1 n1 c1)).far (p := ⟨w.heap.size, 1, none⟩) (by show _ ≠ w.heap.size; omega) (.slice A2 n2 c2)).alloc (.cells #[.int .i64 x, .int .i64 30, .int .i64 31, .int .i64 (-1)] 3)).cell 1⟩
                clear hK K
                (try simp only [Act.put, List.setIfInBounds_toArray, List.set_cons_zero, List.set_cons_succ])
                refine wpAnyH_take (i := 9) (v := ?vv9_60) (by rw [List.getElem?_toArray]; exact rfl) (by kernel_rfl) (by kernel_rfl) (by kernel_rfl) (by intro _ _ _ h; exact h) (Or.inl ⟨by rfl, ?hy9_60⟩) hHeld ?rest9_60
                case' hy9_60 => (intro w hSw; (try dsimp only at hSw); go_simp; try (with_reducible rfl))
                (try simp only [Act.put, List.setIfInBounds_toArray, List.set_cons_zero, List.set_cons_succ])
                refine wpAnyH_ready (rs := [10]) (by kernel_rfl) (by simp) ?_
                refine AllReadyH.cons (by rw [List.getElem?_toArray]; exact rfl) (fun K hK => ?_) ?_
                · have f20 := ((blkAt (w := (((wq.alloc (.cells #[.int .i64 0, .int .i64 0, .int .i64 0, .int .i64 0, .int .i64 1, .int .i64 2, .int .i64 3] 3)).setCell ⟨w.heap.size, 0, none⟩ (.slice A1 n1 c1)).setCell ⟨w.heap.size, 1, none⟩ (.slice A2 n2 c2))) (g := wq.heap.size + 1) (by simp only [World.size_alloc, size_setCell]) 3 #[.int .i64 x, .int .i64 30, .int .i64 31, .int .i64 (-1)]).cell v).trans ru
                  go_simp
                  refine hK.out _ _ ?_ (fun hHeld => ?_)
                  · exact ⟨(((((K5.grown GZ (fun e => (by injection e with e; omega))).alloc (.cells #[.int .i64 0, .int .i64 0, .int .i64 0, .int .i64 0, .int .i64 1, .int .i64 2, .int .i64 3] 3)).far (p := ⟨w.heap.size, 0, none⟩) (by show _ ≠ w.heap.size; omega) (.slice A1 n1 c1)).far (p := ⟨w.heap.size, 1, none⟩) (by show _ ≠ w.heap.size; omega) (.slice A2 n2 c2)).alloc (.cells #[.int .i64 x, .int .i64 30, .int .i64 31, .int .i64 (-1)] 3)).cell 0, (((((K5.grown GZ (fun e => (by injection e with e; omega))).alloc (.cells #[.int .i64 0, .int .i64 0, .int .i64 0, .int .i64 0, .int .i64 1, .int .i64 2, .int .i64 3] 3)).far (p := ⟨w.heap.size, 0, none⟩) (by show _ ≠ w.heap.size; omega) (.slice A1 n1 c1)).far (p := ⟨w.heap.size, 1, none⟩) (by show _ ≠ w.heap.size; omega) (.slice A2 n2 c2)).alloc (.cells #[.int .i64 x, .int .i64 30, .int .i64 31, .int .i64 (-1)] 3)).cell 1⟩
                  clear hK K
                  (try simp only [Act.put, List.setIfInBounds_toArray, List.set_cons_zero, List.set_cons_succ])
                  refine wpAnyH_take (i := 12) (v := ?vv12_61) (by rw [List.getElem?_toArray]; exact rfl) (by kernel_rfl) (by kernel_rfl) (by kernel_rfl) (by intro _ _ _ h; exact h) (Or.inl ⟨by rfl, ?hy12_61⟩) hHeld ?rest12_61
                  case' hy12_61 => (intro w hSw; (try dsimp only at hSw); go_simp; try (with_reducible rfl))
                  (try simp only [Act.put, List.setIfInBounds_toArray, List.set_cons_zero, List.set_cons_succ])
                  refine wpAnyH_done (by kernel_rfl) ?_ _
                  go_wp2_with fail
                  go_meet
                  exact ⟨u, rfl, ub.1, ub.2, ((((Q.alloc (.cells #[.int .i64 0, .int .i64 0, .int .i64 0, .int .i64 0, .int .i64 1, .int .i64 2, .int .i64 3] 3)).set_ 0 (.slice A1 n1 c1)).set_ 1 (.slice A2 n2 c2)).alloc (.cells #[.int .i64 x, .int .i64 30, .int .i64 31, .int .i64 (-1)] 3)), ((((q1.alloc (.cells #[.int .i64 0, .int .i64 0, .int .i64 0, .int .i64 0, .int .i64 1, .int .i64 2, .int .i64 3] 3)).set_low (p := ⟨w.heap.size, 0, none⟩) (by show w.heap.size < _; omega) (.slice A1 n1 c1)).set_low (p := ⟨w.heap.size, 1, none⟩) (by show w.heap.size < _; omega) (.slice A2 n2 c2)).alloc (.cells #[.int .i64 x, .int .i64 30, .int .i64 31, .int .i64 (-1)] 3)).mono (by omega), ((((q2.alloc (.cells #[.int .i64 0, .int .i64 0, .int .i64 0, .int .i64 0, .int .i64 1, .int .i64 2, .int .i64 3] 3)).set_low (p := ⟨w.heap.size, 0, none⟩) (by show w.heap.size < _; omega) (.slice A1 n1 c1)).set_low (p := ⟨w.heap.size, 1, none⟩) (by show w.heap.size < _; omega) (.slice A2 n2 c2)).alloc (.cells #[.int .i64 x, .int .i64 30, .int .i64 31, .int .i64 (-1)] 3)).mono (by omega), ((((((BX).alloc (BX).size (.cells #[.int .i64 0, .int .i64 0, .int .i64 0, .int .i64 0, .int .i64 1, .int .i64 2, .int .i64 3] 3)).setCell (p := ⟨w.heap.size, 0, none⟩) (Nat.le_refl _) (.slice A1 n1 c1)).setCell (p := ⟨w.heap.size, 1, none⟩) (Nat.le_refl _) (.slice A2 n2 c2))).alloc (((((BX).alloc (BX).size (.cells #[.int .i64 0, .int .i64 0, .int .i64 0, .int .i64 0, .int .i64 1, .int .i64 2, .int .i64 3] 3)).setCell (p := ⟨w.heap.size, 0, none⟩) (Nat.le_refl _) (.slice A1 n1 c1)).setCell (p := ⟨w.heap.size, 1, none⟩) (Nat.le_refl _) (.slice A2 n2 c2))).size (.cells #[.int .i64 x, .int .i64 30, .int .i64 31, .int .i64 (-1)] 3))⟩
                exact AllReadyH.nil
              exact AllReadyH.nil
            refine AllReadyH.cons (by rw [List.getElem?_toArray]; exact rfl) (fun K hK => ?_) ?_
            · have f18 := ((((blkAt (w := wq) (g := wq.heap.size) rfl 3 #[.int .i64 0, .int .i64 0, .int .i64 0, .int .i64 0, .int .i64 1, .int .i64 2, .int .i64 3]).far (p := ⟨w.heap.size, 0, none⟩) (by show _ ≠ w.heap.size; omega) (.slice A1 n1 c1)).far (p := ⟨w.heap.size, 1, none⟩) (by show _ ≠ w.heap.size; omega) (.slice A2 n2 c2)).cell yn).trans tv
              go_simp
              refine hK.out _ _ ?_ (fun hHeld => ?_)
              · exact ⟨((((K5.grown GZ (fun e => (by injection e with e; omega))).alloc (.cells #[.int .i64 0, .int .i64 0, .int .i64 0, .int .i64 0, .int .i64 1, .int .i64 2, .int .i64 3] 3)).far (p := ⟨w.heap.size, 0, none⟩) (by show _ ≠ w.heap.size; omega) (.slice A1 n1 c1)).far (p := ⟨w.heap.size, 1, none⟩) (by show _ ≠ w.heap.size; omega) (.slice A2 n2 c2)).cell 0, ((((K5.grown GZ (fun e => (by injection e with e; omega))).alloc (.cells #[.int .i64 0, .int .i64 0, .int .i64 0, .int .i64 0, .int .i64 1, .int .i64 2, .int .i64 3] 3)).far (p := ⟨w.heap.size, 0, none⟩) (by show _ ≠ w.heap.size; omega) (.slice A1 n1 c1)).far (p := ⟨w.heap.size, 1, none⟩) (by show _ ≠ w.heap.size; omega) (.slice A2 n2 c2)).cell 1⟩
              clear hK K
              (try simp only [Act.put, List.setIfInBounds_toArray, List.set_cons_zero, List.set_cons_succ])
              refine wpAnyH_ready (rs := [3]) (by kernel_rfl) (by simp) ?_
              refine AllReadyH.cons (by rw [List.getElem?_toArray]; exact rfl) (fun K hK => ?_) ?_
              · go_simp
                refine hK.out _ _ ?_ (fun hHeld => ?_)
                · exact ⟨(((((K5.grown GZ (fun e => (by injection e with e; omega))).alloc (.cells #[.int .i64 0, .int .i64 0, .int .i64 0, .int .i64 0, .int .i64 1, .int .i64 2, .int .i64 3] 3)).far (p := ⟨w.heap.size, 0, none⟩) (by show _ ≠ w.heap.size; omega) (.slice A1 n1 c1)).far (p := ⟨w.heap.size, 1, none⟩) (by show _ ≠ w.heap.size; omega) (.slice A2 n2 c2)).alloc (.cells #[.int .i64 x, .int .i64 30, .int .i64 31, .int .i64 (-1)] 3)).cell 0, (((((K5.grown GZ (fun e => (by injection e with e; omega))).alloc (.cells #[.int .i64 0, .int .i64 0, .int .i64 0, .int .i64 0, .int .i64 1, .int .i64 2, .int .i64 3] 3)).far (p := ⟨w.heap.size, 0, none⟩) (by show _ ≠ w.heap.size; omega) (.slice A1 n1 c1)).far (p := ⟨w.heap.size, 1, none⟩) (by show _ ≠ w.heap.size; omega) (.slice A2 n2 c2)).alloc (.cells #[.int .i64 x, .int .i64 30, .int .i64 31, .int .i64 (-1)] 3)).cell 1⟩
                clear hK K
                (try simp only [Act.put, List.setIfInBounds_toArray, List.set_cons_zero, List.set_cons_succ])
                refine wpAnyH_take (i := 9) (v := ?vv9_62) (by rw [List.getElem?_toArray]; exact rfl) (by kernel_rfl) (by kernel_rfl) (by kernel_rfl) (by intro _ _ _ h; exact h) (Or.inl ⟨by rfl, ?hy9_62⟩) hHeld ?rest9_62
                case' hy9_62 => (intro w hSw; (try dsimp only at hSw); go_simp; try (with_reducible rfl))
                (try simp only [Act.put, List.setIfInBounds_toArray, List.set_cons_zero, List.set_cons_succ])
                refine wpAnyH_ready (rs := [10]) (by kernel_rfl) (by simp) ?_
                refine AllReadyH.cons (by rw [List.getElem?_toArray]; exact rfl) (fun K hK => ?_) ?_
                · have f20 := ((blkAt (w := (((wq.alloc (.cells #[.int .i64 0, .int .i64 0, .int .i64 0, .int .i64 0, .int .i64 1, .int .i64 2, .int .i64 3] 3)).setCell ⟨w.heap.size, 0, none⟩ (.slice A1 n1 c1)).setCell ⟨w.heap.size, 1, none⟩ (.slice A2 n2 c2))) (g := wq.heap.size + 1) (by simp only [World.size_alloc, size_setCell]) 3 #[.int .i64 x, .int .i64 30, .int .i64 31, .int .i64 (-1)]).cell v).trans ru
                  go_simp
                  refine hK.out _ _ ?_ (fun hHeld => ?_)
                  · exact ⟨(((((K5.grown GZ (fun e => (by injection e with e; omega))).alloc (.cells #[.int .i64 0, .int .i64 0, .int .i64 0, .int .i64 0, .int .i64 1, .int .i64 2, .int .i64 3] 3)).far (p := ⟨w.heap.size, 0, none⟩) (by show _ ≠ w.heap.size; omega) (.slice A1 n1 c1)).far (p := ⟨w.heap.size, 1, none⟩) (by show _ ≠ w.heap.size; omega) (.slice A2 n2 c2)).alloc (.cells #[.int .i64 x, .int .i64 30, .int .i64 31, .int .i64 (-1)] 3)).cell 0, (((((K5.grown GZ (fun e => (by injection e with e; omega))).alloc (.cells #[.int .i64 0, .int .i64 0, .int .i64 0, .int .i64 0, .int .i64 1, .int .i64 2, .int .i64 3] 3)).far (p := ⟨w.heap.size, 0, none⟩) (by show _ ≠ w.heap.size; omega) (.slice A1 n1 c1)).far (p := ⟨w.heap.size, 1, none⟩) (by show _ ≠ w.heap.size; omega) (.slice A2 n2 c2)).alloc (.cells #[.int .i64 x, .int .i64 30, .int .i64 31, .int .i64 (-1)] 3)).cell 1⟩
                  clear hK K
                  (try simp only [Act.put, List.setIfInBounds_toArray, List.set_cons_zero, List.set_cons_succ])
                  refine wpAnyH_take (i := 12) (v := ?vv12_63) (by rw [List.getElem?_toArray]; exact rfl) (by kernel_rfl) (by kernel_rfl) (by kernel_rfl) (by intro _ _ _ h; exact h) (Or.inl ⟨by rfl, ?hy12_63⟩) hHeld ?rest12_63
                  case' hy12_63 => (intro w hSw; (try dsimp only at hSw); go_simp; try (with_reducible rfl))
                  (try simp only [Act.put, List.setIfInBounds_toArray, List.set_cons_zero, List.set_cons_succ])
                  refine wpAnyH_done (by kernel_rfl) ?_ _
                  go_wp2_with fail
                  go_meet
                  exact ⟨u, rfl, ub.1, ub.2, ((((Q.alloc (.cells #[.int .i64 0, .int .i64 0, .int .i64 0, .int .i64 0, .int .i64 1, .int .i64 2, .int .i64 3] 3)).set_ 0 (.slice A1 n1 c1)).set_ 1 (.slice A2 n2 c2)).alloc (.cells #[.int .i64 x, .int .i64 30, .int .i64 31, .int .i64 (-1)] 3)), ((((q1.alloc (.cells #[.int .i64 0, .int .i64 0, .int .i64 0, .int .i64 0, .int .i64 1, .int .i64 2, .int .i64 3] 3)).set_low (p := ⟨w.heap.size, 0, none⟩) (by show w.heap.size < _; omega) (.slice A1 n1 c1)).set_low (p := ⟨w.heap.size, 1, none⟩) (by show w.heap.size < _; omega) (.slice A2 n2 c2)).alloc (.cells #[.int .i64 x, .int .i64 30, .int .i64 31, .int .i64 (-1)] 3)).mono (by omega), ((((q2.alloc (.cells #[.int .i64 0, .int .i64 0, .int .i64 0, .int .i64 0, .int .i64 1, .int .i64 2, .int .i64 3] 3)).set_low (p := ⟨w.heap.size, 0, none⟩) (by show w.heap.size < _; omega) (.slice A1 n1 c1)).set_low (p := ⟨w.heap.size, 1, none⟩) (by show w.heap.size < _; omega) (.slice A2 n2 c2)).alloc (.cells #[.int .i64 x, .int .i64 30, .int .i64 31, .int .i64 (-1)] 3)).mono (by omega), ((((((BX).alloc (BX).size (.cells #[.int .i64 0, .int .i64 0, .int .i64 0, .int .i64 0, .int .i64 1, .int .i64 2, .int .i64 3] 3)).setCell (p := ⟨w.heap.size, 0, none⟩) (Nat.le_refl _) (.slice A1 n1 c1)).setCell (p := ⟨w.heap.size, 1, none⟩) (Nat.le_refl _) (.slice A2 n2 c2))).alloc (((((BX).alloc (BX).size (.cells #[.int .i64 0, .int .i64 0, .int .i64 0, .int .i64 0, .int .i64 1, .int .i64 2, .int .i64 3] 3)).setCell (p := ⟨w.heap.size, 0, none⟩) (Nat.le_refl _) (.slice A1 n1 c1)).setCell (p := ⟨w.heap.size, 1, none⟩) (Nat.le_refl _) (.slice A2 n2 c2))).size (.cells #[.int .i64 x, .int .i64 30, .int .i64 31, .int .i64 (-1)] 3))⟩
                exact AllReadyH.nil
              exact AllReadyH.nil
            exact AllReadyH.nil
          exact AllReadyH.nil
        refine AllReadyH.cons (by rw [List.getElem?_toArray]; exact rfl) (fun K hK => ?_) ?_
        · obtain ⟨d0, d1, d2, d3⟩ := (Q).two
          go_simp
          refine hK.out _ _ ?_ (fun hHeld => ?_)
          · exact ⟨(((K5.grown GZ (fun e => (by injection e with e; omega))).far (p := ⟨w.heap.size, 0, none⟩) (by show _ ≠ w.heap.size; omega) (.slice A1 n1 c1)).far (p := ⟨w.heap.size, 1, none⟩) (by show _ ≠ w.heap.size; omega) (.slice A2 n2 c2)).cell 0, (((K5.grown GZ (fun e => (by injection e with e; omega))).far (p := ⟨w.heap.size, 0, none⟩) (by show _ ≠ w.heap.size; omega) (.slice A1 n1 c1)).far (p := ⟨w.heap.size, 1, none⟩) (by show _ ≠ w.heap.size; omega) (.slice A2 n2 c2)).cell 1⟩
          clear hK K
          (try simp only [Act.put, List.setIfInBounds_toArray, List.set_cons_zero, List.set_cons_succ])
          refine wpAnyH_ready (rs := [3, 4]) (by kernel_rfl) (by simp) ?_
          refine AllReadyH.cons (by rw [List.getElem?_toArray]; exact rfl) (fun K hK => ?_) ?_
          · go_simp
            refine hK.out _ _ ?_ (fun hHeld => ?_)
            · exact ⟨((((K5.grown GZ (fun e => (by injection e with e; omega))).far (p := ⟨w.heap.size, 0, none⟩) (by show _ ≠ w.heap.size; omega) (.slice A1 n1 c1)).far (p := ⟨w.heap.size, 1, none⟩) (by show _ ≠ w.heap.size; omega) (.slice A2 n2 c2)).alloc (.cells #[.int .i64 x, .int .i64 30, .int .i64 31, .int .i64 (-1)] 3)).cell 0, ((((K5.grown GZ (fun e => (by injection e with e; omega))).far (p := ⟨w.heap.size, 0, none⟩) (by show _ ≠ w.heap.size; omega) (.slice A1 n1 c1)).far (p := ⟨w.heap.size, 1, none⟩) (by show _ ≠ w.heap.size; omega) (.slice A2 n2 c2)).alloc (.cells #[.int .i64 x, .int .i64 30, .int .i64 31, .int .i64 (-1)] 3)).cell 1⟩
            clear hK K
            (try simp only [Act.put, List.setIfInBounds_toArray, List.set_cons_zero, List.set_cons_succ])
            refine wpAnyH_ready (rs := [4]) (by kernel_rfl) (by simp) ?_
            refine AllReadyH.cons (by rw [List.getElem?_toArray]; exact rfl) (fun K hK => ?_) ?_
            · go_simp
              refine hK.out _ _ ?_ (fun hHeld => ?_)
              · exact ⟨(((((K5.grown GZ (fun e => (by injection e with e; omega))).far (p := ⟨w.heap.size, 0, none⟩) (by show _ ≠ w.heap.size; omega) (.slice A1 n1 c1)).far (p := ⟨w.heap.size, 1, none⟩) (by show _ ≠ w.heap.size; omega) (.slice A2 n2 c2)).alloc (.cells #[.int .i64 x, .int .i64 30, .int .i64 31, .int .i64 (-1)] 3)).alloc (.cells #[.int .i64 0, .int .i64 0, .int .i64 0, .int .i64 0, .int .i64 1, .int .i64 2, .int .i64 3] 3)).cell 0, (((((K5.grown GZ (fun e => (by injection e with e; omega))).far (p := ⟨w.heap.size, 0, none⟩) (by show _ ≠ w.heap.size; omega) (.slice A1 n1 c1)).far (p := ⟨w.heap.size, 1, none⟩) (by show _ ≠ w.heap.size; omega) (.slice A2 n2 c2)).alloc (.cells #[.int .i64 x, .int .i64 30, .int .i64 31, .int .i64 (-1)] 3)).alloc (.cells #[.int .i64 0, .int .i64 0, .int .i64 0, .int .i64 0, .int .i64 1, .int .i64 2, .int .i64 3] 3)).cell 1⟩
              clear hK K
              (try simp only [Act.put, List.setIfInBounds_toArray, List.set_cons_zero, List.set_cons_succ])
              refine wpAnyH_take (i := 7) (v := ?vv7_64) (by rw [List.getElem?_toArray]; exact rfl) (by kernel_rfl) (by kernel_rfl) (by kernel_rfl) (by intro _ _ _ h; exact h) (Or.inl ⟨by rfl, ?hy7_64⟩) hHeld ?rest7_64
              case' hy7_64 => (intro w hSw; (try dsimp only at hSw); go_simp; try (with_reducible rfl))
              (try simp only [Act.put, List.setIfInBounds_toArray, List.set_cons_zero, List.set_cons_succ])
              refine wpAnyH_ready (rs := [8]) (by kernel_rfl) (by simp) ?_
              refine AllReadyH.cons (by rw [List.getElem?_toArray]; exact rfl) (fun K hK => ?_) ?_
              · have f18 := ((blkAt (w := (((wq.setCell ⟨w.heap.size, 0, none⟩ (.slice A1 n1 c1)).setCell ⟨w.heap.size, 1, none⟩ (.slice A2 n2 c2)).alloc (.cells #[.int .i64 x, .int .i64 30, .int .i64 31, .int .i64 (-1)] 3))) (g := wq.heap.size + 1) (by simp only [World.size_alloc, size_setCell]) 3 #[.int .i64 0, .int .i64 0, .int .i64 0, .int .i64 0, .int .i64 1, .int .i64 2, .int .i64 3]).cell yn).trans tv
                go_simp
                refine hK.out _ _ ?_ (fun hHeld => ?_)
                · exact ⟨(((((K5.grown GZ (fun e => (by injection e with e; omega))).far (p := ⟨w.heap.size, 0, none⟩) (by show _ ≠ w.heap.size; omega) (.slice A1 n1 c1)).far (p := ⟨w.heap.size, 1, none⟩) (by show _ ≠ w.heap.size; omega) (.slice A2 n2 c2)).alloc (.cells #[.int .i64 x, .int .i64 30, .int .i64 31, .int .i64 (-1)] 3)).alloc (.cells #[.int .i64 0, .int .i64 0, .int .i64 0, .int .i64 0, .int .i64 1, .int .i64 2, .int .i64 3] 3)).cell 0, (((((K5.grown GZ (fun e => (by injection e with e; omega))).far (p := ⟨w.heap.size, 0, none⟩) (by show _ ≠ w.heap.size; omega) (.slice A1 n1 c1)).far (p := ⟨w.heap.size, 1, none⟩) (by show _ ≠ w.heap.size; omega) (.slice A2 n2 c2)).alloc (.cells #[.int .i64 x, .int .i64 30, .int .i64 31, .int .i64 (-1)] 3)).alloc (.cells #[.int .i64 0, .int .i64 0, .int .i64 0, .int .i64 0, .int .i64 1, .int .i64 2, .int .i64 3] 3)).cell 1⟩
                clear hK K
                (try simp only [Act.put, List.setIfInBounds_toArray, List.set_cons_zero, List.set_cons_succ])
                refine wpAnyH_take (i := 9) (v := ?vv9_65) (by rw [List.getElem?_toArray]; exact rfl) (by kernel_rfl) (by kernel_rfl) (by kernel_rfl) (by intro _ _ _ h; exact h) (Or.inl ⟨by rfl, ?hy9_65⟩) hHeld ?rest9_65
                case' hy9_65 => (intro w hSw; (try dsimp only at hSw); go_simp; try (with_reducible rfl))
                (try simp only [Act.put, List.setIfInBounds_toArray, List.set_cons_zero, List.set_cons_succ])
                refine wpAnyH_ready (rs := [10]) (by kernel_rfl) (by simp) ?_
                refine AllReadyH.cons (by rw [List.getElem?_toArray]; exact rfl) (fun K hK => ?_) ?_
                · have f20 := (((blkAt (w := ((wq.setCell ⟨w.heap.size, 0, none⟩ (.slice A1 n1 c1)).setCell ⟨w.heap.size, 1, none⟩ (.slice A2 n2 c2))) (g := wq.heap.size) (by simp only [World.size_alloc, size_setCell]) 3 #[.int .i64 x, .int .i64 30, .int .i64 31, .int .i64 (-1)]).alloc (.cells #[.int .i64 0, .int .i64 0, .int .i64 0, .int .i64 0, .int .i64 1, .int .i64 2, .int .i64 3] 3)).cell v).trans ru
                  go_simp
                  refine hK.out _ _ ?_ (fun hHeld => ?_)
                  · exact ⟨(((((K5.grown GZ (fun e => (by injection e with e; omega))).far (p := ⟨w.heap.size, 0, none⟩) (by show _ ≠ w.heap.size; omega) (.slice A1 n1 c1)).far (p := ⟨w.heap.size, 1, none⟩) (by show _ ≠ w.heap.size; omega) (.slice A2 n2 c2)).alloc (.cells #[.int .i64 x, .int .i64 30, .int .i64 31, .int .i64 (-1)] 3)).alloc (.cells #[.int .i64 0, .int .i64 0, .int .i64 0, .int .i64 0, .int .i64 1, .int .i64 2, .int .i64 3] 3)).cell 0, (((((K5.grown GZ (fun e => (by injection e with e; omega))).far (p := ⟨w.heap.size, 0, none⟩) (by show _ ≠ w.heap.size; omega) (.slice A1 n1 c1)).far (p := ⟨w.heap.size, 1, none⟩) (by show _ ≠ w.heap.size; omega) (.slice A2 n2 c2)).alloc (.cells #[.int .i64 x, .int .i64 30, .int .i64 31, .int .i64 (-1)] 3)).alloc (.cells #[.int .i64 0, .int .i64 0, .int .i64 0, .int .i64 0, .int .i64 1, .int .i64 2, .int .i64 3] 3)).cell 1⟩
                  clear hK K
                  (try simp only [Act.put, List.setIfInBounds_toArray, List.set_cons_zero, List.set_cons_succ])
                  refine wpAnyH_take (i := 12) (v := ?vv12_66) (by rw [List.getElem?_toArray]; exact rfl) (by kernel_rfl) (by kernel_rfl) (by kernel_rfl) (by intro _ _ _ h; exact h) (Or.inl ⟨by rfl, ?hy12_66⟩) hHeld ?rest12_66
                  case' hy12_66 => (intro w hSw; (try dsimp only at hSw); go_simp; try (with_reducible rfl))
                  (try simp only [Act.put, List.setIfInBounds_toArray, List.set_cons_zero, List.set_cons_succ])
                  refine wpAnyH_done (by kernel_rfl) ?_ _
                  go_wp2_with fail
                  go_meet
                  exact ⟨u, rfl, ub.1, ub.2, ((((Q.set_ 0 (.slice A1 n1 c1)).set_ 1 (.slice A2 n2 c2)).alloc (.cells #[.int .i64 x, .int .i64 30, .int .i64 31, .int .i64 (-1)] 3)).alloc (.cells #[.int .i64 0, .int .i64 0, .int .i64 0, .int .i64 0, .int .i64 1, .int .i64 2, .int .i64 3] 3)), ((((q1.set_low (p := ⟨w.heap.size, 0, none⟩) (by show w.heap.size < _; omega) (.slice A1 n1 c1)).set_low (p := ⟨w.heap.size, 1, none⟩) (by show w.heap.size < _; omega) (.slice A2 n2 c2)).alloc (.cells #[.int .i64 x, .int .i64 30, .int .i64 31, .int .i64 (-1)] 3)).alloc (.cells #[.int .i64 0, .int .i64 0, .int .i64 0, .int .i64 0, .int .i64 1, .int .i64 2, .int .i64 3] 3)).mono (by omega), ((((q2.set_low (p := ⟨w.heap.size, 0, none⟩) (by show w.heap.size < _; omega) (.slice A1 n1 c1)).set_low (p := ⟨w.heap.size, 1, none⟩) (by show w.heap.size < _; omega) (.slice A2 n2 c2)).alloc (.cells #[.int .i64 x, .int .i64 30, .int .i64 31, .int .i64 (-1)] 3)).alloc (.cells #[.int .i64 0, .int .i64 0, .int .i64 0, .int .i64 0, .int .i64 1, .int .i64 2, .int .i64 3] 3)).mono (by omega), ((((((BX.setCell (p := ⟨w.heap.size, 0, none⟩) (Nat.le_refl _) (.slice A1 n1 c1)).setCell (p := ⟨w.heap.size, 1, none⟩) (Nat.le_refl _) (.slice A2 n2 c2))).alloc (((BX.setCell (p := ⟨w.heap.size, 0, none⟩) (Nat.le_refl _) (.slice A1 n1 c1)).setCell (p := ⟨w.heap.size, 1, none⟩) (Nat.le_refl _) (.slice A2 n2 c2))).size (.cells #[.int .i64 x, .int .i64 30, .int .i64 31, .int .i64 (-1)] 3))).alloc (((((BX.setCell (p := ⟨w.heap.size, 0, none⟩) (Nat.le_refl _) (.slice A1 n1 c1)).setCell (p := ⟨w.heap.size, 1, none⟩) (Nat.le_refl _) (.slice A2 n2 c2))).alloc (((BX.setCell (p := ⟨w.heap.size, 0, none⟩) (Nat.le_refl _) (.slice A1 n1 c1)).setCell (p := ⟨w.heap.size, 1, none⟩) (Nat.le_refl _) (.slice A2 n2 c2))).size (.cells #[.int .i64 x, .int .i64 30, .int .i64 31, .int .i64 (-1)] 3))).size (.cells #[.int .i64 0, .int .i64 0, .int .i64 0, .int .i64 0, .int .i64 1, .int .i64 2, .int .i64 3] 3))⟩
                exact AllReadyH.nil
              exact AllReadyH.nil
            exact AllReadyH.nil
          refine AllReadyH.cons (by rw [List.getElem?_toArray]; exact rfl) (fun K hK => ?_) ?_
          · go_simp
            refine hK.out _ _ ?_ (fun hHeld => ?_)
            · exact ⟨((((K5.grown GZ (fun e => (by injection e with e; omega))).far (p := ⟨w.heap.size, 0, none⟩) (by show _ ≠ w.heap.size; omega) (.slice A1 n1 c1)).far (p := ⟨w.heap.size, 1, none⟩) (by show _ ≠ w.heap.size; omega) (.slice A2 n2 c2)).alloc (.cells #[.int .i64 0, .int .i64 0, .int .i64 0, .int .i64 0, .int .i64 1, .int .i64 2, .int .i64 3] 3)).cell 0, ((((K5.grown GZ (fun e => (by injection e with e; omega))).far (p := ⟨w.heap.size, 0, none⟩) (by show _ ≠ w.heap.size; omega) (.slice A1 n1 c1)).far (p := ⟨w.heap.size, 1, none⟩) (by show _ ≠ w.heap.size; omega) (.slice A2 n2 c2)).alloc (.cells #[.int .i64 0, .int .i64 0, .int .i64 0, .int .i64 0, .int .i64 1, .int .i64 2, .int .i64 3] 3)).cell 1⟩
            clear hK K
            (try simp only [Act.put, List.setIfInBounds_toArray, List.set_cons_zero, List.set_cons_succ])
            refine wpAnyH_take (i := 7) (v := ?vv7_67) (by rw [List.getElem?_toArray]; exact rfl) (by kernel_rfl) (by kernel_rfl) (by kernel_rfl) (by intro _ _ _ h; exact h) (Or.inl ⟨by rfl, ?hy7_67⟩) hHeld ?rest7_67
            case' hy7_67 => (intro w hSw; (try dsimp only at hSw); go_simp; try (with_reducible rfl))
            (try simp only [Act.put, List.setIfInBounds_toArray, List.set_cons_zero, List.set_cons_succ])
            refine wpAnyH_ready (rs := [3, 8]) (by kernel_rfl) (by simp) ?_
            refine AllReadyH.cons (by rw [List.getElem?_toArray]; exact rfl) (fun K hK => ?_) ?_
            · go_simp
              refine hK.out _ _ ?_ (fun hHeld => ?_)
              · exact ⟨(((((K5.grown GZ (fun e => (by injection e with e; omega))).far (p := ⟨w.heap.size, 0, none⟩) (by show _ ≠ w.heap.size; omega) (.slice A1 n1 c1)).far (p := ⟨w.heap.size, 1, none⟩) (by show _ ≠ w.heap.size; omega) (.slice A2 n2 c2)).alloc (.cells #[.int .i64 0, .int .i64 0, .int .i64 0, .int .i64 0, .int .i64 1, .int .i64 2, .int .i64 3] 3)).alloc (.cells #[.int .i64 x, .int .i64 30, .int .i64 31, .int .i64 (-1)] 3)).cell 0, (((((K5.grown GZ (fun e => (by injection e with e; omega))).far (p := ⟨w.heap.size, 0, none⟩) (by show _ ≠ w.heap.size; omega) (.slice A1 n1 c1)).far (p := ⟨w.heap.size, 1, none⟩) (by show _ ≠ w.heap.size; omega) (.slice A2 n2 c2)).alloc (.cells #[.int .i64 0, .int .i64 0, .int .i64 0, .int .i64 0, .int .i64 1, .int .i64 2, .int .i64 3] 3)).alloc (.cells #[.int .i64 x, .int .i64 30, .int .i64 31, .int .i64 (-1)] 3)).cell 1⟩
              clear hK K
              (try simp only [Act.put, List.setIfInBounds_toArray, List.set_cons_zero, List.set_cons_succ])
              refine wpAnyH_ready (rs := [8]) (by kernel_rfl) (by simp) ?_
              refine AllReadyH.cons (by rw [List.getElem?_toArray]; exact rfl) (fun K hK => ?_) ?_
              · have f18 := (((blkAt (w := ((wq.setCell ⟨w.heap.size, 0, none⟩ (.slice A1 n1 c1)).setCell ⟨w.heap.size, 1, none⟩ (.slice A2 n2 c2))) (g := wq.heap.size) (by simp only [World.size_alloc, size_setCell]) 3 #[.int .i64 0, .int .i64 0, .int .i64 0, .int .i64 0, .int .i64 1, .int .i64 2, .int .i64 3]).alloc (.cells #[.int .i64 x, .int .i64 30, .int .i64 31, .int .i64 (-1)] 3)).cell yn).trans tv
                go_simp
                refine hK.out _ _ ?_ (fun hHeld => ?_)
                · exact ⟨(((((K5.grown GZ (fun e => (by injection e with e; omega))).far (p := ⟨w.heap.size, 0, none⟩) (by show _ ≠ w.heap.size; omega) (.slice A1 n1 c1)).far (p := ⟨w.heap.size, 1, none⟩) (by show _ ≠ w.heap.size; omega) (.slice A2 n2 c2)).alloc (.cells #[.int .i64 0, .int .i64 0, .int .i64 0, .int .i64 0, .int .i64 1, .int .i64 2, .int .i64 3] 3)).alloc (.cells #[.int .i64 x, .int .i64 30, .int .i64 31, .int .i64 (-1)] 3)).cell 0, (((((K5.grown GZ (fun e => (by injection e with e; omega))).far (p := ⟨w.heap.size, 0, none⟩) (by show _ ≠ w.heap.size; omega) (.slice A1 n1 c1)).far (p := ⟨w.heap.size, 1, none⟩) (by show _ ≠ w.heap.size; omega) (.slice A2 n2 c2)).alloc (.cells #[.int .i64 0, .int .i64 0, .int .i64 0, .int .i64 0, .int .i64 1, .int .i64 2, .int .i64 3] 3)).alloc (.cells #[.int .i64 x, .int .i64 30, .int .i64 31, .int .i64 (-1)] 3)).cell 1⟩
                clear hK K
                (try simp only [Act.put, List.setIfInBounds_toArray, List.set_cons_zero, List.set_cons_succ])
                refine wpAnyH_take (i := 9) (v := ?vv9_68) (by rw [List.getElem?_toArray]; exact rfl) (by kernel_rfl) (by kernel_rfl) (by kernel_rfl) (by intro _ _ _ h; exact h) (Or.inl ⟨by rfl, ?hy9_68⟩) hHeld ?rest9_68
                case' hy9_68 => (intro w hSw; (try dsimp only at hSw); go_simp; try (with_reducible rfl))
                (try simp only [Act.put, List.setIfInBounds_toArray, List.set_cons_zero, List.set_cons_succ])
                refine wpAnyH_ready (rs := [10]) (by kernel_rfl) (by simp) ?_
                refine AllReadyH.cons (by rw [List.getElem?_toArray]; exact rfl) (fun K hK => ?_) ?_
                · have f20 := ((blkAt (w := (((wq.setCell ⟨w.heap.size, 0, none⟩ (.slice A1 n1 c1)).setCell ⟨w.heap.size, 1, none⟩ (.slice A2 n2 c2)).alloc (.cells #[.int .i64 0, .int .i64 0, .int .i64 0, .int .i64 0, .int .i64 1, .int .i64 2, .int .i64 3] 3))) (g := wq.heap.size + 1) (by simp only [World.size_alloc, size_setCell]) 3 #[.int .i64 x, .int .i64 30, .int .i64 31, .int .i64 (-1)]).cell v).trans ru
                  go_simp
                  refine hK.out _ _ ?_ (fun hHeld => ?_)
                  · exact ⟨(((((K5.grown GZ (fun e => (by injection e with e; omega))).far (p := ⟨w.heap.size, 0, none⟩) (by show _ ≠ w.heap.size; omega) (.slice A1 n1 c1)).far (p := ⟨w.heap.size, 1, none⟩) (by show _ ≠ w.heap.size; omega) (.slice A2 n2 c2)).alloc (.cells #[.int .i64 0, .int .i64 0, .int .i64 0, .int .i64 0, .int .i64 1, .int .i64 2, .int .i64 3] 3)).alloc (.cells #[.int .i64 x, .int .i64 30, .int .i64 31, .int .i64 (-1)] 3)).cell 0, (((((K5.grown GZ (fun e => (by injection e with e; omega))).far (p := ⟨w.heap.size, 0, none⟩) (by show _ ≠ w.heap.size; omega) (.slice A1 n1 c1)).far (p := ⟨w.heap.size, 1, none⟩) (by show _ ≠ w.heap.size; omega) (.slice A2 n2 c2)).alloc (.cells #[.int .i64 0, .int .i64 0, .int .i64 0, .int .i64 0, .int .i64 1, .int .i64 2, .int .i64 3] 3)).alloc (.cells #[.int .i64 x, .int .i64 30, .int .i64 31, .int .i64 (-1)] 3)).cell 1⟩
                  clear hK K
                  (try simp only [Act.put, List.setIfInBounds_toArray, List.set_cons_zero, List.set_cons_succ])
                  refine wpAnyH_take (i := 12) (v := ?vv12_69) (by rw [List.getElem?_toArray]; exact rfl) (by kernel_rfl) (by kernel_rfl) (by kernel_rfl) (by intro _ _ _ h; exact h) (Or.inl ⟨by rfl, ?hy12_69⟩) hHeld ?rest12_69
                  case' hy12_69 => (intro w hSw; (try dsimp only at hSw); go_simp; try (with_reducible rfl))
                  (try simp only [Act.put, List.setIfInBounds_toArray, List.set_cons_zero, List.set_cons_succ])
                  refine wpAnyH_done (by kernel_rfl) ?_ _
                  go_wp2_with fail
                  go_meet
                  exact ⟨u, rfl, ub.1, ub.2, ((((Q.set_ 0 (.slice A1 n1 c1)).set_ 1 (.slice A2 n2 c2)).alloc (.cells #[.int .i64 0, .int .i64 0, .int .i64 0, .int .i64 0, .int .i64 1, .int .i64 2, .int .i64 3] 3)).alloc (.cells #[.int .i64 x, .int .i64 30, .int .i64 31, .int .i64 (-1)] 3)), ((((q1.set_low (p := ⟨w.heap.size, 0, none⟩) (by show w.heap.size < _; omega) (.slice A1 n1 c1)).set_low (p := ⟨w.heap.size, 1, none⟩) (by show w.heap.size < _; omega) (.slice A2 n2 c2)).alloc (.cells #[.int .i64 0, .int .i64 0, .int .i64 0, .int .i64 0, .int .i64 1, .int .i64 2, .int .i64 3] 3)).alloc (.cells #[.int .i64 x, .int .i64 30, .int .i64 31, .int .i64 (-1)] 3)).mono (by omega), ((((q2.set_low (p := ⟨w.heap.size, 0, none⟩) (by show w.heap.size < _; omega) (.slice A1 n1 c1)).set_low (p := ⟨w.heap.size, 1, none⟩) (by show w.heap.size < _; omega) (.slice A2 n2 c2)).alloc (.cells #[.int .i64 0, .int .i64 0, .int .i64 0, .int .i64 0, .int .i64 1, .int .i64 2, .int .i64 3] 3)).alloc (.cells #[.int .i64 x, .int .i64 30, .int .i64 31, .int .i64 (-1)] 3)).mono (by omega), ((((((BX.setCell (p := ⟨w.heap.size, 0, none⟩) (Nat.le_refl _) (.slice A1 n1 c1)).setCell (p := ⟨w.heap.size, 1, none⟩) (Nat.le_refl _) (.slice A2 n2 c2))).alloc (((BX.setCell (p := ⟨w.heap.size, 0, none⟩) (Nat.le_refl _) (.slice A1 n1 c1)).setCell (p := ⟨w.heap.size, 1, none⟩) (Nat.le_refl _) (.slice A2 n2 c2))).size (.cells #[.int .i64 0, .int .i64 0, .int .i64 0, .int .i64 0, .int .i64 1, .int .i64 2, .int .i64 3] 3))).alloc (((((BX.setCell (p := ⟨w.heap.size, 0, none⟩) (Nat.le_refl _) (.slice A1 n1 c1)).setCell (p := ⟨w.heap.size, 1, none⟩) (Nat.le_refl _) (.slice A2 n2 c2))).alloc (((BX.setCell (p := ⟨w.heap.size, 0, none⟩) (Nat.le_refl _) (.slice A1 n1 c1)).setCell (p := ⟨w.heap.size, 1, none⟩) (Nat.le_refl _) (.slice A2 n2 c2))).size (.cells #[.int .i64 0, .int .i64 0, .int .i64 0, .int .i64 0, .int .i64 1, .int .i64 2, .int .i64 3] 3))).size (.cells #[.int .i64 x, .int .i64 30, .int .i64 31, .int .i64 (-1)] 3))⟩
                exact AllReadyH.nil
              exact AllReadyH.nil
            refine AllReadyH.cons (by rw [List.getElem?_toArray]; exact rfl) (fun K hK => ?_) ?_
            · have f18 := ((blkAt (w := ((wq.setCell ⟨w.heap.size, 0, none⟩ (.slice A1 n1 c1)).setCell ⟨w.heap.size, 1, none⟩ (.slice A2 n2 c2))) (g := wq.heap.size) (by simp only [World.size_alloc, size_setCell]) 3 #[.int .i64 0, .int .i64 0, .int .i64 0, .int .i64 0, .int .i64 1, .int .i64 2, .int .i64 3]).cell yn).trans tv
              go_simp
              refine hK.out _ _ ?_ (fun hHeld => ?_)
              · exact ⟨((((K5.grown GZ (fun e => (by injection e with e; omega))).far (p := ⟨w.heap.size, 0, none⟩) (by show _ ≠ w.heap.size; omega) (.slice A1 n1 c1)).far (p := ⟨w.heap.size, 1, none⟩) (by show _ ≠ w.heap.size; omega) (.slice A2 n2 c2)).alloc (.cells #[.int .i64 0, .int .i64 0, .int .i64 0, .int .i64 0, .int .i64 1, .int .i64 2, .int .i64 3] 3)).cell 0, ((((K5.grown GZ (fun e => (by injection e with e; omega))).far (p := ⟨w.heap.size, 0, none⟩) (by show _ ≠ w.heap.size; omega) (.slice A1 n1 c1)).far (p := ⟨w.heap.size, 1, none⟩) (by show _ ≠ w.heap.size; omega) (.slice A2 n2 c2)).alloc (.cells #[.int .i64 0, .int .i64 0, .int .i64 0, .int .i64 0, .int .i64 1, .int .i64 2, .int .i64 3] 3)).cell 1⟩
              clear hK K
              (try simp only [Act.put, List.setIfInBounds_toArray, List.set_cons_zero, List.set_cons_succ])
              refine wpAnyH_ready (rs := [3]) (by kernel_rfl) (by simp) ?_
              refine AllReadyH.cons (by rw [List.getElem?_toArray]; exact rfl) (fun K hK => ?_) ?_
              · go_simp
                refine hK.out _ _ ?_ (fun hHeld => ?_)
                · exact ⟨(((((K5.grown GZ (fun e => (by injection e with e; omega))).far (p := ⟨w.heap.size, 0, none⟩) (by show _ ≠ w.heap.size; omega) (.slice A1 n1 c1)).far (p := ⟨w.heap.size, 1, none⟩) (by show _ ≠ w.heap.size; omega) (.slice A2 n2 c2)).alloc (.cells #[.int .i64 0, .int .i64 0, .int .i64 0, .int .i64 0, .int .i64 1, .int .i64 2, .int .i64 3] 3)).alloc (.cells #[.int .i64 x, .int .i64 30, .int .i64 31, .int .i64 (-1)] 3)).cell 0, (((((K5.grown GZ (fun e => (by injection e with e; omega))).far (p := ⟨w.heap.size, 0, none⟩) (by show _ ≠ w.heap.size; omega) (.slice A1 n1 c1)).far (p := ⟨w.heap.size, 1, none⟩) (by show _ ≠ w.heap.size; omega) (.slice A2 n2 c2)).alloc (.cells #[.int .i64 0, .int .i64 0, .int .i64 0, .int .i64 0, .int .i64 1, .int .i64 2, .int .i64 3] 3)).alloc (.cells #[.int .i64 x, .int .i64 30, .int .i64 31, .int .i64 (-1)] 3)).cell 1⟩
                clear hK K
                (try simp only [Act.put, List.setIfInBounds_toArray, List.set_cons_zero, List.set_cons_succ])
                refine wpAnyH_take (i := 9) (v := ?vv9_70) (by rw [List.getElem?_toArray]; exact rfl) (by kernel_rfl) (by kernel_rfl) (by kernel_rfl) (by intro _ _ _ h; exact h) (Or.inl ⟨by rfl, ?hy9_70⟩) hHeld ?rest9_70
                case' hy9_70 => (intro w hSw; (try dsimp only at hSw); go_simp; try (with_reducible rfl))
                (try simp only [Act.put, List.setIfInBounds_toArray, List.set_cons_zero, List.set_cons_succ])
                refine wpAnyH_ready (rs := [10]) (by kernel_rfl) (by simp) ?_
                refine AllReadyH.cons (by rw [List.getElem?_toArray]; exact rfl) (fun K hK => ?_) ?_
                · have f20 := ((blkAt (w := (((wq.setCell ⟨w.heap.size, 0, none⟩ (.slice A1 n1 c1)).setCell ⟨w.heap.size, 1, none⟩ (.slice A2 n2 c2)).alloc (.cells #[.int .i64 0, .int .i64 0, .int .i64 0, .int .i64 0, .int .i64 1, .int .i64 2, .int .i64 3] 3))) (g := wq.heap.size + 1) (by simp only [World.size_alloc, size_setCell]) 3 #[.int .i64 x, .int .i64 30, .int .i64 31, .int .i64 (-1)]).cell v).trans ru
                  go_simp
                  refine hK.out _ _ ?_ (fun hHeld => ?_)
                  · exact ⟨(((((K5.grown GZ (fun e => (by injection e with e; omega))).far (p := ⟨w.heap.size, 0, none⟩) (by show _ ≠ w.heap.size; omega) (.slice A1 n1 c1)).far (p := ⟨w.heap.size, 1, none⟩) (by show _ ≠ w.heap.size; omega) (.slice A2 n2 c2)).alloc (.cells #[.int .i64 0, .int .i64 0, .int .i64 0, .int .i64 0, .int .i64 1, .int .i64 2, .int .i64 3] 3)).alloc (.cells #[.int .i64 x, .int .i64 30, .int .i64 31, .int .i64 (-1)] 3)).cell 0, (((((K5.grown GZ (fun e => (by injection e with e; omega))).far (p := ⟨w.heap.size, 0, none⟩) (by show _ ≠ w.heap.size; omega) (.slice A1 n1 c1)).far (p := ⟨w.heap.size, 1, none⟩) (by show _ ≠ w.heap.size; omega) (.slice A2 n2 c2)).alloc (.cells #[.int .i64 0, .int .i64 0, .int .i64 0, .int .i64 0, .int .i64 1, .int .i64 2, .int .i64 3] 3)).alloc (.cells #[.int .i64 x, .int .i64 30, .int .i64 31, .int .i64 (-1)] 3)).cell 1⟩
                  clear hK K
                  (try simp only [Act.put, List.setIfInBounds_toArray, List.set_cons_zero, List.set_cons_succ])
                  refine wpAnyH_take (i := 12) (v := ?vv12_71) (by rw [List.getElem?_toArray]; exact rfl) (by kernel_rfl) (by kernel_rfl) (by kernel_rfl) (by intro _ _ _ h; exact h) (Or.inl ⟨by rfl, ?hy12_71⟩) hHeld ?rest12_71
                  case' hy12_71 => (intro w hSw; (try dsimp only at hSw); go_simp; try (with_reducible rfl))
                  (try simp only [Act.put, List.setIfInBounds_toArray, List.set_cons_zero, List.set_cons_succ])
                  refine wpAnyH_done (by kernel_rfl) ?_ _
                  go_wp2_with fail
                  go_meet
                  exact ⟨u, rfl, ub.1, ub.2, ((((Q.set_ 0 (.slice A1 n1 c1)).set_ 1 (.slice A2 n2 c2)).alloc (.cells #[.int .i64 0, .int .i64 0, .int .i64 0, .int .i64 0, .int .i64 1, .int .i64 2, .int .i64 3] 3)).alloc (.cells #[.int .i64 x, .int .i64 30, .int .i64 31, .int .i64 (-1)] 3)), ((((q1.set_low (p := ⟨w.heap.size, 0, none⟩) (by show w.heap.size < _; omega) (.slice A1 n1 c1)).set_low (p := ⟨w.heap.size, 1, none⟩) (by show w.heap.size < _; omega) (.slice A2 n2 c2)).alloc (.cells #[.int .i64 0, .int .i64 0, .int .i64 0, .int .i64 0, .int .i64 1, .int .i64 2, .int .i64 3] 3)).alloc (.cells #[.int .i64 x, .int .i64 30, .int .i64 31, .int .i64 (-1)] 3)).mono (by omega), ((((q2.set_low (p := ⟨w.heap.size, 0, none⟩) (by show w.heap.size < _; omega) (.slice A1 n1 c1)).set_low (p := ⟨w.heap.size, 1, none⟩) (by show w.heap.size < _; omega) (.slice A2 n2 c2)).alloc (.cells #[.int .i64 0, .int .i64 0, .int .i64 0, .int .i64 0, .int .i64 1, .int .i64 2, .int .i64 3] 3)).alloc (.cells #[.int .i64 x, .int .i64 30, .int .i64 31, .int .i64 (-1)] 3)).mono (by omega), ((((((BX.setCell (p := ⟨w.heap.size, 0, none⟩) (Nat.le_refl _) (.slice A1 n1 c1)).setCell (p := ⟨w.heap.size, 1, none⟩) (Nat.le_refl _) (.slice A2 n2 c2))).alloc (((BX.setCell (p := ⟨w.heap.size, 0, none⟩) (Nat.le_refl _) (.slice A1 n1 c1)).setCell (p := ⟨w.heap.size, 1, none⟩) (Nat.le_refl _) (.slice A2 n2 c2))).size (.cells #[.int .i64 0, .int .i64 0, .int .i64 0, .int .i64 0, .int .i64 1, .int .i64 2, .int .i64 3] 3))).alloc (((((BX.setCell (p := ⟨w.heap.size, 0, none⟩) (Nat.le_refl _) (.slice A1 n1 c1)).setCell (p := ⟨w.heap.size, 1, none⟩) (Nat.le_refl _) (.slice A2 n2 c2))).alloc (((BX.setCell (p := ⟨w.heap.size, 0, none⟩) (Nat.le_refl _) (.slice A1 n1 c1)).setCell (p := ⟨w.heap.size, 1, none⟩) (Nat.le_refl _) (.slice A2 n2 c2))).size (.cells #[.int .i64 0, .int .i64 0, .int .i64 0, .int .i64 0, .int .i64 1, .int .i64 2, .int .i64 3] 3))).size (.cells #[.int .i64 x, .int .i64 30, .int .i64 31, .int .i64 (-1)] 3))⟩
                exact AllReadyH.nil
              exact AllReadyH.nil
            exact AllReadyH.nil
          exact AllReadyH.nil
        exact AllReadyH.nil
      exact AllReadyH.nil
    refine AllReadyH.cons (by rw [List.getElem?_toArray]; exact rfl) (fun K hK => ?_) ?_
    · go_simp
      refine hK.out _ _ ?_ (fun hHeld => ?_)
      · exact ⟨((K5.grown GZ (fun e => (by injection e with e; omega))).alloc (.cells #[.int .i64 0, .int .i64 0, .int .i64 0, .int .i64 0, .int .i64 1, .int .i64 2, .int .i64 3] 3)).cell 0, ((K5.grown GZ (fun e => (by injection e with e; omega))).alloc (.cells #[.int .i64 0, .int .i64 0, .int .i64 0, .int .i64 0, .int .i64 1, .int .i64 2, .int .i64 3] 3)).cell 1⟩
      clear hK K
      (try simp only [Act.put, List.setIfInBounds_toArray, List.set_cons_zero, List.set_cons_succ])
      refine wpAnyH_ready (rs := [2]) (by kernel_rfl) (by simp) ?_
      refine AllReadyH.cons (by rw [List.getElem?_toArray]; exact rfl) (fun K hK => ?_) ?_
      · go_simp
        go_at_call 57
        refine (pick_c (r2.drew.alloc (.cells #[.int .i64 0, .int .i64 0, .int .i64 0, .int .i64 0, .int .i64 1, .int .i64 2, .int .i64 3] 3)) (by omega) (by omega) (by omega)).mono ?_
        rintro e wp ⟨x, rfl, x0, x1, rp, gp⟩
        have k4 := ((blkAt (w := w3.drew) (g := w3.heap.size) rfl 3 #[.int .i64 0, .int .i64 0, .int .i64 0, .int .i64 0, .int .i64 1, .int .i64 2, .int .i64 3])).grown gp (fun e => (by injection e with e; omega))
        replace GZ := grown_trans' (grown_alloc GZ (.cells #[.int .i64 0, .int .i64 0, .int .i64 0, .int .i64 0, .int .i64 1, .int .i64 2, .int .i64 3] 3)) gp
        have rpl := rp.lt
        (try go_wp2_with fail)
        refine hK.out _ _ ?_ (fun hHeld => ?_)
        · exact ⟨(K5.grown GZ (fun e => (by injection e with e; omega))).cell 0, (K5.grown GZ (fun e => (by injection e with e; omega))).cell 1⟩
        clear hK K
        (try simp only [Act.put, List.setIfInBounds_toArray, List.set_cons_zero, List.set_cons_succ])
        refine wpAnyH_ready (rs := [3, 6]) (by kernel_rfl) (by simp) ?_
        refine AllReadyH.cons (by rw [List.getElem?_toArray]; exact rfl) (fun K hK => ?_) ?_
        · go_simp
          refine hK.out _ _ ?_ (fun hHeld => ?_)
          · exact ⟨((K5.grown GZ (fun e => (by injection e with e; omega))).alloc (.cells #[.int .i64 x, .int .i64 30, .int .i64 31, .int .i64 (-1)] 3)).cell 0, ((K5.grown GZ (fun e => (by injection e with e; omega))).alloc (.cells #[.int .i64 x, .int .i64 30, .int .i64 31, .int .i64 (-1)] 3)).cell 1⟩
          clear hK K
          (try simp only [Act.put, List.setIfInBounds_toArray, List.set_cons_zero, List.set_cons_succ])
          refine wpAnyH_ready (rs := [6]) (by kernel_rfl) (by simp) ?_
          refine AllReadyH.cons (by rw [List.getElem?_toArray]; exact rfl) (fun K hK => ?_) ?_
          · go_simp
            go_at_call 57
            refine (pick_c (rp.alloc (.cells #[.int .i64 x, .int .i64 30, .int .i64 31, .int .i64 (-1)] 3)) (by omega) (by omega) (by omega)).mono ?_
            rintro e wq ⟨y, rfl, y0, y1, rq, gq⟩
            replace k4 := ((k4.alloc (.cells #[.int .i64 x, .int .i64 30, .int .i64 31, .int .i64 (-1)] 3))).grown gq (fun e => (by injection e with e; omega))
            have k3 := ((blkAt (w := wp) (g := wp.heap.size) rfl 3 #[.int .i64 x, .int .i64 30, .int .i64 31, .int .i64 (-1)])).grown gq (fun e => (by injection e with e; omega))
            replace GZ := grown_trans' (grown_alloc GZ (.cells #[.int .i64 x, .int .i64 30, .int .i64 31, .int .i64 (-1)] 3)) gq
            have rql := rq.lt
            obtain ⟨yn, rfl⟩ : ∃ k : Nat, y = k := ⟨y.toNat, by omega⟩
            obtain ⟨v, hv, tv⟩ := tab7_at yn (by omega)
            obtain ⟨u, hu, ru⟩ := row4_at x v hv
            have v1 : (0 : Int) ≤ v := by omega
            have v2 : (v : Int) < 4 := by omega
            have y00 : (0 : Int) ≤ yn := by omega
            have y77 : (yn : Int) < 7 := by omega
            have Q := KR0.grown GZ (fun e => (by injection e with e; omega))
            have q1 := o1.grown GZ (o1.block_ne (by omega))
            have q2 := o2.grown GZ (o2.block_ne (by omega))
            have BX := belowG B3 GZ (by omega)
            have ub : -1 ≤ u ∧ u ≤ 31 := by omega
            (try go_wp2_with fail)
            refine hK.out _ _ ?_ (fun hHeld => ?_)
            · exact ⟨(K5.grown GZ (fun e => (by injection e with e; omega))).cell 0, (K5.grown GZ (fun e => (by injection e with e; omega))).cell 1⟩
            clear hK K
            (try simp only [Act.put, List.setIfInBounds_toArray, List.set_cons_zero, List.set_cons_succ])
            refine wpAnyH_take (i := 7) (v := ?vv7_72) (by rw [List.getElem?_toArray]; exact rfl) (by kernel_rfl) (by kernel_rfl) (by kernel_rfl) (by intro _ _ _ h; exact h) (Or.inl ⟨by rfl, ?hy7_72⟩) hHeld ?rest7_72
            case' hy7_72 => (intro w hSw; (try dsimp only at hSw); go_simp; try (with_reducible rfl))
            (try simp only [Act.put, List.setIfInBounds_toArray, List.set_cons_zero, List.set_cons_succ])
            refine wpAnyH_ready (rs := [8, 11]) (by kernel_rfl) (by simp) ?_
            refine AllReadyH.cons (by rw [List.getElem?_toArray]; exact rfl) (fun K hK => ?_) ?_
            · have f18 := (k4.cell yn).trans tv
              go_simp
              refine hK.out _ _ ?_ (fun hHeld => ?_)
              · exact ⟨(K5.grown GZ (fun e => (by injection e with e; omega))).cell 0, (K5.grown GZ (fun e => (by injection e with e; omega))).cell 1⟩
              clear hK K
              (try simp only [Act.put, List.setIfInBounds_toArray, List.set_cons_zero, List.set_cons_succ])
              refine wpAnyH_take (i := 9) (v := ?vv9_73) (by rw [List.getElem?_toArray]; exact rfl) (by kernel_rfl) (by kernel_rfl) (by kernel_rfl) (by intro _ _ _ h; exact h) (Or.inl ⟨by rfl, ?hy9_73⟩) hHeld ?rest9_73
              case' hy9_73 => (intro w hSw; (try dsimp only at hSw); go_simp; try (with_reducible rfl))
              (try simp only [Act.put, List.setIfInBounds_toArray, List.set_cons_zero, List.set_cons_succ])
              refine wpAnyH_ready (rs := [10, 11]) (by kernel_rfl) (by simp) ?_
              refine AllReadyH.cons (by rw [List.getElem?_toArray]; exact rfl) (fun K hK => ?_) ?_
              · have f20 := (k3.cell v).trans ru
                go_simp
                refine hK.out _ _ ?_ (fun hHeld => ?_)
                · exact ⟨(K5.grown GZ (fun e => (by injection e with e; omega))).cell 0, (K5.grown GZ (fun e => (by injection e with e; omega))).cell 1⟩
                clear hK K
                (try simp only [Act.put, List.setIfInBounds_toArray, List.set_cons_zero, List.set_cons_succ])
                refine wpAnyH_ready (rs := [11]) (by kernel_rfl) (by simp) ?_
                refine AllReadyH.cons (by rw [List.getElem?_toArray]; exact rfl) (fun K hK => ?_) ?_
                · obtain ⟨d0, d1, d2, d3⟩ := (Q).two
                  go_simp
                  refine hK.out _ _ ?_ (fun hHeld => ?_)
                  · exact ⟨(((K5.grown GZ (fun e => (by injection e with e; omega))).far (p := ⟨w.heap.size, 0, none⟩) (by show _ ≠ w.heap.size; omega) (.slice A1 n1 c1)).far (p := ⟨w.heap.size, 1, none⟩) (by show _ ≠ w.heap.size; omega) (.slice A2 n2 c2)).cell 0, (((K5.grown GZ (fun e => (by injection e with e; omega))).far (p := ⟨w.heap.size, 0, none⟩) (by show _ ≠ w.heap.size; omega) (.slice A1 n1 c1)).far (p := ⟨w.heap.size, 1, none⟩) (by show _ ≠ w.heap.size; omega) (.slice A2 n2 c2)).cell 1⟩
                  clear hK K
                  (try simp only [Act.put, List.setIfInBounds_toArray, List.set_cons_zero, List.set_cons_succ])
                  refine wpAnyH_take (i := 12) (v := ?vv12_74) (by rw [List.getElem?_toArray]; exact rfl) (by kernel_rfl) (by kernel_rfl) (by kernel_rfl) (by intro _ _ _ h; exact h) (Or.inl ⟨by rfl, ?hy12_74⟩) hHeld ?rest12_74
                  case' hy12_74 => (intro w hSw; (try dsimp only at hSw); go_simp; try (with_reducible rfl))
                  (try simp only [Act.put, List.setIfInBounds_toArray, List.set_cons_zero, List.set_cons_succ])
                  refine wpAnyH_done (by kernel_rfl) ?_ _
                  go_wp2_with fail
                  go_meet
                  exact ⟨u, rfl, ub.1, ub.2, ((Q.set_ 0 (.slice A1 n1 c1)).set_ 1 (.slice A2 n2 c2)), ((q1.set_low (p := ⟨w.heap.size, 0, none⟩) (by show w.heap.size < _; omega) (.slice A1 n1 c1)).set_low (p := ⟨w.heap.size, 1, none⟩) (by show w.heap.size < _; omega) (.slice A2 n2 c2)).mono (by omega), ((q2.set_low (p := ⟨w.heap.size, 0, none⟩) (by show w.heap.size < _; omega) (.slice A1 n1 c1)).set_low (p := ⟨w.heap.size, 1, none⟩) (by show w.heap.size < _; omega) (.slice A2 n2 c2)).mono (by omega), ((BX.setCell (p := ⟨w.heap.size, 0, none⟩) (Nat.le_refl _) (.slice A1 n1 c1)).setCell (p := ⟨w.heap.size, 1, none⟩) (Nat.le_refl _) (.slice A2 n2 c2))⟩
                exact AllReadyH.nil
              refine AllReadyH.cons (by rw [List.getElem?_toArray]; exact rfl) (fun K hK => ?_) ?_
              · obtain ⟨d0, d1, d2, d3⟩ := (Q).two
                go_simp
                refine hK.out _ _ ?_ (fun hHeld => ?_)
                · exact ⟨(((K5.grown GZ (fun e => (by injection e with e; omega))).far (p := ⟨w.heap.size, 0, none⟩) (by show _ ≠ w.heap.size; omega) (.slice A1 n1 c1)).far (p := ⟨w.heap.size, 1, none⟩) (by show _ ≠ w.heap.size; omega) (.slice A2 n2 c2)).cell 0, (((K5.grown GZ (fun e => (by injection e with e; omega))).far (p := ⟨w.heap.size, 0, none⟩) (by show _ ≠ w.heap.size; omega) (.slice A1 n1 c1)).far (p := ⟨w.heap.size, 1, none⟩) (by show _ ≠ w.heap.size; omega) (.slice A2 n2 c2)).cell 1⟩
                clear hK K
                (try simp only [Act.put, List.setIfInBounds_toArray, List.set_cons_zero, List.set_cons_succ])
                refine wpAnyH_ready (rs := [10]) (by kernel_rfl) (by simp) ?_
                refine AllReadyH.cons (by rw [List.getElem?_toArray]; exact rfl) (fun K hK => ?_) ?_
                · have f20 := (((k3.far (p := ⟨w.heap.size, 0, none⟩) (by show _ ≠ w.heap.size; omega) (.slice A1 n1 c1)).far (p := ⟨w.heap.size, 1, none⟩) (by show _ ≠ w.heap.size; omega) (.slice A2 n2 c2)).cell v).trans ru
                  go_simp
                  refine hK.out _ _ ?_ (fun hHeld => ?_)
                  · exact ⟨(((K5.grown GZ (fun e => (by injection e with e; omega))).far (p := ⟨w.heap.size, 0, none⟩) (by show _ ≠ w.heap.size; omega) (.slice A1 n1 c1)).far (p := ⟨w.heap.size, 1, none⟩) (by show _ ≠ w.heap.size; omega) (.slice A2 n2 c2)).cell 0, (((K5.grown GZ (fun e => (by injection e with e; omega))).far (p := ⟨w.heap.size, 0, none⟩) (by show _ ≠ w.heap.size; omega) (.slice A1 n1 c1)).far (p := ⟨w.heap.size, 1, none⟩) (by show _ ≠ w.heap.size; omega) (.slice A2 n2 c2)).cell 1⟩
                  clear hK K
                  (try simp only [Act.put, List.setIfInBounds_toArray, List.set_cons_zero, List.set_cons_succ])
                  refine wpAnyH_take (i := 12) (v := ?vv12_75) (by rw [List.getElem?_toArray]; exact rfl) (by kernel_rfl) (by kernel_rfl) (by kernel_rfl) (by intro _ _ _ h; exact h) (Or.inl ⟨by rfl, ?hy12_75⟩) hHeld ?rest12_75
                  case' hy12_75 => (intro w hSw; (try dsimp only at hSw); go_simp; try (with_reducible rfl))
                  (try simp only [Act.put, List.setIfInBounds_toArray, List.set_cons_zero, List.set_cons_succ])
                  refine wpAnyH_done (by kernel_rfl) ?_ _
                  go_wp2_with fail
                  go_meet
                  exact ⟨u, rfl, ub.1, ub.2, ((Q.set_ 0 (.slice A1 n1 c1)).set_ 1 (.slice A2 n2 c2)), ((q1.set_low (p := ⟨w.heap.size, 0, none⟩) (by show w.heap.size < _; omega) (.slice A1 n1 c1)).set_low (p := ⟨w.heap.size, 1, none⟩) (by show w.heap.size < _; omega) (.slice A2 n2 c2)).mono (by omega), ((q2.set_low (p := ⟨w.heap.size, 0, none⟩) (by show w.heap.size < _; omega) (.slice A1 n1 c1)).set_low (p := ⟨w.heap.size, 1, none⟩) (by show w.heap.size < _; omega) (.slice A2 n2 c2)).mono (by omega), ((BX.setCell (p := ⟨w.heap.size, 0, none⟩) (Nat.le_refl _) (.slice A1 n1 c1)).setCell (p := ⟨w.heap.size, 1, none⟩) (Nat.le_refl _) (.slice A2 n2 c2))⟩
                exact AllReadyH.nil
              exact AllReadyH.nil
            refine AllReadyH.cons (by rw [List.getElem?_toArray]; exact rfl) (fun K hK => ?_) ?_
            · obtain ⟨d0, d1, d2, d3⟩ := (Q).two
              go_simp
              refine hK.out _ _ ?_ (fun hHeld => ?_)
              · exact ⟨(((K5.grown GZ (fun e => (by injection e with e; omega))).far (p := ⟨w.heap.size, 0, none⟩) (by show _ ≠ w.heap.size; omega) (.slice A1 n1 c1)).far (p := ⟨w.heap.size, 1, none⟩) (by show _ ≠ w.heap.size; omega) (.slice A2 n2 c2)).cell 0, (((K5.grown GZ (fun e => (by injection e with e; omega))).far (p := ⟨w.heap.size, 0, none⟩) (by show _ ≠ w.heap.size; omega) (.slice A1 n1 c1)).far (p := ⟨w.heap.size, 1, none⟩) (by show _ ≠ w.heap.size; omega) (.slice A2 n2 c2)).cell 1⟩
              clear hK K
              (try simp only [Act.put, List.setIfInBounds_toArray, List.set_cons_zero, List.set_cons_succ])
              refine wpAnyH_ready (rs := [8]) (by kernel_rfl) (by simp) ?_
              refine AllReadyH.cons (by rw [List.getElem?_toArray]; exact rfl) (fun K hK => ?_) ?_
              · have f18 := (((k4.far (p := ⟨w.heap.size, 0, none⟩) (by show _ ≠ w.heap.size; omega) (.slice A1 n1 c1)).far (p := ⟨w.heap.size, 1, none⟩) (by show _ ≠ w.heap.size; omega) (.slice A2 n2 c2)).cell yn).trans tv
                go_simp
                refine hK.out _ _ ?_ (fun hHeld => ?_)
                · exact ⟨(((K5.grown GZ (fun e => (by injection e with e; omega))).far (p := ⟨w.heap.size, 0, none⟩) (by show _ ≠ w.heap.size; omega) (.slice A1 n1 c1)).far (p := ⟨w.heap.size, 1, none⟩) (by show _ ≠ w.heap.size; omega) (.slice A2 n2 c2)).cell 0, (((K5.grown GZ (fun e => (by injection e with e; omega))).far (p := ⟨w.heap.size, 0, none⟩) (by show _ ≠ w.heap.size; omega) (.slice A1 n1 c1)).far (p := ⟨w.heap.size, 1, none⟩) (by show _ ≠ w.heap.size; omega) (.slice A2 n2 c2)).cell 1⟩
                clear hK K
                (try simp only [Act.put, List.setIfInBounds_toArray, List.set_cons_zero, List.set_cons_succ])
                refine wpAnyH_take (i := 9) (v := ?vv9_76) (by rw [List.getElem?_toArray]; exact rfl) (by kernel_rfl) (by kernel_rfl) (by kernel_rfl) (by intro _ _ _ h; exact h) (Or.inl ⟨by rfl, ?hy9_76⟩) hHeld ?rest9_76
                case' hy9_76 => (intro w hSw; (try dsimp only at hSw); go_simp; try (with_reducible rfl))
                (try simp only [Act.put, List.setIfInBounds_toArray, List.set_cons_zero, List.set_cons_succ])
                refine wpAnyH_ready (rs := [10]) (by kernel_rfl) (by simp) ?_
                refine AllReadyH.cons (by rw [List.getElem?_toArray]; exact rfl) (fun K hK => ?_) ?_
                · have f20 := (((k3.far (p := ⟨w.heap.size, 0, none⟩) (by show _ ≠ w.heap.size; omega) (.slice A1 n1 c1)).far (p := ⟨w.heap.size, 1, none⟩) (by show _ ≠ w.heap.size; omega) (.slice A2 n2 c2)).cell v).trans ru
                  go_simp
                  refine hK.out _ _ ?_ (fun hHeld => ?_)
                  · exact ⟨(((K5.grown GZ (fun e => (by injection e with e; omega))).far (p := ⟨w.heap.size, 0, none⟩) (by show _ ≠ w.heap.size; omega) (.slice A1 n1 c1)).far (p := ⟨w.heap.size, 1, none⟩) (by show _ ≠ w.heap.size; omega) (.slice A2 n2 c2)).cell 0, (((K5.grown GZ (fun e => (by injection e with e; omega))).far (p := ⟨w.heap.size, 0, none⟩) (by show _ ≠ w.heap.size; omega) (.slice A1 n1 c1)).far (p := ⟨w.heap.size, 1, none⟩) (by show _ ≠ w.heap.size; omega) (.slice A2 n2 c2)).cell 1⟩
                  clear hK K
                  (try simp only [Act.put, List.setIfInBounds_toArray, List.set_cons_zero, List.set_cons_succ])
                  refine wpAnyH_take (i := 12) (v := ?vv12_77) (by rw [List.getElem?_toArray]; exact rfl) (by kernel_rfl) (by kernel_rfl) (by kernel_rfl) (by intro _ _ _ h; exact h) (Or.inl ⟨by rfl, ?hy12_77⟩) hHeld ?rest12_77
                  case' hy12_77 => (intro w hSw; (try dsimp only at hSw); go_simp; try (with_reducible rfl))
                  (try simp only [Act.put, List.setIfInBounds_toArray, List.set_cons_zero, List.set_cons_succ])
                  refine wpAnyH_done (by kernel_rfl) ?_ _
                  go_wp2_with fail
                  go_meet
                  exact ⟨u, rfl, ub.1, ub.2, ((Q.set_ 0 (.slice A1 n1 c1)).set_ 1 (.slice A2 n2 c2)), ((q1.set_low (p := ⟨w.heap.size, 0, none⟩) (by show w.heap.size < _; omega) (.slice A1 n1 c1)).set_low (p := ⟨w.heap.size, 1, none⟩) (by show w.heap.size < _; omega) (.slice A2 n2 c2)).mono (by omega), ((q2.set_low (p := ⟨w.heap.size, 0, none⟩) (by show w.heap.size < _; omega) (.slice A1 n1 c1)).set_low (p := ⟨w.heap.size, 1, none⟩) (by show w.heap.size < _; omega) (.slice A2 n2 c2)).mono (by omega), ((BX.setCell (p := ⟨w.heap.size, 0, none⟩) (Nat.le_refl _) (.slice A1 n1 c1)).setCell (p := ⟨w.heap.size, 1, none⟩) (Nat.le_refl _) (.slice A2 n2 c2))⟩
                exact AllReadyH.nil
              exact AllReadyH.nil
            exact AllReadyH.nil
          exact AllReadyH.nil
        refine AllReadyH.cons (by rw [List.getElem?_toArray]; exact rfl) (fun K hK => ?_) ?_
        · go_simp
          go_at_call 57
          refine (pick_c rp (by omega) (by omega) (by omega)).mono ?_
          rintro e wq ⟨y, rfl, y0, y1, rq, gq⟩
          replace k4 := (k4).grown gq (fun e => (by injection e with e; omega))
          replace GZ := grown_trans' GZ gq
          have rql := rq.lt
          obtain ⟨yn, rfl⟩ : ∃ k : Nat, y = k := ⟨y.toNat, by omega⟩
          obtain ⟨v, hv, tv⟩ := tab7_at yn (by omega)
          obtain ⟨u, hu, ru⟩ := row4_at x v hv
          have v1 : (0 : Int) ≤ v := by omega
          have v2 : (v : Int) < 4 := by omega
          have y00 : (0 : Int) ≤ yn := by omega
          have y77 : (yn : Int) < 7 := by omega
          have Q := KR0.grown GZ (fun e => (by injection e with e; omega))
          have q1 := o1.grown GZ (o1.block_ne (by omega))
          have q2 := o2.grown GZ (o2.block_ne (by omega))
          have BX := belowG B3 GZ (by omega)
          have ub : -1 ≤ u ∧ u ≤ 31 := by omega
          (try go_wp2_with fail)
          refine hK.out _ _ ?_ (fun hHeld => ?_)
          · exact ⟨(K5.grown GZ (fun e => (by injection e with e; omega))).cell 0, (K5.grown GZ (fun e => (by injection e with e; omega))).cell 1⟩
          clear hK K
          (try simp only [Act.put, List.setIfInBounds_toArray, List.set_cons_zero, List.set_cons_succ])
          refine wpAnyH_take (i := 7) (v := ?vv7_78) (by rw [List.getElem?_toArray]; exact rfl) (by kernel_rfl) (by kernel_rfl) (by kernel_rfl) (by intro _ _ _ h; exact h) (Or.inl ⟨by rfl, ?hy7_78⟩) hHeld ?rest7_78
          case' hy7_78 => (intro w hSw; (try dsimp only at hSw); go_simp; try (with_reducible rfl))
          (try simp only [Act.put, List.setIfInBounds_toArray, List.set_cons_zero, List.set_cons_succ])
          refine wpAnyH_ready (rs := [3, 8, 11]) (by kernel_rfl) (by simp) ?_
          refine AllReadyH.cons (by rw [List.getElem?_toArray]; exact rfl) (fun K hK => ?_) ?_
          · go_simp
            refine hK.out _ _ ?_ (fun hHeld => ?_)
            · exact ⟨((K5.grown GZ (fun e => (by injection e with e; omega))).alloc (.cells #[.int .i64 x, .int .i64 30, .int .i64 31, .int .i64 (-1)] 3)).cell 0, ((K5.grown GZ (fun e => (by injection e with e; omega))).alloc (.cells #[.int .i64 x, .int .i64 30, .int .i64 31, .int .i64 (-1)] 3)).cell 1⟩
            clear hK K
            (try simp only [Act.put, List.setIfInBounds_toArray, List.set_cons_zero, List.set_cons_succ])
            refine wpAnyH_ready (rs := [8, 11]) (by kernel_rfl) (by simp) ?_
            refine AllReadyH.cons (by rw [List.getElem?_toArray]; exact rfl) (fun K hK => ?_) ?_
            · have f18 := ((k4.alloc (.cells #[.int .i64 x, .int .i64 30, .int .i64 31, .int .i64 (-1)] 3)).cell yn).trans tv
              go_simp
              refine hK.out _ _ ?_ (fun hHeld => ?_)
              · exact ⟨((K5.grown GZ (fun e => (by injection e with e; omega))).alloc (.cells #[.int .i64 x, .int .i64 30, .int .i64 31, .int .i64 (-1)] 3)).cell 0, ((K5.grown GZ (fun e => (by injection e with e; omega))).alloc (.cells #[.int .i64 x, .int .i64 30, .int .i64 31, .int .i64 (-1)] 3)).cell 1⟩
              clear hK K
              (try simp only [Act.put, List.setIfInBounds_toArray, List.set_cons_zero, List.set_cons_succ])
              refine wpAnyH_take (i := 9) (v := ?vv9_79) (by rw [List.getElem?_toArray]; exact rfl) (by kernel_rfl) (by kernel_rfl) (by kernel_rfl) (by intro _ _ _ h; exact h) (Or.inl ⟨by rfl, ?hy9_79⟩) hHeld ?rest9_79
              case' hy9_79 => (intro w hSw; (try dsimp only at hSw); go_simp; try (with_reducible rfl))
              (try simp only [Act.put, List.setIfInBounds_toArray, List.set_cons_zero, List.set_cons_succ])
              refine wpAnyH_ready (rs := [10, 11]) (by kernel_rfl) (by simp) ?_
              refine AllReadyH.cons (by rw [List.getElem?_toArray]; exact rfl) (fun K hK => ?_) ?_
              · have f20 := ((blkAt (w := wq) (g := wq.heap.size) rfl 3 #[.int .i64 x, .int .i64 30, .int .i64 31, .int .i64 (-1)]).cell v).trans ru
                go_simp
                refine hK.out _ _ ?_ (fun hHeld => ?_)
                · exact ⟨((K5.grown GZ (fun e => (by injection e with e; omega))).alloc (.cells #[.int .i64 x, .int .i64 30, .int .i64 31, .int .i64 (-1)] 3)).cell 0, ((K5.grown GZ (fun e => (by injection e with e; omega))).alloc (.cells #[.int .i64 x, .int .i64 30, .int .i64 31, .int .i64 (-1)] 3)).cell 1⟩
                clear hK K
                (try simp only [Act.put, List.setIfInBounds_toArray, List.set_cons_zero, List.set_cons_succ])
                refine wpAnyH_ready (rs := [11]) (by kernel_rfl) (by simp) ?_
                refine AllReadyH.cons (by rw [List.getElem?_toArray]; exact rfl) (fun K hK => ?_) ?_
                · obtain ⟨d0, d1, d2, d3⟩ := ((Q.alloc (.cells #[.int .i64 x, .int .i64 30, .int .i64 31, .int .i64 (-1)] 3))).two
                  go_simp
                  refine hK.out _ _ ?_ (fun hHeld => ?_)
                  · exact ⟨((((K5.grown GZ (fun e => (by injection e with e; omega))).alloc (.cells #[.int .i64 x, .int .i64 30, .int .i64 31, .int .i64 (-1)] 3)).far (p := ⟨w.heap.size, 0, none⟩) (by show _ ≠ w.heap.size; omega) (.slice A1 n1 c1)).far (p := ⟨w.heap.size, 1, none⟩) (by show _ ≠ w.heap.size; omega) (.slice A2 n2 c2)).cell 0, ((((K5.grown GZ (fun e => (by injection e with e; omega))).alloc (.cells #[.int .i64 x, .int .i64 30, .int .i64 31, .int .i64 (-1)] 3)).far (p := ⟨w.heap.size, 0, none⟩) (by show _ ≠ w.heap.size; omega) (.slice A1 n1 c1)).far (p := ⟨w.heap.size, 1, none⟩) (by show _ ≠ w.heap.size; omega) (.slice A2 n2 c2)).cell 1⟩
                  clear hK K
                  (try simp only [Act.put, List.setIfInBounds_toArray, List.set_cons_zero, List.set_cons_succ])
                  refine wpAnyH_take (i := 12) (v := ?vv12_80) (by rw [List.getElem?_toArray]; exact rfl) (by kernel_rfl) (by kernel_rfl) (by kernel_rfl) (by intro _ _ _ h; exact h) (Or.inl ⟨by rfl, ?hy12_80⟩) hHeld ?rest12_80
                  case' hy12_80 => (intro w hSw; (try dsimp only at hSw); go_simp; try (with_reducible rfl))
                  (try simp only [Act.put, List.setIfInBounds_toArray, List.set_cons_zero, List.set_cons_succ])
                  refine wpAnyH_done (by kernel_rfl) ?_ _
                  go_wp2_with fail
                  go_meet
                  exact ⟨u, rfl, ub.1, ub.2, (((Q.alloc (.cells #[.int .i64 x, .int .i64 30, .int .i64 31, .int .i64 (-1)] 3)).set_ 0 (.slice A1 n1 c1)).set_ 1 (.slice A2 n2 c2)), (((q1.alloc (.cells #[.int .i64 x, .int .i64 30, .int .i64 31, .int .i64 (-1)] 3)).set_low (p := ⟨w.heap.size, 0, none⟩) (by show w.heap.size < _; omega) (.slice A1 n1 c1)).set_low (p := ⟨w.heap.size, 1, none⟩) (by show w.heap.size < _; omega) (.slice A2 n2 c2)).mono (by omega), (((q2.alloc (.cells #[.int .i64 x, .int .i64 30, .int .i64 31, .int .i64 (-1)] 3)).set_low (p := ⟨w.heap.size, 0, none⟩) (by show w.heap.size < _; omega) (.slice A1 n1 c1)).set_low (p := ⟨w.heap.size, 1, none⟩) (by show w.heap.size < _; omega) (.slice A2 n2 c2)).mono (by omega), ((((BX).alloc (BX).size (.cells #[.int .i64 x, .int .i64 30, .int .i64 31, .int .i64 (-1)] 3)).setCell (p := ⟨w.heap.size, 0, none⟩) (Nat.le_refl _) (.slice A1 n1 c1)).setCell (p := ⟨w.heap.size, 1, none⟩) (Nat.le_refl _) (.slice A2 n2 c2))⟩
                exact AllReadyH.nil
              refine AllReadyH.cons (by rw [List.getElem?_toArray]; exact rfl) (fun K hK => ?_) ?_
              · obtain ⟨d0, d1, d2, d3⟩ := ((Q.alloc (.cells #[.int .i64 x, .int .i64 30, .int .i64 31, .int .i64 (-1)] 3))).two
                go_simp
                refine hK.out _ _ ?_ (fun hHeld => ?_)
                · exact ⟨((((K5.grown GZ (fun e => (by injection e with e; omega))).alloc (.cells #[.int .i64 x, .int .i64 30, .int .i64 31, .int .i64 (-1)] 3)).far (p := ⟨w.heap.size, 0, none⟩) (by show _ ≠ w.heap.size; omega) (.slice A1 n1 c1)).far (p := ⟨w.heap.size, 1, none⟩) (by show _ ≠ w.heap.size; omega) (.slice A2 n2 c2)).cell 0, ((((K5.grown GZ (fun e => (by injection e with e; omega))).alloc (.cells #[.int .i64 x, .int .i64 30, .int .i64 31, .int .i64 (-1)] 3)).far (p := ⟨w.heap.size, 0, none⟩) (by show _ ≠ w.heap.size; omega) (.slice A1 n1 c1)).far (p := ⟨w.heap.size, 1, none⟩) (by show _ ≠ w.heap.size; omega) (.slice A2 n2 c2)).cell 1⟩
                clear hK K
                (try simp only [Act.put, List.setIfInBounds_toArray, List.set_cons_zero, List.set_cons_succ])
                refine wpAnyH_ready (rs := [10]) (by kernel_rfl) (by simp) ?_
                refine AllReadyH.cons (by rw [List.getElem?_toArray]; exact rfl) (fun K hK => ?_) ?_
                · have f20 := ((((blkAt (w := wq) (g := wq.heap.size) rfl 3 #[.int .i64 x, .int .i64 30, .int .i64 31, .int .i64 (-1)]).far (p := ⟨w.heap.size, 0, none⟩) (by show _ ≠ w.heap.size; omega) (.slice A1 n1 c1)).far (p := ⟨w.heap.size, 1, none⟩) (by show _ ≠ w.heap.size; omega) (.slice A2 n2 c2)).cell v).trans ru
                  go_simp
                  refine hK.out _ _ ?_ (fun hHeld => ?_)
                  · exact ⟨((((K5.grown GZ (fun e => (by injection e with e; omega))).alloc (.cells #[.int .i64 x, .int .i64 30, .int .i64 31, .int .i64 (-1)] 3)).far (p := ⟨w.heap.size, 0, none⟩) (by show _ ≠ w.heap.size; omega) (.slice A1 n1 c1)).far (p := ⟨w.heap.size, 1, none⟩) (by show _ ≠ w.heap.size; omega) (.slice A2 n2 c2)).cell 0, ((((K5.grown GZ (fun e => (by injection e with e; omega))).alloc (.cells #[.int .i64 x, .int .i64 30, .int .i64 31, .int .i64 (-1)] 3)).far (p := ⟨w.heap.size, 0, none⟩) (by show _ ≠ w.heap.size; omega) (.slice A1 n1 c1)).far (p := ⟨w.heap.size, 1, none⟩) (by show _ ≠ w.heap.size; omega) (.slice A2 n2 c2)).cell 1⟩
                  clear hK K
                  (try simp only [Act.put, List.setIfInBounds_toArray, List.set_cons_zero, List.set_cons_succ])
                  refine wpAnyH_take (i := 12) (v := ?vv12_81) (by rw [List.getElem?_toArray]; exact rfl) (by kernel_rfl) (by kernel_rfl) (by kernel_rfl) (by intro _ _ _ h; exact h) (Or.inl ⟨by rfl, ?hy12_81⟩) hHeld ?rest12_81
                  case' hy12_81 => (intro w hSw; (try dsimp only at hSw); go_simp; try (with_reducible rfl))
                  (try simp only [Act.put, List.setIfInBounds_toArray, List.set_cons_zero, List.set_cons_succ])
                  refine wpAnyH_done (by kernel_rfl) ?_ _
                  go_wp2_with fail
                  go_meet
                  exact ⟨u, rfl, ub.1, ub.2, (((Q.alloc (.cells #[.int .i64 x, .int .i64 30, .int .i64 31, .int .i64 (-1)] 3)).set_ 0 (.slice A1 n1 c1)).set_ 1 (.slice A2 n2 c2)), (((q1.alloc (.cells #[.int .i64 x, .int .i64 30, .int .i64 31, .int .i64 (-1)] 3)).set_low (p := ⟨w.heap.size, 0, none⟩) (by show w.heap.size < _; omega) (.slice A1 n1 c1)).set_low (p := ⟨w.heap.size, 1, none⟩) (by show w.heap.size < _; omega) (.slice A2 n2 c2)).mono (by omega), (((q2.alloc (.cells #[.int .i64 x, .int .i64 30, .int .i64 31, .int .i64 (-1)] 3)).set_low (p := ⟨w.heap.size, 0, none⟩) (by show w.heap.size < _; omega) (.slice A1 n1 c1)).set_low (p := ⟨w.heap.size, 1, none⟩) (by show w.heap.size < _; omega) (.slice A2 n2 c2)).mono (by omega), ((((BX).alloc (BX).size (.cells #[.int .i64 x, .int .i64 30, .int .i64 31, .int .i64 (-1)] 3)).setCell (p := ⟨w.heap.size, 0, none⟩) (Nat.le_refl _) (.slice A1 n1 c1)).setCell (p := ⟨w.heap.size, 1, none⟩) (Nat.le_refl _) (.slice A2 n2 c2))⟩
                exact AllReadyH.nil
              exact AllReadyH.nil
            refine AllReadyH.cons (by rw [List.getElem?_toArray]; exact rfl) (fun K hK => ?_) ?_
            · obtain ⟨d0, d1, d2, d3⟩ := ((Q.alloc (.cells #[.int .i64 x, .int .i64 30, .int .i64 31, .int .i64 (-1)] 3))).two
              go_simp
              refine hK.out _ _ ?_ (fun hHeld => ?_)
              · exact ⟨((((K5.grown GZ (fun e => (by injection e with e; omega))).alloc (.cells #[.int .i64 x, .int .i64 30, .int .i64 31, .int .i64 (-1)] 3)).far (p := ⟨w.heap.size, 0, none⟩) (by show _ ≠ w.heap.size; omega) (.slice A1 n1 c1)).far (p := ⟨w.heap.size, 1, none⟩) (by show _ ≠ w.heap.size; omega) (.slice A2 n2 c2)).cell 0, ((((K5.grown GZ (fun e => (by injection e with e; omega))).alloc (.cells #[.int .i64 x, .int .i64 30, .int .i64 31, .int .i64 (-1)] 3)).far (p := ⟨w.heap.size, 0, none⟩) (by show _ ≠ w.heap.size; omega) (.slice A1 n1 c1)).far (p := ⟨w.heap.size, 1, none⟩) (by show _ ≠ w.heap.size; omega) (.slice A2 n2 c2)).cell 1⟩
              clear hK K
              (try simp only [Act.put, List.setIfInBounds_toArray, List.set_cons_zero, List.set_cons_succ])
              refine wpAnyH_ready (rs := [8]) (by kernel_rfl) (by simp) ?_
              refine AllReadyH.cons (by rw [List.getElem?_toArray]; exact rfl) (fun K hK => ?_) ?_
              · have f18 := ((((k4.alloc (.cells #[.int .i64 x, .int .i64 30, .int .i64 31, .int .i64 (-1)] 3)).far (p := ⟨w.heap.size, 0, none⟩) (by show _ ≠ w.heap.size; omega) (.slice A1 n1 c1)).far (p := ⟨w.heap.size, 1, none⟩) (by show _ ≠ w.heap.size; omega) (.slice A2 n2 c2)).cell yn).trans tv
                go_simp
                refine hK.out _ _ ?_ (fun hHeld => ?_)
                · exact ⟨((((K5.grown GZ (fun e => (by injection e with e; omega))).alloc (.cells #[.int .i64 x, .int .i64 30, .int .i64 31, .int .i64 (-1)] 3)).far (p := ⟨w.heap.size, 0, none⟩) (by show _ ≠ w.heap.size; omega) (.slice A1 n1 c1)).far (p := ⟨w.heap.size, 1, none⟩) (by show _ ≠ w.heap.size; omega) (.slice A2 n2 c2)).cell 0, ((((K5.grown GZ (fun e => (by injection e with e; omega))).alloc (.cells #[.int .i64 x, .int .i64 30, .int .i64 31, .int .i64 (-1)] 3)).far (p := ⟨w.heap.size, 0, none⟩) (by show _ ≠ w.heap.size; omega) (.slice A1 n1 c1)).far (p := ⟨w.heap.size, 1, none⟩) (by show _ ≠ w.heap.size; omega) (.slice A2 n2 c2)).cell 1⟩
                clear hK K
                (try simp only [Act.put, List.setIfInBounds_toArray, List.set_cons_zero, List.set_cons_succ])
                refine wpAnyH_take (i := 9) (v := ?vv9_82) (by rw [List.getElem?_toArray]; exact rfl) (by kernel_rfl) (by kernel_rfl) (by kernel_rfl) (by intro _ _ _ h; exact h) (Or.inl ⟨by rfl, ?hy9_82⟩) hHeld ?rest9_82
                case' hy9_82 => (intro w hSw; (try dsimp only at hSw); go_simp; try (with_reducible rfl))
                (try simp only [Act.put, List.setIfInBounds_toArray, List.set_cons_zero, List.set_cons_succ])
                refine wpAnyH_ready (rs := [10]) (by kernel_rfl) (by simp) ?_
                refine AllReadyH.cons (by rw [List.getElem?_toArray]; exact rfl) (fun K hK => ?_) ?_
                · have f20 := ((((blkAt (w := wq) (g := wq.heap.size) rfl 3 #[.int .i64 x, .int .i64 30, .int .i64 31, .int .i64 (-1)]).far (p := ⟨w.heap.size, 0, none⟩) (by show _ ≠ w.heap.size; omega) (.slice A1 n1 c1)).far (p := ⟨w.heap.size, 1, none⟩) (by show _ ≠ w.heap.size; omega) (.slice A2 n2 c2)).cell v).trans ru
                  go_simp
                  refine hK.out _ _ ?_ (fun hHeld => ?_)
                  · exact ⟨((((K5.grown GZ (fun e => (by injection e with e; omega))).alloc (.cells #[.int .i64 x, .int .i64 30, .int .i64 31, .int .i64 (-1)] 3)).far (p := ⟨w.heap.size, 0, none⟩) (by show _ ≠ w.heap.size; omega) (.slice A1 n1 c1)).far (p := ⟨w.heap.size, 1, none⟩) (by show _ ≠ w.heap.size; omega) (.slice A2 n2 c2)).cell 0, ((((K5.grown GZ (fun e => (by injection e with e; omega))).alloc (.cells #[.int .i64 x, .int .i64 30, .int .i64 31, .int .i64 (-1)] 3)).far (p := ⟨w.heap.size, 0, none⟩) (by show _ ≠ w.heap.size; omega) (.slice A1 n1 c1)).far (p := ⟨w.heap.size, 1, none⟩) (by show _ ≠ w.heap.size; omega) (.slice A2 n2 c2)).cell 1⟩
                  clear hK K
                  (try simp only [Act.put, List.setIfInBounds_toArray, List.set_cons_zero, List.set_cons_succ])
                  refine wpAnyH_take (i := 12) (v := ?vv12_83) (by rw [List.getElem?_toArray]; exact rfl) (by kernel_rfl) (by kernel_rfl) (by kernel_rfl) (by intro _ _ _ h; exact h) (Or.inl ⟨by rfl, ?hy12_83⟩) hHeld ?rest12_83
                  case' hy12_83 => (intro w hSw; (try dsimp only at hSw); go_simp; try (with_reducible rfl))
                  (try simp only [Act.put, List.setIfInBounds_toArray, List.set_cons_zero, List.set_cons_succ])
                  refine wpAnyH_done (by kernel_rfl) ?_ _
                  go_wp2_with fail
                  go_meet
                  exact ⟨u, rfl, ub.1, ub.2, (((Q.alloc (.cells #[.int .i64 x, .int .i64 30, .int .i64 31, .int .i64 (-1)] 3)).set_ 0 (.slice A1 n1 c1)).set_ 1 (.slice A2 n2 c2)), (((q1.alloc (.cells #[.int .i64 x, .int .i64 30, .int .i64 31, .int .i64 (-1)] 3)).set_low (p := ⟨w.heap.size, 0, none⟩) (by show w.heap.size < _; omega) (.slice A1 n1 c1)).set_low (p := ⟨w.heap.size, 1, none⟩) (by show w.heap.size < _; omega) (.slice A2 n2 c2)).mono (by omega), (((q2.alloc (.cells #[.int .i64 x, .int .i64 30, .int .i64 31, .int .i64 (-1)] 3)).set_low (p := ⟨w.heap.size, 0, none⟩) (by show w.heap.size < _; omega) (.slice A1 n1 c1)).set_low (p := ⟨w.heap.size, 1, none⟩) (by show w.heap.size < _; omega) (.slice A2 n2 c2)).mono (by omega), ((((BX).alloc (BX).size (.cells #[.int .i64 x, .int .i64 30, .int .i64 31, .int .i64 (-1)] 3)).setCell (p := ⟨w.heap.size, 0, none⟩) (Nat.le_refl _) (.slice A1 n1 c1)).setCell (p := ⟨w.heap.size, 1, none⟩) (Nat.le_refl _) (.slice A2 n2 c2))⟩
                exact AllReadyH.nil
              exact AllReadyH.nil
            exact AllReadyH.nil
          refine AllReadyH.cons (by rw [List.getElem?_toArray]; exact rfl) (fun K hK => ?_) ?_
          · have f18 := (k4.cell yn).trans tv
            go_simp
            refine hK.out _ _ ?_ (fun hHeld => ?_)
            · exact ⟨(K5.grown GZ (fun e => (by injection e with e; omega))).cell 0, (K5.grown GZ (fun e => (by injection e with e; omega))).cell 1⟩
            clear hK K
            (try simp only [Act.put, List.setIfInBounds_toArray, List.set_cons_zero, List.set_cons_succ])
            refine wpAnyH_ready (rs := [3, 11]) (by kernel_rfl) (by simp) ?_
            refine AllReadyH.cons (by rw [List.getElem?_toArray]; exact rfl) (fun K hK => ?_) ?_
            · go_simp
              refine hK.out _ _ ?_ (fun hHeld => ?_)
              · exact ⟨((K5.grown GZ (fun e => (by injection e with e; omega))).alloc (.cells #[.int .i64 x, .int .i64 30, .int .i64 31, .int .i64 (-1)] 3)).cell 0, ((K5.grown GZ (fun e => (by injection e with e; omega))).alloc (.cells #[.int .i64 x, .int .i64 30, .int .i64 31, .int .i64 (-1)] 3)).cell 1⟩
              clear hK K
              (try simp only [Act.put, List.setIfInBounds_toArray, List.set_cons_zero, List.set_cons_succ])
              refine wpAnyH_take (i := 9) (v := ?vv9_84) (by rw [List.getElem?_toArray]; exact rfl) (by kernel_rfl) (by kernel_rfl) (by kernel_rfl) (by intro _ _ _ h; exact h) (Or.inl ⟨by rfl, ?hy9_84⟩) hHeld ?rest9_84
              case' hy9_84 => (intro w hSw; (try dsimp only at hSw); go_simp; try (with_reducible rfl))
              (try simp only [Act.put, List.setIfInBounds_toArray, List.set_cons_zero, List.set_cons_succ])
              refine wpAnyH_ready (rs := [10, 11]) (by kernel_rfl) (by simp) ?_
              refine AllReadyH.cons (by rw [List.getElem?_toArray]; exact rfl) (fun K hK => ?_) ?_
              · have f20 := ((blkAt (w := wq) (g := wq.heap.size) rfl 3 #[.int .i64 x, .int .i64 30, .int .i64 31, .int .i64 (-1)]).cell v).trans ru
                go_simp
                refine hK.out _ _ ?_ (fun hHeld => ?_)
                · exact ⟨((K5.grown GZ (fun e => (by injection e with e; omega))).alloc (.cells #[.int .i64 x, .int .i64 30, .int .i64 31, .int .i64 (-1)] 3)).cell 0, ((K5.grown GZ (fun e => (by injection e with e; omega))).alloc (.cells #[.int .i64 x, .int .i64 30, .int .i64 31, .int .i64 (-1)] 3)).cell 1⟩
                clear hK K
                (try simp only [Act.put, List.setIfInBounds_toArray, List.set_cons_zero, List.set_cons_succ])
                refine wpAnyH_ready (rs := [11]) (by kernel_rfl) (by simp) ?_
                refine AllReadyH.cons (by rw [List.getElem?_toArray]; exact rfl) (fun K hK => ?_) ?_
                · obtain ⟨d0, d1, d2, d3⟩ := ((Q.alloc (.cells #[.int .i64 x, .int .i64 30, .int .i64 31, .int .i64 (-1)] 3))).two
                  go_simp
                  refine hK.out _ _ ?_ (fun hHeld => ?_)
                  · exact ⟨((((K5.grown GZ (fun e => (by injection e with e; omega))).alloc (.cells #[.int .i64 x, .int .i64 30, .int .i64 31, .int .i64 (-1)] 3)).far (p := ⟨w.heap.size, 0, none⟩) (by show _ ≠ w.heap.size; omega) (.slice A1 n1 c1)).far (p := ⟨w.heap.size, 1, none⟩) (by show _ ≠ w.heap.size; omega) (.slice A2 n2 c2)).cell 0, ((((K5.grown GZ (fun e => (by injection e with e; omega))).alloc (.cells #[.int .i64 x, .int .i64 30, .int .i64 31, .int .i64 (-1)] 3)).far (p := ⟨w.heap.size, 0, none⟩) (by show _ ≠ w.heap.size; omega) (.slice A1 n1 c1)).far (p := ⟨w.heap.size, 1, none⟩) (by show _ ≠ w.heap.size; omega) (.slice A2 n2 c2)).cell 1⟩
                  clear hK K
                  (try simp only [Act.put, List.setIfInBounds_toArray, List.set_cons_zero, List.set_cons_succ])
                  refine wpAnyH_take (i := 12) (v := ?vv12_85) (by rw [List.getElem?_toArray]; exact rfl) (by kernel_rfl) (by kernel_rfl) (by kernel_rfl) (by intro _ _ _ h; exact h) (Or.inl ⟨by rfl, ?hy12_85⟩) hHeld ?rest12_85
                  case' hy12_85 => (intro w hSw; (try dsimp only at hSw); go_simp; try (with_reducible rfl))
                  (try simp only [Act.put, List.setIfInBounds_toArray, List.set_cons_zero, List.set_cons_succ])
                  refine wpAnyH_done (by kernel_rfl) ?_ _
                  go_wp2_with fail
                  go_meet
                  exact ⟨u, rfl, ub.1, ub.2, (((Q.alloc (.cells #[.int .i64 x, .int .i64 30, .int .i64 31, .int .i64 (-1)] 3)).set_ 0 (.slice A1 n1 c1)).set_ 1 (.slice A2 n2 c2)), (((q1.alloc (.cells #[.int .i64 x, .int .i64 30, .int .i64 31, .int .i64 (-1)] 3)).set_low (p := ⟨w.heap.size, 0, none⟩) (by show w.heap.size < _; omega) (.slice A1 n1 c1)).set_low (p := ⟨w.heap.size, 1, none⟩) (by show w.heap.size < _; omega) (.slice A2 n2 c2)).mono (by omega), (((q2.alloc (.cells #[.int .i64 x, .int .i64 30, .int .i64 31, .int .i64 (-1)] 3)).set_low (p := ⟨w.heap.size, 0, none⟩) (by show w.heap.size < _; omega) (.slice A1 n1 c1)).set_low (p := ⟨w.heap.size, 1, none⟩) (by show w.heap.size < _; omega) (.slice A2 n2 c2)).mono (by omega), ((((BX).alloc (BX).size (.cells #[.int .i64 x, .int .i64 30, .int .i64 31, .int .i64 (-1)] 3)).setCell (p := ⟨w.heap.size, 0, none⟩) (Nat.le_refl _) (.slice A1 n1 c1)).setCell (p := ⟨w.heap.size, 1, none⟩) (Nat.le_refl _) (.slice A2 n2 c2))⟩
                exact AllReadyH.nil
              refine AllReadyH.cons (by rw [List.getElem?_toArray]; exact rfl) (fun K hK => ?_) ?_
              · obtain ⟨d0, d1, d2, d3⟩ := ((Q.alloc (.cells #[.int .i64 x, .int .i64 30, .int .i64 31, .int .i64 (-1)] 3))).two
                go_simp
                refine hK.out _ _ ?_ (fun hHeld => ?_)
                · exact ⟨((((K5.grown GZ (fun e => (by injection e with e; omega))).alloc (.cells #[.int .i64 x, .int .i64 30, .int .i64 31, .int .i64 (-1)] 3)).far (p := ⟨w.heap.size, 0, none⟩) (by show _ ≠ w.heap.size; omega) (.slice A1 n1 c1)).far (p := ⟨w.heap.size, 1, none⟩) (by show _ ≠ w.heap.size; omega) (.slice A2 n2 c2)).cell 0, ((((K5.grown GZ (fun e => (by injection e with e; omega))).alloc (.cells #[.int .i64 x, .int .i64 30, .int .i64 31, .int .i64 (-1)] 3)).far (p := ⟨w.heap.size, 0, none⟩) (by show _ ≠ w.heap.size; omega) (.slice A1 n1 c1)).far (p := ⟨w.heap.size, 1, none⟩) (by show _ ≠ w.heap.size; omega) (.slice A2 n2 c2)).cell 1⟩
                clear hK K
                (try simp only [Act.put, List.setIfInBounds_toArray, List.set_cons_zero, List.set_cons_succ])
                refine wpAnyH_ready (rs := [10]) (by kernel_rfl) (by simp) ?_
                refine AllReadyH.cons (by rw [List.getElem?_toArray]; exact rfl) (fun K hK => ?_) ?_
                · have f20 := ((((blkAt (w := wq) (g := wq.heap.size) rfl 3 #[.int .i64 x, .int .i64 30, .int .i64 31, .int .i64 (-1)]).far (p := ⟨w.heap.size, 0, none⟩) (by show _ ≠ w.heap.size; omega) (.slice A1 n1 c1)).far (p := ⟨w.heap.size, 1, none⟩) (by show _ ≠ w.heap.size; omega) (.slice A2 n2 c2)).cell v).trans ru
                  go_simp
                  refine hK.out _ _ ?_ (fun hHeld => ?_)
                  · exact ⟨((((K5.grown GZ (fun e => (by injection e with e; omega))).alloc (.cells #[.int .i64 x, .int .i64 30, .int .i64 31, .int .i64 (-1)] 3)).far (p := ⟨w.heap.size, 0, none⟩) (by show _ ≠ w.heap.size; omega) (.slice A1 n1 c1)).far (p := ⟨w.heap.size, 1, none⟩) (by show _ ≠ w.heap.size; omega) (.slice A2 n2 c2)).cell 0, ((((K5.grown GZ (fun e => (by injection e with e; omega))).alloc (.cells #[.int .i64 x, .int .i64 30, .int .i64 31, .int .i64 (-1)] 3)).far (p := ⟨w.heap.size, 0, none⟩) (by show _ ≠ w.heap.size; omega) (.slice A1 n1 c1)).far (p := ⟨w.heap.size, 1, none⟩) (by show _ ≠ w.heap.size; omega) (.slice A2 n2 c2)).cell 1⟩
                  clear hK K
                  (try simp only [Act.put, List.setIfInBounds_toArray, List.set_cons_zero, List.set_cons_succ])
                  refine wpAnyH_take (i := 12) (v := ?vv12_86) (by rw [List.getElem?_toArray]; exact rfl) (by kernel_rfl) (by kernel_rfl) (by kernel_rfl) (by intro _ _ _ h; exact h) (Or.inl ⟨by rfl, ?hy12_86⟩) hHeld ?rest12_86
                  case' hy12_86 => (intro w hSw; (try dsimp only at hSw); go_simp; try (with_reducible rfl))
                  (try simp only [Act.put, List.setIfInBounds_toArray, List.set_cons_zero, List.set_cons_succ])
                  refine wpAnyH_done (by kernel_rfl) ?_ _
                  go_wp2_with fail
                  go_meet
                  exact ⟨u, rfl, ub.1, ub.2, (((Q.alloc (.cells #[.int .i64 x, .int .i64 30, .int .i64 31, .int .i64 (-1)] 3)).set_ 0 (.slice A1 n1 c1)).set_ 1 (.slice A2 n2 c2)), (((q1.alloc (.cells #[.int .i64 x, .int .i64 30, .int .i64 31, .int .i64 (-1)] 3)).set_low (p := ⟨w.heap.size, 0, none⟩) (by show w.heap.size < _; omega) (.slice A1 n1 c1)).set_low (p := ⟨w.heap.size, 1, none⟩) (by show w.heap.size < _; omega) (.slice A2 n2 c2)).mono (by omega), (((q2.alloc (.cells #[.int .i64 x, .int .i64 30, .int .i64 31, .int .i64 (-1)] 3)).set_low (p := ⟨w.heap.size, 0, none⟩) (by show w.heap.size < _; omega) (.slice A1 n1 c1)).set_low (p := ⟨w.heap.size, 1, none⟩) (by show w.heap.size < _; omega) (.slice A2 n2 c2)).mono (by omega), ((((BX).alloc (BX).size (.cells #[.int .i64 x, .int .i64 30, .int .i64 31, .int .i64 (-1)] 3)).setCell (p := ⟨w.heap.size, 0, none⟩) (Nat.le_refl _) (.slice A1 n1 c1)).setCell (p := ⟨w.heap.size, 1, none⟩) (Nat.le_refl _) (.slice A2 n2 c2))⟩
                exact AllReadyH.nil
              exact AllReadyH.nil
            refine AllReadyH.cons (by rw [List.getElem?_toArray]; exact rfl) (fun K hK => ?_) ?_
            · obtain ⟨d0, d1, d2, d3⟩ := (Q).two
              go_simp
              refine hK.out _ _ ?_ (fun hHeld => ?_)
              · exact ⟨(((K5.grown GZ (fun e => (by injection e with e; omega))).far (p := ⟨w.heap.size, 0, none⟩) (by show _ ≠ w.heap.size; omega) (.slice A1 n1 c1)).far (p := ⟨w.heap.size, 1, none⟩) (by show _ ≠ w.heap.size; omega) (.slice A2 n2 c2)).cell 0, (((K5.grown GZ (fun e => (by injection e with e; omega))).far (p := ⟨w.heap.size, 0, none⟩) (by show _ ≠ w.heap.size; omega) (.slice A1 n1 c1)).far (p := ⟨w.heap.size, 1, none⟩) (by show _ ≠ w.heap.size; omega) (.slice A2 n2 c2)).cell 1⟩
              clear hK K
              (try simp only [Act.put, List.setIfInBounds_toArray, List.set_cons_zero, List.set_cons_succ])
              refine wpAnyH_ready (rs := [3]) (by kernel_rfl) (by simp) ?_
              refine AllReadyH.cons (by rw [List.getElem?_toArray]; exact rfl) (fun K hK => ?_) ?_
              · go_simp
                refine hK.out _ _ ?_ (fun hHeld => ?_)
                · exact ⟨((((K5.grown GZ (fun e => (by injection e with e; omega))).far (p := ⟨w.heap.size, 0, none⟩) (by show _ ≠ w.heap.size; omega) (.slice A1 n1 c1)).far (p := ⟨w.heap.size, 1, none⟩) (by show _ ≠ w.heap.size; omega) (.slice A2 n2 c2)).alloc (.cells #[.int .i64 x, .int .i64 30, .int .i64 31, .int .i64 (-1)] 3)).cell 0, ((((K5.grown GZ (fun e => (by injection e with e; omega))).far (p := ⟨w.heap.size, 0, none⟩) (by show _ ≠ w.heap.size; omega) (.slice A1 n1 c1)).far (p := ⟨w.heap.size, 1, none⟩) (by show _ ≠ w.heap.size; omega) (.slice A2 n2 c2)).alloc (.cells #[.int .i64 x, .int .i64 30, .int .i64 31, .int .i64 (-1)] 3)).cell 1⟩
                clear hK K
                (try simp only [Act.put, List.setIfInBounds_toArray, List.set_cons_zero, List.set_cons_succ])
                refine wpAnyH_take (i := 9) (v := ?vv9_87) (by rw [List.getElem?_toArray]; exact rfl) (by kernel_rfl) (by kernel_rfl) (by kernel_rfl) (by intro _ _ _ h; exact h) (Or.inl ⟨by rfl, ?hy9_87⟩) hHeld ?rest9_87
                case' hy9_87 => (intro w hSw; (try dsimp only at hSw); go_simp; try (with_reducible rfl))
                (try simp only [Act.put, List.setIfInBounds_toArray, List.set_cons_zero, List.set_cons_succ])
                refine wpAnyH_ready (rs := [10]) (by kernel_rfl) (by simp) ?_
                refine AllReadyH.cons (by rw [List.getElem?_toArray]; exact rfl) (fun K hK => ?_) ?_
                · have f20 := ((blkAt (w := ((wq.setCell ⟨w.heap.size, 0, none⟩ (.slice A1 n1 c1)).setCell ⟨w.heap.size, 1, none⟩ (.slice A2 n2 c2))) (g := wq.heap.size) (by simp only [World.size_alloc, size_setCell]) 3 #[.int .i64 x, .int .i64 30, .int .i64 31, .int .i64 (-1)]).cell v).trans ru
                  go_simp
                  refine hK.out _ _ ?_ (fun hHeld => ?_)
                  · exact ⟨((((K5.grown GZ (fun e => (by injection e with e; omega))).far (p := ⟨w.heap.size, 0, none⟩) (by show _ ≠ w.heap.size; omega) (.slice A1 n1 c1)).far (p := ⟨w.heap.size, 1, none⟩) (by show _ ≠ w.heap.size; omega) (.slice A2 n2 c2)).alloc (.cells #[.int .i64 x, .int .i64 30, .int .i64 31, .int .i64 (-1)] 3)).cell 0, ((((K5.grown GZ (fun e => (by injection e with e; omega))).far (p := ⟨w.heap.size, 0, none⟩) (by show _ ≠ w.heap.size; omega) (.slice A1 n1 c1)).far (p := ⟨w.heap.size, 1, none⟩) (by show _ ≠ w.heap.size; omega) (.slice A2 n2 c2)).alloc (.cells #[.int .i64 x, .int .i64 30, .int .i64 31, .int .i64 (-1)] 3)).cell 1⟩
                  clear hK K
                  (try simp only [Act.put, List.setIfInBounds_toArray, List.set_cons_zero, List.set_cons_succ])
                  refine wpAnyH_take (i := 12) (v := ?vv12_88) (by rw [List.getElem?_toArray]; exact rfl) (by kernel_rfl) (by kernel_rfl) (by kernel_rfl) (by intro _ _ _ h; exact h) (Or.inl ⟨by rfl, ?hy12_88⟩) hHeld ?rest12_88
                  case' hy12_88 => (intro w hSw; (try dsimp only at hSw); go_simp; try (with_reducible rfl))
                  (try simp only [Act.put, List.setIfInBounds_toArray, List.set_cons_zero, List.set_cons_succ])
                  refine wpAnyH_done (by kernel_rfl) ?_ _
                  go_wp2_with fail
                  go_meet
                  exact ⟨u, rfl, ub.1, ub.2, (((Q.set_ 0 (.slice A1 n1 c1)).set_ 1 (.slice A2 n2 c2)).alloc (.cells #[.int .i64 x, .int .i64 30, .int .i64 31, .int .i64 (-1)] 3)), (((q1.set_low (p := ⟨w.heap.size, 0, none⟩) (by show w.heap.size < _; omega) (.slice A1 n1 c1)).set_low (p := ⟨w.heap.size, 1, none⟩) (by show w.heap.size < _; omega) (.slice A2 n2 c2)).alloc (.cells #[.int .i64 x, .int .i64 30, .int .i64 31, .int .i64 (-1)] 3)).mono (by omega), (((q2.set_low (p := ⟨w.heap.size, 0, none⟩) (by show w.heap.size < _; omega) (.slice A1 n1 c1)).set_low (p := ⟨w.heap.size, 1, none⟩) (by show w.heap.size < _; omega) (.slice A2 n2 c2)).alloc (.cells #[.int .i64 x, .int .i64 30, .int .i64 31, .int .i64 (-1)] 3)).mono (by omega), ((((BX.setCell (p := ⟨w.heap.size, 0, none⟩) (Nat.le_refl _) (.slice A1 n1 c1)).setCell (p := ⟨w.heap.size, 1, none⟩) (Nat.le_refl _) (.slice A2 n2 c2))).alloc (((BX.setCell (p := ⟨w.heap.size, 0, none⟩) (Nat.le_refl _) (.slice A1 n1 c1)).setCell (p := ⟨w.heap.size, 1, none⟩) (Nat.le_refl _) (.slice A2 n2 c2))).size (.cells #[.int .i64 x, .int .i64 30, .int .i64 31, .int .i64 (-1)] 3))⟩
                exact AllReadyH.nil
              exact AllReadyH.nil
            exact AllReadyH.nil
          refine AllReadyH.cons (by rw [List.getElem?_toArray]; exact rfl) (fun K hK => ?_) ?_
          · obtain ⟨d0, d1, d2, d3⟩ := (Q).two
            go_simp
            refine hK.out _ _ ?_ (fun hHeld => ?_)
            · exact ⟨(((K5.grown GZ (fun e => (by injection e with e; omega))).far (p := ⟨w.heap.size, 0, none⟩) (by show _ ≠ w.heap.size; omega) (.slice A1 n1 c1)).far (p := ⟨w.heap.size, 1, none⟩) (by show _ ≠ w.heap.size; omega) (.slice A2 n2 c2)).cell 0, (((K5.grown GZ (fun e => (by injection e with e; omega))).far (p := ⟨w.heap.size, 0, none⟩) (by show _ ≠ w.heap.size; omega) (.slice A1 n1 c1)).far (p := ⟨w.heap.size, 1, none⟩) (by show _ ≠ w.heap.size; omega) (.slice A2 n2 c2)).cell 1⟩
            clear hK K
            (try simp only [Act.put, List.setIfInBounds_toArray, List.set_cons_zero, List.set_cons_succ])
            refine wpAnyH_ready (rs := [3, 8]) (by kernel_rfl) (by simp) ?_
            refine AllReadyH.cons (by rw [List.getElem?_toArray]; exact rfl) (fun K hK => ?_) ?_
            · go_simp
              refine hK.out _ _ ?_ (fun hHeld => ?_)
              · exact ⟨((((K5.grown GZ (fun e => (by injection e with e; omega))).far (p := ⟨w.heap.size, 0, none⟩) (by show _ ≠ w.heap.size; omega) (.slice A1 n1 c1)).far (p := ⟨w.heap.size, 1, none⟩) (by show _ ≠ w.heap.size; omega) (.slice A2 n2 c2)).alloc (.cells #[.int .i64 x, .int .i64 30, .int .i64 31, .int .i64 (-1)] 3)).cell 0, ((((K5.grown GZ (fun e => (by injection e with e; omega))).far (p := ⟨w.heap.size, 0, none⟩) (by show _ ≠ w.heap.size; omega) (.slice A1 n1 c1)).far (p := ⟨w.heap.size, 1, none⟩) (by show _ ≠ w.heap.size; omega) (.slice A2 n2 c2)).alloc (.cells #[.int .i64 x, .int .i64 30, .int .i64 31, .int .i64 (-1)] 3)).cell 1⟩
              clear hK K
              (try simp only [Act.put, List.setIfInBounds_toArray, List.set_cons_zero, List.set_cons_succ])
              refine wpAnyH_ready (rs := [8]) (by kernel_rfl) (by simp) ?_
              refine AllReadyH.cons (by rw [List.getElem?_toArray]; exact rfl) (fun K hK => ?_) ?_
              · have f18 := ((((k4.far (p := ⟨w.heap.size, 0, none⟩) (by show _ ≠ w.heap.size; omega) (.slice A1 n1 c1)).far (p := ⟨w.heap.size, 1, none⟩) (by show _ ≠ w.heap.size; omega) (.slice A2 n2 c2)).alloc (.cells #[.int .i64 x, .int .i64 30, .int .i64 31, .int .i64 (-1)] 3)).cell yn).trans tv
                go_simp
                refine hK.out _ _ ?_ (fun hHeld => ?_)
                · exact ⟨((((K5.grown GZ (fun e => (by injection e with e; omega))).far (p := ⟨w.heap.size, 0, none⟩) (by show _ ≠ w.heap.size; omega) (.slice A1 n1 c1)).far (p := ⟨w.heap.size, 1, none⟩) (by show _ ≠ w.heap.size; omega) (.slice A2 n2 c2)).alloc (.cells #[.int .i64 x, .int .i64 30, .int .i64 31, .int .i64 (-1)] 3)).cell 0, ((((K5.grown GZ (fun e => (by injection e with e; omega))).far (p := ⟨w.heap.size, 0, none⟩) (by show _ ≠ w.heap.size; omega) (.slice A1 n1 c1)).far (p := ⟨w.heap.size, 1, none⟩) (by show _ ≠ w.heap.size; omega) (.slice A2 n2 c2)).alloc (.cells #[.int .i64 x, .int .i64 30, .int .i64 31, .int .i64 (-1)] 3)).cell 1⟩
                clear hK K
                (try simp only [Act.put, List.setIfInBounds_toArray, List.set_cons_zero, List.set_cons_succ])
                refine wpAnyH_take (i := 9) (v := ?vv9_89) (by rw [List.getElem?_toArray]; exact rfl) (by kernel_rfl) (by kernel_rfl) (by kernel_rfl) (by intro _ _ _ h; exact h) (Or.inl ⟨by rfl, ?hy9_89⟩) hHeld ?rest9_89
                case' hy9_89 => (intro w hSw; (try dsimp only at hSw); go_simp; try (with_reducible rfl))
                (try simp only [Act.put, List.setIfInBounds_toArray, List.set_cons_zero, List.set_cons_succ])
                refine wpAnyH_ready (rs := [10]) (by kernel_rfl) (by simp) ?_
                refine AllReadyH.cons (by rw [List.getElem?_toArray]; exact rfl) (fun K hK => ?_) ?_
                · have f20 := ((blkAt (w := ((wq.setCell ⟨w.heap.size, 0, none⟩ (.slice A1 n1 c1)).setCell ⟨w.heap.size, 1, none⟩ (.slice A2 n2 c2))) (g := wq.heap.size) (by simp only [World.size_alloc, size_setCell]) 3 #[.int .i64 x, .int .i64 30, .int .i64 31, .int .i64 (-1)]).cell v).trans ru
                  go_simp
                  refine hK.out _ _ ?_ (fun hHeld => ?_)
                  · exact ⟨((((K5.grown GZ (fun e => (by injection e with e; omega))).far (p := ⟨w.heap.size, 0, none⟩) (by show _ ≠ w.heap.size; omega) (.slice A1 n1 c1)).far (p := ⟨w.heap.size, 1, none⟩) (by show _ ≠ w.heap.size; omega) (.slice A2 n2 c2)).alloc (.cells #[.int .i64 x, .int .i64 30, .int .i64 31, .int .i64 (-1)] 3)).cell 0, ((((K5.grown GZ (fun e => (by injection e with e; omega))).far (p := ⟨w.heap.size, 0, none⟩) (by show _ ≠ w.heap.size; omega) (.slice A1 n1 c1)).far (p := ⟨w.heap.size, 1, none⟩) (by show _ ≠ w.heap.size; omega) (.slice A2 n2 c2)).alloc (.cells #[.int .i64 x, .int .i64 30, .int .i64 31, .int .i64 (-1)] 3)).cell 1⟩
                  clear hK K
                  (try simp only [Act.put, List.setIfInBounds_toArray, List.set_cons_zero, List.set_cons_succ])
                  refine wpAnyH_take (i := 12) (v := ?vv12_90) (by rw [List.getElem?_toArray]; exact rfl) (by kernel_rfl) (by kernel_rfl) (by kernel_rfl) (by intro _ _ _ h; exact h) (Or.inl ⟨by rfl, ?hy12_90⟩) hHeld ?rest12_90
                  case' hy12_90 => (intro w hSw; (try dsimp only at hSw); go_simp; try (with_reducible rfl))
                  (try simp only [Act.put, List.setIfInBounds_toArray, List.set_cons_zero, List.set_cons_succ])
                  refine wpAnyH_done (by kernel_rfl) ?_ _
                  go_wp2_with fail
                  go_meet
                  exact ⟨u, rfl, ub.1, ub.2, (((Q.set_ 0 (.slice A1 n1 c1)).set_ 1 (.slice A2 n2 c2)).alloc (.cells #[.int .i64 x, .int .i64 30, .int .i64 31, .int .i64 (-1)] 3)), (((q1.set_low (p := ⟨w.heap.size, 0, none⟩) (by show w.heap.size < _; omega) (.slice A1 n1 c1)).set_low (p := ⟨w.heap.size, 1, none⟩) (by show w.heap.size < _; omega) (.slice A2 n2 c2)).alloc (.cells #[.int .i64 x, .int .i64 30, .int .i64 31, .int .i64 (-1)] 3)).mono (by omega), (((q2.set_low (p := ⟨w.heap.size, 0, none⟩) (by show w.heap.size < _; omega) (.slice A1 n1 c1)).set_low (p := ⟨w.heap.size, 1, none⟩) (by show w.heap.size < _; omega) (.slice A2 n2 c2)).alloc (.cells #[.int .i64 x, .int .i64 30, .int .i64 31, .int .i64 (-1)] 3)).mono (by omega), ((((BX.setCell (p := ⟨w.heap.size, 0, none⟩) (Nat.le_refl _) (.slice A1 n1 c1)).setCell (p := ⟨w.heap.size, 1, none⟩) (Nat.le_refl _) (.slice A2 n2 c2))).alloc (((BX.setCell (p := ⟨w.heap.size, 0, none⟩) (Nat.le_refl _) (.slice A1 n1 c1)).setCell (p := ⟨w.heap.size, 1, none⟩) (Nat.le_refl _) (.slice A2 n2 c2))).size (.cells #[.int .i64 x, .int .i64 30, .int .i64 31, .int .i64 (-1)] 3))⟩
                exact AllReadyH.nil
              exact AllReadyH.nil
            refine AllReadyH.cons (by rw [List.getElem?_toArray]; exact rfl) (fun K hK => ?_) ?_
            · have f18 := (((k4.far (p := ⟨w.heap.size, 0, none⟩) (by show _ ≠ w.heap.size; omega) (.slice A1 n1 c1)).far (p := ⟨w.heap.size, 1, none⟩) (by show _ ≠ w.heap.size; omega) (.slice A2 n2 c2)).cell yn).trans tv
              go_simp
              refine hK.out _ _ ?_ (fun hHeld => ?_)
              · exact ⟨(((K5.grown GZ (fun e => (by injection e with e; omega))).far (p := ⟨w.heap.size, 0, none⟩) (by show _ ≠ w.heap.size; omega) (.slice A1 n1 c1)).far (p := ⟨w.heap.size, 1, none⟩) (by show _ ≠ w.heap.size; omega) (.slice A2 n2 c2)).cell 0, (((K5.grown GZ (fun e => (by injection e with e; omega))).far (p := ⟨w.heap.size, 0, none⟩) (by show _ ≠ w.heap.size; omega) (.slice A1 n1 c1)).far (p := ⟨w.heap.size, 1, none⟩) (by show _ ≠ w.heap.size; omega) (.slice A2 n2 c2)).cell 1⟩
              clear hK K
              (try simp only [Act.put, List.setIfInBounds_toArray, List.set_cons_zero, List.set_cons_succ])
              refine wpAnyH_ready (rs := [3]) (by kernel_rfl) (by simp) ?_
              refine AllReadyH.cons (by rw [List.getElem?_toArray]; exact rfl) (fun K hK => ?_) ?_
              · go_simp
                refine hK.out _ _ ?_ (fun hHeld => ?_)
                · exact ⟨((((K5.grown GZ (fun e => (by injection e with e; omega))).far (p := ⟨w.heap.size, 0, none⟩) (by show _ ≠ w.heap.size; omega) (.slice A1 n1 c1)).far (p := ⟨w.heap.size, 1, none⟩) (by show _ ≠ w.heap.size; omega) (.slice A2 n2 c2)).alloc (.cells #[.int .i64 x, .int .i64 30, .int .i64 31, .int .i64 (-1)] 3)).cell 0, ((((K5.grown GZ (fun e => (by injection e with e; omega))).far (p := ⟨w.heap.size, 0, none⟩) (by show _ ≠ w.heap.size; omega) (.slice A1 n1 c1)).far (p := ⟨w.heap.size, 1, none⟩) (by show _ ≠ w.heap.size; omega) (.slice A2 n2 c2)).alloc (.cells #[.int .i64 x, .int .i64 30, .int .i64 31, .int .i64 (-1)] 3)).cell 1⟩
                clear hK K
                (try simp only [Act.put, List.setIfInBounds_toArray, List.set_cons_zero, List.set_cons_succ])
                refine wpAnyH_take (i := 9) (v := ?vv9_91) (by rw [List.getElem?_toArray]; exact rfl) (by kernel_rfl) (by kernel_rfl) (by kernel_rfl) (by intro _ _ _ h; exact h) (Or.inl ⟨by rfl, ?hy9_91⟩) hHeld ?rest9_91
                case' hy9_91 => (intro w hSw; (try dsimp only at hSw); go_simp; try (with_reducible rfl))
                (try simp only [Act.put, List.setIfInBounds_toArray, List.set_cons_zero, List.set_cons_succ])
                refine wpAnyH_ready (rs := [10]) (by kernel_rfl) (by simp) ?_
                refine AllReadyH.cons (by rw [List.getElem?_toArray]; exact rfl) (fun K hK => ?_) ?_
                · have f20 := ((blkAt (w := ((wq.setCell ⟨w.heap.size, 0, none⟩ (.slice A1 n1 c1)).setCell ⟨w.heap.size, 1, none⟩ (.slice A2 n2 c2))) (g := wq.heap.size) (by simp only [World.size_alloc, size_setCell]) 3 #[.int .i64 x, .int .i64 30, .int .i64 31, .int .i64 (-1)]).cell v).trans ru
                  go_simp
                  refine hK.out _ _ ?_ (fun hHeld => ?_)
                  · exact ⟨((((K5.grown GZ (fun e => (by injection e with e; omega))).far (p := ⟨w.heap.size, 0, none⟩) (by show _ ≠ w.heap.size; omega) (.slice A1 n1 c1)).far (p := ⟨w.heap.size, 1, none⟩) (by show _ ≠ w.heap.size; omega) (.slice A2 n2 c2)).alloc (.cells #[.int .i64 x, .int .i64 30, .int .i64 31, .int .i64 (-1)] 3)).cell 0, ((((K5.grown GZ (fun e => (by injection e with e; omega))).far (p := ⟨w.heap.size, 0, none⟩) (by show _ ≠ w.heap.size; omega) (.slice A1 n1 c1)).far (p := ⟨w.heap.size, 1, none⟩) (by show _ ≠ w.heap.size; omega) (.slice A2 n2 c2)).alloc (.cells #[.int .i64 x, .int .i64 30, .int .i64 31, .int .i64 (-1)] 3)).cell 1⟩
                  clear hK K
                  (try simp only [Act.put, List.setIfInBounds_toArray, List.set_cons_zero, List.set_cons_succ])
                  refine wpAnyH_take (i := 12) (v := ?vv12_92) (by rw [List.getElem?_toArray]; exact rfl) (by kernel_rfl) (by kernel_rfl) (by kernel_rfl) (by intro _ _ _ h; exact h) (Or.inl ⟨by rfl, ?hy12_92⟩) hHeld ?rest12_92
                  case' hy12_92 => (intro w hSw; (try dsimp only at hSw); go_simp; try (with_reducible rfl))
                  (try simp only [Act.put, List.setIfInBounds_toArray, List.set_cons_zero, List.set_cons_succ])
                  refine wpAnyH_done (by kernel_rfl) ?_ _
                  go_wp2_with fail
                  go_meet
                  exact ⟨u, rfl, ub.1, ub.2, (((Q.set_ 0 (.slice A1 n1 c1)).set_ 1 (.slice A2 n2 c2)).alloc (.cells #[.int .i64 x, .int .i64 30, .int .i64 31, .int .i64 (-1)] 3)), (((q1.set_low (p := ⟨w.heap.size, 0, none⟩) (by show w.heap.size < _; omega) (.slice A1 n1 c1)).set_low (p := ⟨w.heap.size, 1, none⟩) (by show w.heap.size < _; omega) (.slice A2 n2 c2)).alloc (.cells #[.int .i64 x, .int .i64 30, .int .i64 31, .int .i64 (-1)] 3)).mono (by omega), (((q2.set_low (p := ⟨w.heap.size, 0, none⟩) (by show w.heap.size < _; omega) (.slice A1 n1 c1)).set_low (p := ⟨w.heap.size, 1, none⟩) (by show w.heap.size < _; omega) (.slice A2 n2 c2)).alloc (.cells #[.int .i64 x, .int .i64 30, .int .i64 31, .int .i64 (-1)] 3)).mono (by omega), ((((BX.setCell (p := ⟨w.heap.size, 0, none⟩) (Nat.le_refl _) (.slice A1 n1 c1)).setCell (p := ⟨w.heap.size, 1, none⟩) (Nat.le_refl _) (.slice A2 n2 c2))).alloc (((BX.setCell (p := ⟨w.heap.size, 0, none⟩) (Nat.le_refl _) (.slice A1 n1 c1)).setCell (p := ⟨w.heap.size, 1, none⟩) (Nat.le_refl _) (.slice A2 n2 c2))).size (.cells #[.int .i64 x, .int .i64 30, .int .i64 31, .int .i64 (-1)] 3))⟩
                exact AllReadyH.nil
              exact AllReadyH.nil
            exact AllReadyH.nil
          exact AllReadyH.nil
        exact AllReadyH.nil
      exact AllReadyH.nil
    exact AllReadyH.nil
  case rest =>
    obtain ⟨u, rfl, u0, u1, Q, q1, q2, BX⟩ := hcut
    rename World => wx
    obtain ⟨t0, t1, _, _⟩ := Q.two
    go_wp2_with fail
    exact bodyPost_ret (v := .tuple #[.agg #[.slice A1 n1 c1, .slice A2 n2 c2], .int .i64 u]) (by simp [results, Tryd.results37, go_sem, t0, t1]) rfl ⟨A1, n1, c1, xs, A2, n2, c2, ys, u, rfl, q1, q2, u0, u1, BX⟩

end Go.Proofs.YtcoienlblhbkpaaDoor
