/- DrawNumbersText: drawn numbers. -/
import Derived.Test.YtkppbcejhojpiaaDoorDraw3
import Derived.Test.YtkppbcejhojpiaaDoorDrawB
namespace Go.Proofs.YtkppbcejhojpiaaDoor
open Go.RowKit

def DrawNuR (w : World) (e : Ending) (w' : World) : Prop := ∃ v n xs, e = .returned v ∧ SI w' v n xs ∧ n ≤ 100 ∧ Below w.heap.size w w'
set_option maxRecDepth 100000 in
set_option maxHeartbeats 4000000 in
theorem DrawNumbersText_c {w : World} {A : Option Addr} {n c : Nat} (hnc : n ≤ c) (hmx : c ≤ maxLen) (hb : BY w w.heap.size A n) : Calls Tryd.prog 9 #[.slice A n c] w (DrawNuR w) := by
  go_enter Tryd.func9, Tryd.ntmps9
  go_wp2_with fail
  refine (l20Open_c hnc hmx hb).mono ?_
  rintro e w1 ⟨rfl, r1, b1⟩
  have hz1 := r1.lt
  have o1 := OI.empty w1
  have B1 := b1.alloc b1.size (.cells #[] 3)
  go_wp2_with fail
  refine (pick_c (r1.alloc _) (by omega) (by omega) (by omega)).mono ?_
  rintro e w2 ⟨x, rfl, x0, x1, r2, g2⟩
  have B2 := belowG B1 g2 (Nat.le_refl _)
  have o2 := o1.grown g2 (o1.block_ne hz1)
  obtain ⟨j0, rfl⟩ : ∃ j : Nat, x = j := ⟨x.toNat, by omega⟩
  have hz12 : w1.heap.size ≤ w2.heap.size := by have := g2.size; simp at this; omega
  clear g2 o1 B1 b1 r1
  go_wp2_with fail
  go_loopw [4, 5] (fun v i wr => ∃ (j m : Nat) (xs : List Int), i = .int .i64 j ∧ m + j ≤ 6 ∧ OI wr w1.heap.size v m xs ∧ RD wr w.heap.size (100 - 2 * j) ∧ w1.heap.size ≤ wr.heap.size ∧ Below w.heap.size w wr) (fun _ i _ => (intOf i).toNat)
  case atStart => exact ⟨j0, 0, [], rfl, by omega, o2, r2.mono (by omega), hz12, B2⟩
  case round =>
    clear o2 r2 B2 hz12
    obtain ⟨j, m, xs, rfl, hj, o2, r2, hz12, B2⟩ := hrel
    by_cases hlt : 0 < j
    · have hlt' : (0 : Int) < j := by omega
      go_wp2_with fail
      refine (pick_c r2 (by omega) (by omega) (by omega)).mono ?_
      rintro e w3 ⟨y, rfl, y0, y1, r3, g3⟩
      have B3 := belowG B2 g3 (Nat.le_refl _)
      have o3 := o2.grown g3 (o2.block_ne hz1)
      have hz3 : w1.heap.size ≤ w3.heap.size := Nat.le_trans hz12 g3.size
      go_wp2_with (at_builtin; refine wpList_appI rfl _ _ rfl rfl (o3.alloc _) rfl (SI.one _ _ _ (by omega)) (by omega) (by simp <;> omega) ?_; intro v4 w4 o4 g4 hat)
      have B4 := below_app (B3.alloc B3.size _) (o3.alloc _) (by omega) g4
      have r4 := (r3.alloc _).own (o3.alloc _) (by omega) g4
      go_roundw
      case rel => exact ⟨j - 1, m + 1, _, by go_num, by omega, o4, r4.mono (by omega), by have := g4.size; simp at this; omega, B4⟩
      case measure => simp [intOf]; omega
    · obtain rfl : j = 0 := by omega
      go_wp2_with fail
      refine (odd_c r2 (by omega) (by omega) (by omega)).mono ?_
      rintro e w5 ⟨b, rfl, r5, g5⟩
      have B5 := belowG B2 g5 (Nat.le_refl _)
      have o5 := o2.grown g5 (o2.block_ne hz1)
      have hz5 : w1.heap.size ≤ w5.heap.size := Nat.le_trans hz12 g5.size
      cases b
      · go_wp2_with fail
        go_ret
        exact ⟨_, m, xs, rfl, o5.si, by omega, B5⟩
      · have K := Blk.new w5 3 #[.int .i64 (-1), .int .i64 1001, .int .i64 1000]
        have r6 := r5.alloc (.cells #[.int .i64 (-1), .int .i64 1001, .int .i64 1000] 3)
        have o6 := o5.alloc (.cells #[.int .i64 (-1), .int .i64 1001, .int .i64 1000] 3)
        have B6 := B5.alloc B5.size (.cells #[.int .i64 (-1), .int .i64 1001, .int .i64 1000] 3)
        go_wp2_with fail
        refine (pick_c r6 (by omega) (by omega) (by omega)).mono ?_
        rintro e w7 ⟨x, rfl, x0, x1, r7, g7⟩
        have B7 := belowG B6 g7 (Nat.le_refl _)
        have o7 := o6.grown g7 (o6.block_ne hz1)
        have L := K.grown g7 (fun e => by injection e with e; omega)
        have hz7 : w1.heap.size ≤ w7.heap.size := by have := g7.size; simp at this; omega
        have hx : x = 0 ∨ x = 1 ∨ x = 2 := by omega
        have c0 : w7.cell? ⟨w5.heap.size, 0, none⟩ = some (.int .i64 (-1)) := L.cell 0
        have c1 : w7.cell? ⟨w5.heap.size, 1, none⟩ = some (.int .i64 1001) := L.cell 1
        have c2 : w7.cell? ⟨w5.heap.size, 2, none⟩ = some (.int .i64 1000) := L.cell 2
        rcases hx with rfl | rfl | rfl
        all_goals
          go_wp2_with (at_builtin; refine wpList_appI rfl _ _ rfl rfl (o7.alloc _) rfl (SI.one _ _ _ (by omega)) (by omega) (by simp <;> omega) ?_; intro v8 w8 o8 g8 hat)
          have B8 := below_app (B7.alloc B7.size _) (o7.alloc _) (by omega) g8
          go_ret
          exact ⟨_, m + 1, _, rfl, o8.si, by omega, B8⟩

end Go.Proofs.YtkppbcejhojpiaaDoor
