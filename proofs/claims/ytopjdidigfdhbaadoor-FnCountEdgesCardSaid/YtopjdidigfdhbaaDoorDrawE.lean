/- l20Edges: a number of nodes, and edges. -/
import Derived.Test.YtopjdidigfdhbaaDoorDraw3
import Derived.Test.YtopjdidigfdhbaaDoorDrawB
import Derived.Test.YtopjdidigfdhbaaDoorApp3
namespace Go.Proofs.YtopjdidigfdhbaaDoor
open Go.RowKit

theorem infoEd : (Tryd.prog.info? 69).map (fun i => (i.zero, i.size, i.bytes)) = some (some (.agg #[.int .i64 0, .int .i64 0, .int .i64 0]), 3, 24) := by kernel_rfl
theorem grown_own3 {te : TypeId} {a b c : World} {row : Option Nat} {B : Nat} {v : Value} {n : Nat} {ts : List T3} (h : a.grownBy b row) (o : O3 te b B v n ts) (hB : a.heap.size ≤ B) (k : b.grownBy c v.ownBlock) : a.grownBy c row :=
  ⟨k.os.trans h.os, k.tape.trans h.tape, k.output.trans h.output, Nat.le_trans h.size k.size, fun i hi hn => (k.block i (Nat.lt_of_lt_of_le hi h.size) (fun e => by have := (World.ownsRow.lt o.1 i e.symm).1; omega)).trans (h.block i hi hn)⟩
theorem RD.own3 {te : TypeId} {b c : World} {g P B : Nat} {v : Value} {n : Nat} {ts : List T3} (r : RD b g P) (o : O3 te b B v n ts) (hB : g < B) (k : b.grownBy c v.ownBlock) : RD c g P :=
  r.grown k fun i hi => by have := (World.ownsRow.lt o.1 i hi).1; omega
theorem row5_at (k : Nat) (h : k < 5) : ∃ u : Int, (#[.int .i64 1, .int .i64 2, .int .i64 3, .int .i64 3, .int .i64 4] : Array Value)[k]? = some (.int .i64 u) := by
  have : k = 0 ∨ k = 1 ∨ k = 2 ∨ k = 3 ∨ k = 4 := by omega
  rcases this with rfl | rfl | rfl | rfl | rfl
  · exact ⟨1, rfl⟩
  · exact ⟨2, rfl⟩
  · exact ⟨3, rfl⟩
  · exact ⟨3, rfl⟩
  · exact ⟨4, rfl⟩
theorem row2_at (p q : Int) (k : Nat) (h : k < 2) : ∃ u : Int, (#[.int .i64 p, .int .i64 q] : Array Value)[k]? = some (.int .i64 u) := by
  have : k = 0 ∨ k = 1 := by omega
  rcases this with rfl | rfl
  · exact ⟨p, rfl⟩
  · exact ⟨q, rfl⟩
theorem blkAtE {w : World} {g : Nat} (h : w.heap.size = g) (t : TypeId) (cs : Array Value) : Blk (w.alloc (.cells cs t)) g t cs := by
  subst h; exact Blk.new w t cs
def DrawEs (w : World) (g P : Nat) (e : Ending) (w' : World) : Prop := ∃ (many : Int) (v : Value) (k : Nat) (ts : List T3), e = .returned (.tuple #[.int .i64 many, v]) ∧ O3 69 w' w.heap.size v k ts ∧ RD w' g P ∧ w.grownBy w' (some g)

set_option maxRecDepth 100000 in
set_option maxHeartbeats 16000000 in
theorem l20Edges_c {w : World} {g P : Nat} {q : Int} (hr : RD w g P) (hP : P ≤ 10000) (hq1 : 0 ≤ q) (hq2 : q ≤ 100000) :
    Calls Tryd.prog 47 #[.pointer (some ⟨g, 0, none⟩), .int .i64 q] w (DrawEs w g (P + 100)) := by
  have hg := hr.lt
  go_enter Tryd.func47, Tryd.ntmps47
  go_wp2_with fail
  refine (pick_c hr (by omega) (by omega) (by omega)).mono ?_
  rintro e w1 ⟨x, rfl, x0, x1, r1, g1⟩
  obtain ⟨mn, rfl⟩ : ∃ j : Nat, x = j := ⟨x.toNat, by omega⟩
  have hz1 := g1.size
  have o1 := O3.empty 69 w1
  have G1 := grown_alloc g1 (.cells #[] 69)
  go_wp2_with fail
  refine (pick_c (r1.alloc _) (by omega) (by omega) (by omega)).mono ?_
  rintro e w2 ⟨x, rfl, y0, y1, r2, g2⟩
  obtain ⟨j0, rfl⟩ : ∃ j : Nat, x = j := ⟨x.toNat, by omega⟩
  have G2 := grown_trans' G1 g2
  have hg1 : g < w1.heap.size := by omega
  have o2 := o1.grown g2 (o1.block_ne hg1)
  have hz2 : w1.heap.size ≤ w2.heap.size := by have := g2.size; simp at this; omega
  clear g1 g2 G1 o1 r1
  go_wp2_with fail
  go_loopw [7, 8] (fun v i wr => ∃ (j m : Nat) (ts : List T3), i = .int .i64 j ∧ m + j ≤ 8 ∧ O3 69 wr w1.heap.size v m ts ∧ RD wr g (P + 50 - 5 * j) ∧ w1.heap.size ≤ wr.heap.size ∧ w.grownBy wr (some g)) (fun _ i _ => (intOf i).toNat)
  case atStart => exact ⟨j0, 0, [], rfl, by omega, o2, r2.mono (by omega), hz2, G2⟩
  case round =>
    clear o2 r2 G2 hz2
    obtain ⟨j, m, ts, rfl, hj, o2, r2, hz2, G2⟩ := hrel
    by_cases hlt : 0 < j ∧ 1 < mn
    · obtain ⟨hlt, hmn⟩ := hlt
      have hlt' : (0 : Int) < j := by omega
      have hm1 : (1 : Int) < mn := by omega
      have hm0 : ((mn : Int) == 0) = false := by simp; omega
      go_wp2_with fail
      refine (pick_c r2 (by omega) (by omega) (by omega)).mono ?_
      rintro e w3 ⟨a, rfl, a0, a1, r3, g3⟩
      have G3 := grown_trans' G2 g3
      have o3 := o2.grown g3 (o2.block_ne hg1)
      have hz3 := Nat.le_trans hz2 g3.size
      go_wp2_with fail
      refine (pick_c r3 (by omega) (by omega) (by omega)).mono ?_
      rintro e w4 ⟨c, rfl, c0, c1, r4, g4⟩
      have G4 := grown_trans' G3 g4
      have o4 := o3.grown g4 (o3.block_ne hg1)
      have hz4 := Nat.le_trans hz3 g4.size
      clear o2 r2 G2 o3 r3 G3 g3 g4
      go_wp2_with fail
      generalize (a + 1 + c) % (mn : Int) = bb
      refine (pick_c r4 (by omega) (by omega) (by omega)).mono ?_
      rintro e w5 ⟨z, rfl, z0, z1, r5, g5⟩
      have G5 := grown_trans' G4 g5
      have o5 := o4.grown g5 (o4.block_ne hg1)
      have hz5 := Nat.le_trans hz4 g5.size
      clear g5 G4 o4 r4 hz4 a0 a1 c0 c1
      have hz : z = 0 ∨ z = 1 := by omega
      clear z0 z1
      rcases hz with rfl | rfl
      · by_cases hb1 : bb < a
        · have hb2 : ¬ a < bb := by omega
          have KT := (blkAtE (w := w5) rfl 3 #[.int .i64 1, .int .i64 2, .int .i64 3, .int .i64 3, .int .i64 4])
          have r5lt := r5.lt
          go_wp2_with fail
          refine (pick_c (r5.alloc _) (by omega) (by omega) (by omega)).mono ?_
          rintro e w6 ⟨u, rfl, u0, u1, r6, g6⟩
          have G6 := grown_trans' (grown_alloc G5 (.cells #[.int .i64 1, .int .i64 2, .int .i64 3, .int .i64 3, .int .i64 4] 3)) g6
          have o6 := (o5.alloc (.cells #[.int .i64 1, .int .i64 2, .int .i64 3, .int .i64 3, .int .i64 4] 3)).grown g6 (o5.block_ne hg1)
          have hz6 := Nat.le_trans hz5 (show w5.heap.size ≤ w6.heap.size by have := g6.size; simp at this; omega)
          obtain ⟨un, rfl⟩ : ∃ i : Nat, u = i := ⟨u.toNat, by omega⟩
          obtain ⟨t, ht⟩ := row5_at un (by omega)
          have f5 := ((KT.grown g6 (fun e => by injection e with e; omega)).cell un).trans ht
          have un0 : (0 : Int) ≤ un := by omega
          have un5 : (un : Int) < 5 := by omega
          have s7 := S3.one (Blk.new w6 69 #[.int .i64 bb, .int .i64 a, .int .i64 t]) (Nat.le_refl 1)
          have oa7 := (o6).alloc (.cells #[.int .i64 bb, .int .i64 a, .int .i64 t] 69)
          go_wp2_with (at_builtin; refine wpList_app3 rfl _ _ rfl Tryd.underlying35 infoEd rfl oa7 rfl s7 (by omega) (by simp <;> omega) ?_; intro v7 w7 o7 g7 hat7)
          have G7 := grown_own3 (grown_alloc G6 (.cells #[.int .i64 bb, .int .i64 a, .int .i64 t] 69)) oa7 (by omega) g7
          have r7 := RD.own3 ((r6).alloc (.cells #[.int .i64 bb, .int .i64 a, .int .i64 t] 69)) oa7 hg1 g7
          have hz7 : w1.heap.size ≤ w7.heap.size := by have := g7.size; simp at this; omega
          go_roundw
          case rel => exact ⟨j - 1, m + 1, _, by go_num, by omega, o7, r7.mono (by omega), hz7, G7⟩
          case measure => simp [intOf]; omega
        · by_cases hb2 : a < bb
          · have KT := (blkAtE (w := w5) rfl 3 #[.int .i64 1, .int .i64 2, .int .i64 3, .int .i64 3, .int .i64 4])
            have r5lt := r5.lt
            go_wp2_with fail
            refine (pick_c (r5.alloc _) (by omega) (by omega) (by omega)).mono ?_
            rintro e w6 ⟨u, rfl, u0, u1, r6, g6⟩
            have G6 := grown_trans' (grown_alloc G5 (.cells #[.int .i64 1, .int .i64 2, .int .i64 3, .int .i64 3, .int .i64 4] 3)) g6
            have o6 := (o5.alloc (.cells #[.int .i64 1, .int .i64 2, .int .i64 3, .int .i64 3, .int .i64 4] 3)).grown g6 (o5.block_ne hg1)
            have hz6 := Nat.le_trans hz5 (show w5.heap.size ≤ w6.heap.size by have := g6.size; simp at this; omega)
            obtain ⟨un, rfl⟩ : ∃ i : Nat, u = i := ⟨u.toNat, by omega⟩
            obtain ⟨t, ht⟩ := row5_at un (by omega)
            have f5 := ((KT.grown g6 (fun e => by injection e with e; omega)).cell un).trans ht
            have un0 : (0 : Int) ≤ un := by omega
            have un5 : (un : Int) < 5 := by omega
            have s7 := S3.one (Blk.new w6 69 #[.int .i64 a, .int .i64 bb, .int .i64 t]) (Nat.le_refl 1)
            have oa7 := (o6).alloc (.cells #[.int .i64 a, .int .i64 bb, .int .i64 t] 69)
            go_wp2_with (at_builtin; refine wpList_app3 rfl _ _ rfl Tryd.underlying35 infoEd rfl oa7 rfl s7 (by omega) (by simp <;> omega) ?_; intro v7 w7 o7 g7 hat7)
            have G7 := grown_own3 (grown_alloc G6 (.cells #[.int .i64 a, .int .i64 bb, .int .i64 t] 69)) oa7 (by omega) g7
            have r7 := RD.own3 ((r6).alloc (.cells #[.int .i64 a, .int .i64 bb, .int .i64 t] 69)) oa7 hg1 g7
            have hz7 : w1.heap.size ≤ w7.heap.size := by have := g7.size; simp at this; omega
            go_roundw
            case rel => exact ⟨j - 1, m + 1, _, by go_num, by omega, o7, r7.mono (by omega), hz7, G7⟩
            case measure => simp [intOf]; omega
          · have KT := (blkAtE (w := w5) rfl 3 #[.int .i64 1, .int .i64 2, .int .i64 3, .int .i64 3, .int .i64 4])
            have r5lt := r5.lt
            go_wp2_with fail
            refine (pick_c (r5.alloc _) (by omega) (by omega) (by omega)).mono ?_
            rintro e w6 ⟨u, rfl, u0, u1, r6, g6⟩
            have G6 := grown_trans' (grown_alloc G5 (.cells #[.int .i64 1, .int .i64 2, .int .i64 3, .int .i64 3, .int .i64 4] 3)) g6
            have o6 := (o5.alloc (.cells #[.int .i64 1, .int .i64 2, .int .i64 3, .int .i64 3, .int .i64 4] 3)).grown g6 (o5.block_ne hg1)
            have hz6 := Nat.le_trans hz5 (show w5.heap.size ≤ w6.heap.size by have := g6.size; simp at this; omega)
            obtain ⟨un, rfl⟩ : ∃ i : Nat, u = i := ⟨u.toNat, by omega⟩
            obtain ⟨t, ht⟩ := row5_at un (by omega)
            have f5 := ((KT.grown g6 (fun e => by injection e with e; omega)).cell un).trans ht
            have un0 : (0 : Int) ≤ un := by omega
            have un5 : (un : Int) < 5 := by omega
            have s7 := S3.one (Blk.new w6 69 #[.int .i64 a, .int .i64 a, .int .i64 t]) (Nat.le_refl 1)
            have oa7 := (o6).alloc (.cells #[.int .i64 a, .int .i64 a, .int .i64 t] 69)
            go_wp2_with (at_builtin; refine wpList_app3 rfl _ _ rfl Tryd.underlying35 infoEd rfl oa7 rfl s7 (by omega) (by simp <;> omega) ?_; intro v7 w7 o7 g7 hat7)
            have G7 := grown_own3 (grown_alloc G6 (.cells #[.int .i64 a, .int .i64 a, .int .i64 t] 69)) oa7 (by omega) g7
            have r7 := RD.own3 ((r6).alloc (.cells #[.int .i64 a, .int .i64 a, .int .i64 t] 69)) oa7 hg1 g7
            have hz7 : w1.heap.size ≤ w7.heap.size := by have := g7.size; simp at this; omega
            go_roundw
            case rel => exact ⟨j - 1, m + 1, _, by go_num, by omega, o7, r7.mono (by omega), hz7, G7⟩
            case measure => simp [intOf]; omega
      · have KT := (blkAtE (w := w5) rfl 3 #[.int .i64 1, .int .i64 2, .int .i64 3, .int .i64 3, .int .i64 4])
        have r5lt := r5.lt
        go_wp2_with fail
        refine (pick_c (r5.alloc _) (by omega) (by omega) (by omega)).mono ?_
        rintro e w6 ⟨u, rfl, u0, u1, r6, g6⟩
        have G6 := grown_trans' (grown_alloc G5 (.cells #[.int .i64 1, .int .i64 2, .int .i64 3, .int .i64 3, .int .i64 4] 3)) g6
        have o6 := (o5.alloc (.cells #[.int .i64 1, .int .i64 2, .int .i64 3, .int .i64 3, .int .i64 4] 3)).grown g6 (o5.block_ne hg1)
        have hz6 := Nat.le_trans hz5 (show w5.heap.size ≤ w6.heap.size by have := g6.size; simp at this; omega)
        obtain ⟨un, rfl⟩ : ∃ i : Nat, u = i := ⟨u.toNat, by omega⟩
        obtain ⟨t, ht⟩ := row5_at un (by omega)
        have f5 := ((KT.grown g6 (fun e => by injection e with e; omega)).cell un).trans ht
        have un0 : (0 : Int) ≤ un := by omega
        have un5 : (un : Int) < 5 := by omega
        have s7 := S3.one (Blk.new w6 69 #[.int .i64 a, .int .i64 bb, .int .i64 t]) (Nat.le_refl 1)
        have oa7 := (o6).alloc (.cells #[.int .i64 a, .int .i64 bb, .int .i64 t] 69)
        go_wp2_with (at_builtin; refine wpList_app3 rfl _ _ rfl Tryd.underlying35 infoEd rfl oa7 rfl s7 (by omega) (by simp <;> omega) ?_; intro v7 w7 o7 g7 hat7)
        have G7 := grown_own3 (grown_alloc G6 (.cells #[.int .i64 a, .int .i64 bb, .int .i64 t] 69)) oa7 (by omega) g7
        have r7 := RD.own3 ((r6).alloc (.cells #[.int .i64 a, .int .i64 bb, .int .i64 t] 69)) oa7 hg1 g7
        have hz7 : w1.heap.size ≤ w7.heap.size := by have := g7.size; simp at this; omega
        go_roundw
        case rel => exact ⟨j - 1, m + 1, _, by go_num, by omega, o7, r7.mono (by omega), hz7, G7⟩
        case measure => simp [intOf]; omega
    · by_cases hlt0 : 0 < j
      · have hlt' : (0 : Int) < j := by omega
        have hm1 : ¬ (1 : Int) < mn := by omega
        go_wp2_with fail
        refine (odd_c r2 (by omega) hq1 hq2).mono ?_
        rintro e w3 ⟨b, rfl, r3, g3⟩
        have G3 := grown_trans' G2 g3
        have o3 := o2.grown g3 (o2.block_ne hg1)
        have hz3 := Nat.le_trans hz2 g3.size
        cases b
        · go_wp2_with fail
          go_ret2
          exact ⟨_, _, _, _, rfl, o3.mono (by omega), r3.mono (by omega), G3⟩
        · go_wp2_with fail
          refine (pick_c r3 (by omega) (by omega) (by omega)).mono ?_
          rintro e w4 ⟨i, rfl, i0, i1, r4, g4⟩
          have G4 := grown_trans' G3 g4
          have o4 := o3.grown g4 (o3.block_ne hg1)
          have hz4 := Nat.le_trans hz3 g4.size
          have hi : i = 0 ∨ i = 1 ∨ i = 2 ∨ i = 3 := by omega
          clear i0 i1 G2 G3 o2 o3 r2 r3 g3 g4
          rcases hi with rfl | rfl | rfl | rfl
          · have s7 := S3.one (Blk.new w4 69 #[.int .i64 0, .int .i64 0, .int .i64 1]) (Nat.le_refl 1)
            have oa7 := (o4).alloc (.cells #[.int .i64 0, .int .i64 0, .int .i64 1] 69)
            go_wp2_with (at_builtin; refine wpList_app3 rfl _ _ rfl Tryd.underlying35 infoEd rfl oa7 rfl s7 (by omega) (by simp <;> omega) ?_; intro v7 w7 o7 g7 hat7)
            have G7 := grown_own3 (grown_alloc G4 (.cells #[.int .i64 0, .int .i64 0, .int .i64 1] 69)) oa7 (by omega) g7
            have r7 := RD.own3 ((r4).alloc (.cells #[.int .i64 0, .int .i64 0, .int .i64 1] 69)) oa7 hg1 g7
            go_ret2
            exact ⟨_, _, _, _, rfl, o7.mono (by omega), r7.mono (by omega), G7⟩
          · have s7 := S3.one (Blk.new w4 69 #[.int .i64 0, .int .i64 (mn : Int), .int .i64 1]) (Nat.le_refl 1)
            have oa7 := (o4).alloc (.cells #[.int .i64 0, .int .i64 (mn : Int), .int .i64 1] 69)
            go_wp2_with (at_builtin; refine wpList_app3 rfl _ _ rfl Tryd.underlying35 infoEd rfl oa7 rfl s7 (by omega) (by simp <;> omega) ?_; intro v7 w7 o7 g7 hat7)
            have G7 := grown_own3 (grown_alloc G4 (.cells #[.int .i64 0, .int .i64 (mn : Int), .int .i64 1] 69)) oa7 (by omega) g7
            have r7 := RD.own3 ((r4).alloc (.cells #[.int .i64 0, .int .i64 (mn : Int), .int .i64 1] 69)) oa7 hg1 g7
            go_ret2
            exact ⟨_, _, _, _, rfl, o7.mono (by omega), r7.mono (by omega), G7⟩
          · have KT := (blkAtE (w := w4) rfl 3 #[.int .i64 0, .int .i64 5])
            have rlt := r4.lt
            go_wp2_with fail
            refine (pick_c (r4.alloc _) (by omega) (by omega) (by omega)).mono ?_
            rintro e w6 ⟨u, rfl, u0, u1, r6, g6⟩
            have G6 := grown_trans' (grown_alloc G4 (.cells #[.int .i64 0, .int .i64 5] 3)) g6
            have o6 := (o4.alloc (.cells #[.int .i64 0, .int .i64 5] 3)).grown g6 (o4.block_ne hg1)
            have hz6 := Nat.le_trans hz4 (show w4.heap.size ≤ w6.heap.size by have := g6.size; simp at this; omega)
            obtain ⟨un, rfl⟩ : ∃ i : Nat, u = i := ⟨u.toNat, by omega⟩
            obtain ⟨t, ht⟩ := row2_at 0 5 un (by omega)
            have f5 := ((KT.grown g6 (fun e => by injection e with e; omega)).cell un).trans ht
            have un0 : (0 : Int) ≤ un := by omega
            have un5 : (un : Int) < 2 := by omega
            have s7 := S3.one (Blk.new w6 69 #[.int .i64 0, .int .i64 1, .int .i64 t]) (Nat.le_refl 1)
            have oa7 := (o6).alloc (.cells #[.int .i64 0, .int .i64 1, .int .i64 t] 69)
            go_wp2_with (at_builtin; refine wpList_app3 rfl _ _ rfl Tryd.underlying35 infoEd rfl oa7 rfl s7 (by omega) (by simp <;> omega) ?_; intro v7 w7 o7 g7 hat7)
            have G7 := grown_own3 (grown_alloc G6 (.cells #[.int .i64 0, .int .i64 1, .int .i64 t] 69)) oa7 (by omega) g7
            have r7 := RD.own3 ((r6).alloc (.cells #[.int .i64 0, .int .i64 1, .int .i64 t] 69)) oa7 hg1 g7
            go_ret2
            exact ⟨_, _, _, _, rfl, o7.mono (by omega), r7.mono (by omega), G7⟩
          · have KT := (blkAtE (w := w4) rfl 3 #[.int .i64 (-1), .int .i64 7])
            have rlt := r4.lt
            go_wp2_with fail
            refine (pick_c (r4.alloc _) (by omega) (by omega) (by omega)).mono ?_
            rintro e w6 ⟨u, rfl, u0, u1, r6, g6⟩
            have G6 := grown_trans' (grown_alloc G4 (.cells #[.int .i64 (-1), .int .i64 7] 3)) g6
            have o6 := (o4.alloc (.cells #[.int .i64 (-1), .int .i64 7] 3)).grown g6 (o4.block_ne hg1)
            have hz6 := Nat.le_trans hz4 (show w4.heap.size ≤ w6.heap.size by have := g6.size; simp at this; omega)
            obtain ⟨un, rfl⟩ : ∃ i : Nat, u = i := ⟨u.toNat, by omega⟩
            obtain ⟨t, ht⟩ := row2_at (-1) 7 un (by omega)
            have f5 := ((KT.grown g6 (fun e => by injection e with e; omega)).cell un).trans ht
            have un0 : (0 : Int) ≤ un := by omega
            have un5 : (un : Int) < 2 := by omega
            go_wp2_with fail
            go_ret2
            exact ⟨_, _, _, _, rfl, o6.mono (by omega), r6.mono (by omega), G6⟩
      · have hlt' : ¬ (0 : Int) < j := by omega
        go_wp2_with fail
        refine (odd_c r2 (by omega) hq1 hq2).mono ?_
        rintro e w3 ⟨b, rfl, r3, g3⟩
        have G3 := grown_trans' G2 g3
        have o3 := o2.grown g3 (o2.block_ne hg1)
        have hz3 := Nat.le_trans hz2 g3.size
        cases b
        · go_wp2_with fail
          go_ret2
          exact ⟨_, _, _, _, rfl, o3.mono (by omega), r3.mono (by omega), G3⟩
        · go_wp2_with fail
          refine (pick_c r3 (by omega) (by omega) (by omega)).mono ?_
          rintro e w4 ⟨i, rfl, i0, i1, r4, g4⟩
          have G4 := grown_trans' G3 g4
          have o4 := o3.grown g4 (o3.block_ne hg1)
          have hz4 := Nat.le_trans hz3 g4.size
          have hi : i = 0 ∨ i = 1 ∨ i = 2 ∨ i = 3 := by omega
          clear i0 i1 G2 G3 o2 o3 r2 r3 g3 g4
          rcases hi with rfl | rfl | rfl | rfl
          · have s7 := S3.one (Blk.new w4 69 #[.int .i64 0, .int .i64 0, .int .i64 1]) (Nat.le_refl 1)
            have oa7 := (o4).alloc (.cells #[.int .i64 0, .int .i64 0, .int .i64 1] 69)
            go_wp2_with (at_builtin; refine wpList_app3 rfl _ _ rfl Tryd.underlying35 infoEd rfl oa7 rfl s7 (by omega) (by simp <;> omega) ?_; intro v7 w7 o7 g7 hat7)
            have G7 := grown_own3 (grown_alloc G4 (.cells #[.int .i64 0, .int .i64 0, .int .i64 1] 69)) oa7 (by omega) g7
            have r7 := RD.own3 ((r4).alloc (.cells #[.int .i64 0, .int .i64 0, .int .i64 1] 69)) oa7 hg1 g7
            go_ret2
            exact ⟨_, _, _, _, rfl, o7.mono (by omega), r7.mono (by omega), G7⟩
          · have s7 := S3.one (Blk.new w4 69 #[.int .i64 0, .int .i64 (mn : Int), .int .i64 1]) (Nat.le_refl 1)
            have oa7 := (o4).alloc (.cells #[.int .i64 0, .int .i64 (mn : Int), .int .i64 1] 69)
            go_wp2_with (at_builtin; refine wpList_app3 rfl _ _ rfl Tryd.underlying35 infoEd rfl oa7 rfl s7 (by omega) (by simp <;> omega) ?_; intro v7 w7 o7 g7 hat7)
            have G7 := grown_own3 (grown_alloc G4 (.cells #[.int .i64 0, .int .i64 (mn : Int), .int .i64 1] 69)) oa7 (by omega) g7
            have r7 := RD.own3 ((r4).alloc (.cells #[.int .i64 0, .int .i64 (mn : Int), .int .i64 1] 69)) oa7 hg1 g7
            go_ret2
            exact ⟨_, _, _, _, rfl, o7.mono (by omega), r7.mono (by omega), G7⟩
          · have KT := (blkAtE (w := w4) rfl 3 #[.int .i64 0, .int .i64 5])
            have rlt := r4.lt
            go_wp2_with fail
            refine (pick_c (r4.alloc _) (by omega) (by omega) (by omega)).mono ?_
            rintro e w6 ⟨u, rfl, u0, u1, r6, g6⟩
            have G6 := grown_trans' (grown_alloc G4 (.cells #[.int .i64 0, .int .i64 5] 3)) g6
            have o6 := (o4.alloc (.cells #[.int .i64 0, .int .i64 5] 3)).grown g6 (o4.block_ne hg1)
            have hz6 := Nat.le_trans hz4 (show w4.heap.size ≤ w6.heap.size by have := g6.size; simp at this; omega)
            obtain ⟨un, rfl⟩ : ∃ i : Nat, u = i := ⟨u.toNat, by omega⟩
            obtain ⟨t, ht⟩ := row2_at 0 5 un (by omega)
            have f5 := ((KT.grown g6 (fun e => by injection e with e; omega)).cell un).trans ht
            have un0 : (0 : Int) ≤ un := by omega
            have un5 : (un : Int) < 2 := by omega
            have s7 := S3.one (Blk.new w6 69 #[.int .i64 0, .int .i64 1, .int .i64 t]) (Nat.le_refl 1)
            have oa7 := (o6).alloc (.cells #[.int .i64 0, .int .i64 1, .int .i64 t] 69)
            go_wp2_with (at_builtin; refine wpList_app3 rfl _ _ rfl Tryd.underlying35 infoEd rfl oa7 rfl s7 (by omega) (by simp <;> omega) ?_; intro v7 w7 o7 g7 hat7)
            have G7 := grown_own3 (grown_alloc G6 (.cells #[.int .i64 0, .int .i64 1, .int .i64 t] 69)) oa7 (by omega) g7
            have r7 := RD.own3 ((r6).alloc (.cells #[.int .i64 0, .int .i64 1, .int .i64 t] 69)) oa7 hg1 g7
            go_ret2
            exact ⟨_, _, _, _, rfl, o7.mono (by omega), r7.mono (by omega), G7⟩
          · have KT := (blkAtE (w := w4) rfl 3 #[.int .i64 (-1), .int .i64 7])
            have rlt := r4.lt
            go_wp2_with fail
            refine (pick_c (r4.alloc _) (by omega) (by omega) (by omega)).mono ?_
            rintro e w6 ⟨u, rfl, u0, u1, r6, g6⟩
            have G6 := grown_trans' (grown_alloc G4 (.cells #[.int .i64 (-1), .int .i64 7] 3)) g6
            have o6 := (o4.alloc (.cells #[.int .i64 (-1), .int .i64 7] 3)).grown g6 (o4.block_ne hg1)
            have hz6 := Nat.le_trans hz4 (show w4.heap.size ≤ w6.heap.size by have := g6.size; simp at this; omega)
            obtain ⟨un, rfl⟩ : ∃ i : Nat, u = i := ⟨u.toNat, by omega⟩
            obtain ⟨t, ht⟩ := row2_at (-1) 7 un (by omega)
            have f5 := ((KT.grown g6 (fun e => by injection e with e; omega)).cell un).trans ht
            have un0 : (0 : Int) ≤ un := by omega
            have un5 : (un : Int) < 2 := by omega
            go_wp2_with fail
            go_ret2
            exact ⟨_, _, _, _, rfl, o6.mono (by omega), r6.mono (by omega), G6⟩

def DrawCE (w : World) (e : Ending) (w' : World) : Prop := ∃ (many : Int) (v : Value) (k : Nat) (ts : List T3), e = .returned (.tuple #[.int .i64 many, v]) ∧ O3 69 w' w.heap.size v k ts ∧ Below w.heap.size w w'
set_option maxHeartbeats 4000000 in
theorem DrawCountEdges_c {w : World} {A : Option Addr} {n c : Nat} (hnc : n ≤ c) (hmx : c ≤ maxLen) (hb : BY w w.heap.size A n) : Calls Tryd.prog 17 #[.slice A n c] w (DrawCE w) := by
  go_enter Tryd.func17, Tryd.ntmps17
  go_wp2_with fail
  refine (l20Open_c hnc hmx hb).mono ?_
  rintro e w1 ⟨rfl, r1, b1⟩
  have hz := b1.size
  go_wp2_with fail
  refine (l20Edges_c r1 (by omega) (by omega) (by omega)).mono ?_
  rintro e w2 ⟨many, v, k, ts, rfl, o2, r2, g2⟩
  go_wp2_with fail
  go_ret2
  exact ⟨many, v, k, ts, rfl, o2.mono hz, belowG b1 g2 (Nat.le_refl _)⟩

end Go.Proofs.YtopjdidigfdhbaaDoor
