/- DrawLastStamped: stamped values. -/
import Derived.Test.YtopjdidigfdhbaaDoorDraw5
import Derived.Test.YtopjdidigfdhbaaDoorDrawB
import Derived.Test.YtopjdidigfdhbaaDoorApp3
namespace Go.Proofs.YtopjdidigfdhbaaDoor
open Go.RowKit

theorem infoSt : (Tryd.prog.info? 24).map (fun i => (i.zero, i.size, i.bytes)) = some (some (.agg #[.int .i64 0, .int .i64 0, .int .i64 0]), 3, 24) := by kernel_rfl
theorem run_make_St (n : Nat) (hn : n ≤ 1048576) (w : World) :
    (Instr.makeSlice 31 (.int .i64 (n : Int)) (.int .i64 (n : Int))).run Tryd.prog w = .ok (.slice (some ⟨w.heap.size, 0, none⟩) n n) (w.alloc (.cells ((List.replicate (n * 3) (Value.int .i64 0)).toArray) 24)) := by
  obtain ⟨i, hi, hz, hs, hb⟩ := info_parts infoSt
  rw [run_make_rowN 31 24 i (.agg #[.int .i64 0, .int .i64 0, .int .i64 0]) Tryd.underlying31 hi hz .i64 .i64 n n (Nat.le_refl _) (by rw [hb]; omega) (by omega) w]
  have e1 : madeCells (Value.agg #[.int .i64 0, .int .i64 0, .int .i64 0]).cells (n * i.size) = (List.replicate (n * 3) (Value.int .i64 0)).toArray := by
    rw [hs, ← Array.toArray_toList (xs := madeCells _ _)]
    rw [show (Value.agg #[.int .i64 0, .int .i64 0, .int .i64 0]).cells = #[Value.int .i64 0, Value.int .i64 0, Value.int .i64 0] from rfl, toList_madeCells3']
  rw [e1]
def zero63 : Array Value := (List.replicate 63 (Value.int .i64 0)).toArray
theorem make21 (w : World) : (Instr.makeSlice 31 (.int .i64 21) (.int .i64 21)).run Tryd.prog w = .ok (.slice (some ⟨w.heap.size, 0, none⟩) 21 21) (w.alloc (.cells zero63 24)) := run_make_St 21 (by omega) w
def O21 (w : World) : Prop := O3 24 (w.alloc (.cells zero63 24)) w.heap.size (.slice (some ⟨w.heap.size, 0, none⟩) 21 21) 21 (List.replicate 21 (0, 0, 0))
theorem own21 (w : World) : O21 w := O3.of_blk (Blk.new w _ _) (Nat.le_refl _) rfl (by simp) (by omega)

def DrawSs (w : World) (e : Ending) (w' : World) : Prop := ∃ v k ts, e = .returned v ∧ O3 24 w' w.heap.size v k ts ∧ Below w.heap.size w w'
set_option maxRecDepth 100000 in
set_option maxHeartbeats 16000000 in
theorem DrawLastStamped_c {w : World} {A : Option Addr} {n c : Nat} (hnc : n ≤ c) (hmx : c ≤ maxLen) (hb : BY w w.heap.size A n) : Calls Tryd.prog 14 #[.slice A n c] w (DrawSs w) := by
  go_enter Tryd.func14, Tryd.ntmps14
  go_wp2_with fail
  refine (l20Open_c hnc hmx hb).mono ?_
  rintro e w1 ⟨rfl, r1, b1⟩
  have hz1 := r1.lt
  have o1 := O3.empty 24 w1
  have B1 := b1.alloc b1.size (.cells #[] 24)
  go_wp2_with fail
  refine (pick_c (r1.alloc _) (by omega) (by omega) (by omega)).mono ?_
  rintro e w2 ⟨x, rfl, x0, x1, r2, g2⟩
  have B2 := belowG B1 g2 (Nat.le_refl _)
  have o2 := o1.grown g2 (o1.block_ne hz1)
  obtain ⟨j0, rfl⟩ : ∃ j : Nat, x = j := ⟨x.toNat, by omega⟩
  have hz12 : w1.heap.size ≤ w2.heap.size := by have := g2.size; simp at this; omega
  clear g2 o1 B1 b1 r1
  go_wp2_with fail
  go_loopw [4, 5] (fun v i wr => ∃ (j m : Nat) (ts : List T3), i = .int .i64 j ∧ m + j ≤ 6 ∧ O3 24 wr w1.heap.size v m ts ∧ RD wr w.heap.size (100 - 6 * j) ∧ w1.heap.size ≤ wr.heap.size ∧ Below w.heap.size w wr) (fun _ i _ => (intOf i).toNat)
  case atStart => exact ⟨j0, 0, [], rfl, by omega, o2, r2.mono (by omega), hz12, B2⟩
  case round =>
    clear o2 r2 B2 hz12
    obtain ⟨j, m, ts, rfl, hj, o2, r2, hz12, B2⟩ := hrel
    by_cases hlt : 0 < j
    · have hlt' : (0 : Int) < j := by omega
      go_wp2_with fail
      refine (l20Stamped_c r2 (by omega) (by omega) (by omega)).mono ?_
      rintro e w3 ⟨x, y, z, rfl, r3, g3⟩
      have B3 := belowG B2 g3 (Nat.le_refl _)
      have o3 := (o2.grown g3 (o2.block_ne hz1)).alloc (.cells #[.int .i64 x, .int .i64 y, .int .i64 z] 24)
      have B3a := B3.alloc B3.size (.cells #[.int .i64 x, .int .i64 y, .int .i64 z] 24)
      have s3 := S3.one (Blk.new w3 24 #[.int .i64 x, .int .i64 y, .int .i64 z]) (Nat.le_refl 1)
      have hz3 : w1.heap.size ≤ w3.heap.size := Nat.le_trans hz12 g3.size
      go_wp2_with (at_builtin; refine wpList_app3 rfl _ _ rfl Tryd.underlying31 infoSt rfl o3 rfl s3 (by omega) (by simp <;> omega) ?_; intro v4 w4 o4 g4 hat)
      have B4 := below_app3 B3a o3 (by omega) g4
      have r4 := (r3.alloc (.cells #[.int .i64 x, .int .i64 y, .int .i64 z] 24)).grown g4 (fun i hi => by have := (World.ownsRow.lt o3.1 i hi).1; omega)
      go_roundw
      case rel => exact ⟨j - 1, m + 1, _, by go_num, by omega, o4, r4.mono (by omega), by have := g4.size; simp at this; omega, B4⟩
      case measure => simp [intOf]; omega
    · obtain rfl : j = 0 := by omega
      go_wp2_with fail
      refine (odd_c r2 (by omega) (by omega) (by omega)).mono ?_
      rintro e w5 ⟨b, rfl, r5, g5⟩
      have B5 := belowG B2 g5 (Nat.le_refl _)
      have o5 := o2.grown g5 (o2.block_ne hz1)
      cases b
      · go_wp2_with fail
        go_ret
        exact ⟨_, m, ts, rfl, o5.mono (by omega), B5⟩
      · have hmk := make21
        have o21 := own21 w5
        unfold O21 at o21
        have B6 := B5.alloc B5.size (.cells zero63 24)
        go_wp2_with fail
        go_ret
        exact ⟨_, 21, _, rfl, o21.mono B5.size, B6⟩

end Go.Proofs.YtopjdidigfdhbaaDoor
