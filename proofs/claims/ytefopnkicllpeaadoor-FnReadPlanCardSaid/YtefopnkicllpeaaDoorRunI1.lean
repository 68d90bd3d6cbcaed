/- The program's machine: machineOf, step, did. Printed by mk_runi.py. -/
import Derived.Test.YtefopnkicllpeaaDoorRunP
import Derived.Deep.RegionHeld3
namespace Go.Proofs.YtefopnkicllpeaaDoor
open Go.RowKit

set_option maxHeartbeats 400000 in
theorem writes_c {x y z : Int} {w : World} : Calls Tryd.prog 50 #[.agg #[.int .i64 x, .int .i64 y, .int .i64 z]] w fun e w' => e = .returned (.bool (x == 2)) ∧ Below w.heap.size w w' := by
  go_enter Tryd.func50, Tryd.ntmps50
  go_wp2_with fail
  go_ret
  exact ⟨rfl, (Below.refl _ _).alloc (Nat.le_refl _) _⟩
theorem O3.made {w : World} (k : Nat) (hk : k ≤ 1048576) : O3 42 (w.alloc (.cells ((List.replicate (k * 3) (Value.int .i64 0)).toArray) 42)) w.heap.size (.slice (some ⟨w.heap.size, 0, none⟩) 0 k) 0 [] :=
  ⟨⟨rfl, .inr ⟨w.heap.size, k, _, rfl, Nat.le_refl _, Blk.new w _ _, Nat.zero_le _, by simp [maxLen]; omega, by simp, by simp [flat3]⟩⟩, by omega⟩
theorem run_make_Opc (k : Nat) (hk : k ≤ 1048576) (w : World) :
    (Instr.makeSlice 35 (.int .i64 0) (.int .i64 (k : Int))).run Tryd.prog w = .ok (.slice (some ⟨w.heap.size, 0, none⟩) 0 k) (w.alloc (.cells ((List.replicate (k * 3) (Value.int .i64 0)).toArray) 42)) := by
  obtain ⟨i, hi, hz, hs, hb⟩ := info_parts infoOpz
  have := run_make_rowN 35 42 i (.agg #[.int .i64 0, .int .i64 0, .int .i64 0]) Tryd.underlying35 hi hz .i64 .i64 0 k (Nat.zero_le _) (by rw [hb]; omega) (by omega) w
  have e1 : madeCells (Value.agg #[.int .i64 0, .int .i64 0, .int .i64 0]).cells (k * i.size) = (List.replicate (k * 3) (Value.int .i64 0)).toArray := by
    rw [hs, ← Array.toArray_toList (xs := madeCells _ _)]
    rw [show (Value.agg #[.int .i64 0, .int .i64 0, .int .i64 0]).cells = #[Value.int .i64 0, Value.int .i64 0, Value.int .i64 0] from rfl, toList_madeCells3']
  rw [e1] at this
  exact this
theorem own_succ {W : World} {base : Nat} {e : TypeId} {size : Nat} {v : Value} {k : Nat} {xs : List Value} (h : W.ownsRow base e size v (k + 1) xs) : ∃ g cap, v = .slice (some ⟨g, 0, none⟩) (k + 1) cap := by
  rcases h.2 with ⟨_, h0⟩ | ⟨g, cap, _, rfl, _⟩
  · omega
  · exact ⟨g, cap, rfl⟩


end Go.Proofs.YtefopnkicllpeaaDoor
