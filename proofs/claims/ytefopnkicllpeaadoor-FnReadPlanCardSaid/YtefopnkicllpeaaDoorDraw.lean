/- 'alive', and the drawing reader's contracts. -/
import Derived.Test.YtefopnkicllpeaaDoorLib2
import Derived.Laws.BitsAllLaws
import Derived.Laws.Bits64
import Derived.BigQuiet
namespace Go.Proofs.YtefopnkicllpeaaDoor
open Go.RowKit

def dig (n : Nat) : ByteArray := ⟨#[(48 + n).toUInt8]⟩
set_option maxHeartbeats 1000000 in
theorem small0_c {w : World} : Calls Tryd.prog 85 #[.int .i64 0] w fun e w' => e = .returned (.string (dig 0)) ∧ w = w' := by
  go_enter Tryd.func85, Tryd.ntmps85
  go_wp2
  go_ret
  exact ⟨rfl, rfl⟩
set_option maxHeartbeats 1000000 in
theorem small5_c {w : World} : Calls Tryd.prog 85 #[.int .i64 5] w fun e w' => e = .returned (.string (dig 5)) ∧ w = w' := by
  go_enter Tryd.func85, Tryd.ntmps85
  go_wp2
  go_ret
  exact ⟨rfl, rfl⟩
set_option maxHeartbeats 1000000 in
theorem Itoa0_c {w : World} : Calls Tryd.prog 34 #[.int .i64 0] w fun e w' => e = .returned (.string (dig 0)) ∧ w = w' := by
  have h1 : ∀ W : World, Calls Tryd.prog 71 #[.int .i64 0, .int .i64 10] W fun e w' => e = .returned (.string (dig 0)) ∧ W = w' := by
    intro W
    go_enter Tryd.func71, Tryd.ntmps71
    go_wp2_with (go_at_call 85; refine (small0_c).mono ?_; rintro e w' ⟨rfl, rfl⟩)
    go_ret
    exact ⟨rfl, rfl⟩
  have h2 : ∀ W : World, Calls Tryd.prog 49 #[.int .i64 0] W fun e w' => e = .returned (.string (dig 0)) ∧ W = w' := by
    intro W
    have H1 := hide h1; clear h1
    go_enter Tryd.func49, Tryd.ntmps49
    go_wp2_with (go_at_call 71; refine (H1.out _).mono ?_; rintro e w' ⟨rfl, rfl⟩)
    go_ret
    exact ⟨rfl, rfl⟩
  have H2 := hide h2; clear h1 h2
  go_enter Tryd.func34, Tryd.ntmps34
  go_wp2_with (go_at_call 49; refine (H2.out _).mono ?_; rintro e w' ⟨rfl, rfl⟩)
  go_ret
  exact ⟨rfl, rfl⟩
set_option maxHeartbeats 1000000 in
theorem Itoa5_c {w : World} : Calls Tryd.prog 34 #[.int .i64 5] w fun e w' => e = .returned (.string (dig 5)) ∧ w = w' := by
  have h1 : ∀ W : World, Calls Tryd.prog 71 #[.int .i64 5, .int .i64 10] W fun e w' => e = .returned (.string (dig 5)) ∧ W = w' := by
    intro W
    go_enter Tryd.func71, Tryd.ntmps71
    go_wp2_with (go_at_call 85; refine (small5_c).mono ?_; rintro e w' ⟨rfl, rfl⟩)
    go_ret
    exact ⟨rfl, rfl⟩
  have h2 : ∀ W : World, Calls Tryd.prog 49 #[.int .i64 5] W fun e w' => e = .returned (.string (dig 5)) ∧ W = w' := by
    intro W
    have H1 := hide h1; clear h1
    go_enter Tryd.func49, Tryd.ntmps49
    go_wp2_with (go_at_call 71; refine (H1.out _).mono ?_; rintro e w' ⟨rfl, rfl⟩)
    go_ret
    exact ⟨rfl, rfl⟩
  have H2 := hide h2; clear h1 h2
  go_enter Tryd.func34, Tryd.ntmps34
  go_wp2_with (go_at_call 49; refine (H2.out _).mono ?_; rintro e w' ⟨rfl, rfl⟩)
  go_ret
  exact ⟨rfl, rfl⟩

theorem beB0 (w : World) (o : Obj) : Below w.heap.size w (w.alloc o) := (Below.refl _ _).alloc (Nat.le_refl _) o
set_option maxHeartbeats 1000000 in
theorem reads205_c {w : World} : Calls Tryd.prog 69 #[.agg #[.int .i64 2, .int .i64 0, .int .i64 5]] w fun e w' => e = .returned (.bool false) ∧ Below w.heap.size w w' := by
  go_enter Tryd.func69, Tryd.ntmps69
  go_wp2
  go_ret
  exact ⟨rfl, beB0 _ _⟩
set_option maxHeartbeats 1000000 in
theorem writes205_c {w : World} : Calls Tryd.prog 50 #[.agg #[.int .i64 2, .int .i64 0, .int .i64 5]] w fun e w' => e = .returned (.bool true) ∧ Below w.heap.size w w' := by
  go_enter Tryd.func50, Tryd.ntmps50
  go_wp2
  go_ret
  exact ⟨rfl, beB0 _ _⟩
set_option maxHeartbeats 1000000 in
theorem letter205_c {w : World} : Calls Tryd.prog 35 #[.agg #[.int .i64 2, .int .i64 0, .int .i64 5]] w fun e w' => e = .returned (.string ⟨#[119]⟩) ∧ Below w.heap.size w w' := by
  go_enter Tryd.func35, Tryd.ntmps35
  go_wp2_with fail
  refine (writes205_c).mono ?_
  rintro e w2 ⟨rfl, b2⟩
  go_wp2_with fail
  go_ret
  exact ⟨rfl, below_step (beB0 _ _) b2⟩

theorem Blk.three' {w : World} {g : Nat} {t : TypeId} {a b c : Value} (h : Blk w g t #[a, b, c]) :
    w.cell? ⟨g, 0, none⟩ = some a ∧ w.cell? ⟨g, 1, none⟩ = some b ∧ w.cell? ⟨g, 2, none⟩ = some c := ⟨h.cell 0, h.cell 1, h.cell 2⟩
set_option maxHeartbeats 2000000 in
theorem OpValid205_c {w : World} : Calls Tryd.prog 48 #[.agg #[.int .i64 2, .int .i64 0, .int .i64 5]] w fun e w' => e = .returned (.bool true) ∧ Below w.heap.size w w' := by
  have i1 : inB 0 0 2 = true := rfl
  have i2 : inB 5 0 99 = true := rfl
  have I1 := hide i1; have I2 := hide i2; clear i1 i2
  have hk : ∀ W : World, Calls Tryd.prog 67 #[.int .i64 0] W fun e w' => e = .returned (.bool true) ∧ W = w' := by
    intro W
    go_enter Tryd.func67, Tryd.ntmps67
    go_wp2_with (go_at_call 64; refine (within_c).mono ?_; rintro e w' ⟨rfl, rfl⟩; rw [I1.out])
    go_ret
    exact ⟨rfl, rfl⟩
  have hv : ∀ W : World, Calls Tryd.prog 70 #[.int .i64 5] W fun e w' => e = .returned (.bool true) ∧ W = w' := by
    intro W
    go_enter Tryd.func70, Tryd.ntmps70
    go_wp2_with (go_at_call 64; refine (within_c).mono ?_; rintro e w' ⟨rfl, rfl⟩; rw [I2.out])
    go_ret
    exact ⟨rfl, rfl⟩
  have HK := hide hk; have HV := hide hv; clear hk hv
  have K0 := Blk.new w 42 #[.int .i64 2, .int .i64 0, .int .i64 5]
  go_enter Tryd.func48, Tryd.ntmps48
  go_wp2_with fail
  refine (reads205_c).mono ?_
  rintro e w2 ⟨rfl, b2⟩
  have B2 := below_step (beB0 _ _) b2
  replace K0 := K0.belowAll b2
  obtain ⟨p0, p1, p2⟩ := K0.three'
  go_wp2_with fail
  refine (writes205_c).mono ?_
  rintro e w3 ⟨rfl, b3⟩
  have B3 := below_step B2 b3
  clear p0 p1 p2
  replace K0 := K0.belowAll b3
  obtain ⟨p0, p1, p2⟩ := K0.three'
  go_wp2_with fail
  refine (HK.out _).mono ?_
  rintro e w' ⟨rfl, rfl⟩
  go_wp2_with fail
  refine (HV.out _).mono ?_
  rintro e w' ⟨rfl, rfl⟩
  go_wp2_with fail
  refine (writes205_c).mono ?_
  rintro e w4 ⟨rfl, b4⟩
  have B4 := below_step B3 b4
  clear p0 p1 p2
  replace K0 := K0.belowAll b4
  obtain ⟨p0, p1, p2⟩ := K0.three'
  go_wp2_with fail
  go_ret
  exact ⟨rfl, B4⟩

end Go.Proofs.YtefopnkicllpeaaDoor
