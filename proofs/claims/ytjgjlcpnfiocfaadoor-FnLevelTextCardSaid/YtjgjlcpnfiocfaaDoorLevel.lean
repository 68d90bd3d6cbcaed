/- LevelText: both. -/
import Derived.Test.YtjgjlcpnfiocfaaDoorSmall
namespace Go.Proofs.YtjgjlcpnfiocfaaDoor
open Go.RowKit

def levelV (n : Int) : Value := if n = 0 then (.string ⟨#[110, 111, 110, 101]⟩ : Value) else if n = 1 then (.string ⟨#[119, 114, 105, 116, 101, 115]⟩ : Value) else if n = 2 then (.string ⟨#[102, 108, 111, 119, 115]⟩ : Value) else if n = 3 then (.string ⟨#[115, 105, 110, 103, 108, 101, 115]⟩ : Value) else if n = 4 then (.string ⟨#[97, 108, 108]⟩ : Value) else .string ⟨#[]⟩

set_option maxHeartbeats 4000000 in
theorem spec_LevelText_c {n : Int} {w : World} :
    Calls Tryd.prog 16 #[.int .i64 n] w fun e w' => e = .returned (levelV n) ∧ Below w.heap.size w w' := by
  have b1 : ∀ o, Below w.heap.size w (w.alloc o) := fun o => (Below.refl _ _).alloc (Nat.le_refl _) o
  by_cases h : inB n 0 4 = true
  · have h' := (inB_iff _ _ _).1 h
    have hc : n = 0 ∨ n = 1 ∨ n = 2 ∨ n = 3 ∨ n = 4 := by omega
    rcases hc with rfl | rfl | rfl | rfl | rfl
    all_goals
      clear h h'
      go_enter Tryd.func16, Tryd.ntmps16
      go_wp2_with (go_at_call 53; refine (l1In_c).mono ?_; rintro e w' ⟨rfl, rfl⟩)
      go_ret
      exact ⟨by first | rfl | (simp [levelV]), b1 _⟩
  · have h' : inB n 0 4 = false := by simpa using h
    have e : levelV n = .string ⟨#[]⟩ := by
      have := (inB_not _ _ _).1 h'
      unfold levelV
      rw [if_neg (by omega), if_neg (by omega), if_neg (by omega), if_neg (by omega), if_neg (by omega)]
    have E := hide e
    clear e h
    go_enter Tryd.func16, Tryd.ntmps16
    go_wp2_with (go_at_call 53; refine (l1In_c).mono ?_; rintro e w' ⟨rfl, rfl⟩)
    go_ret
    rw [E.out]
    exact ⟨rfl, by first | exact Below.refl _ _ | exact b1 _⟩

set_option maxHeartbeats 4000000 in
theorem impl_LevelText_c {n : Int} {w : World} :
    Calls Tryd.prog 15 #[.int .i64 n] w fun e w' => e = .returned (levelV n) ∧ Below w.heap.size w w' := by
  have b1 : ∀ o, Below w.heap.size w (w.alloc o) := fun o => (Below.refl _ _).alloc (Nat.le_refl _) o
  by_cases h : inB n 0 4 = true
  · have h' := (inB_iff _ _ _).1 h
    have hc : n = 0 ∨ n = 1 ∨ n = 2 ∨ n = 3 ∨ n = 4 := by omega
    rcases hc with rfl | rfl | rfl | rfl | rfl
    all_goals
      clear h h'
      go_enter Tryd.func15, Tryd.ntmps15
      go_wp2_with (go_at_call 52; refine (within_c).mono ?_; rintro e w' ⟨rfl, rfl⟩)
      go_ret
      exact ⟨by first | rfl | (simp [levelV]), b1 _⟩
  · have h' : inB n 0 4 = false := by simpa using h
    have e : levelV n = .string ⟨#[]⟩ := by
      have := (inB_not _ _ _).1 h'
      unfold levelV
      rw [if_neg (by omega), if_neg (by omega), if_neg (by omega), if_neg (by omega), if_neg (by omega)]
    have E := hide e
    clear e h
    go_enter Tryd.func15, Tryd.ntmps15
    go_wp2_with (go_at_call 52; refine (within_c).mono ?_; rintro e w' ⟨rfl, rfl⟩)
    go_ret
    rw [E.out]
    exact ⟨rfl, by first | exact Below.refl _ _ | exact b1 _⟩

end Go.Proofs.YtjgjlcpnfiocfaaDoor
