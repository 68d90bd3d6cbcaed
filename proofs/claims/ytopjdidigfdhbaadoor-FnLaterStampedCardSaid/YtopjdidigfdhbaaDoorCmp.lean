/- cmp.Compare, cmp.Or of ints. -/
import Derived.Test.YtopjdidigfdhbaaDoorLib2
namespace Go.Proofs.YtopjdidigfdhbaaDoor
open Go.RowKit

def cmpI (a b : Int) : Int := if a < b then -1 else if b < a then 1 else 0
def orI (a b c : Int) : Int := if a ≠ 0 then a else if b ≠ 0 then b else c

set_option maxHeartbeats 1000000 in
theorem isNaN_c {a : Int} {w : World} : Calls Tryd.prog 75 #[.int .i64 a] w fun e w' => e = .returned (.bool false) ∧ w = w' := by
  go_enter Tryd.func75, Tryd.ntmps75
  go_wp2_with fail
  go_ret
  exact ⟨by simp, rfl⟩

set_option maxHeartbeats 4000000 in
theorem Compare_c {a b : Int} {w : World} : Calls Tryd.prog 64 #[.int .i64 a, .int .i64 b] w fun e w' => e = .returned (.int .i64 (cmpI a b)) ∧ w = w' := by
  by_cases h1 : a < b
  · have e : cmpI a b = -1 := by simp [cmpI, h1]
    have E := hide e; clear e
    go_enter Tryd.func64, Tryd.ntmps64
    go_wp2_with (go_at_call 75; refine (isNaN_c).mono ?_; rintro e w' ⟨rfl, rfl⟩)
    go_ret
    rw [E.out]
    exact ⟨rfl, rfl⟩
  · by_cases h2 : b < a
    · have e : cmpI a b = 1 := by simp [cmpI, h1, h2]
      have E := hide e; clear e
      go_enter Tryd.func64, Tryd.ntmps64
      go_wp2_with (go_at_call 75; refine (isNaN_c).mono ?_; rintro e w' ⟨rfl, rfl⟩)
      go_ret
      rw [E.out]
      exact ⟨rfl, rfl⟩
    · have e : cmpI a b = 0 := by simp [cmpI, h1, h2]
      have E := hide e; clear e
      go_enter Tryd.func64, Tryd.ntmps64
      go_wp2_with (go_at_call 75; refine (isNaN_c).mono ?_; rintro e w' ⟨rfl, rfl⟩)
      go_ret
      rw [E.out]
      exact ⟨rfl, rfl⟩

set_option maxHeartbeats 4000000 in
theorem Or3_c {g : Nat} {a b c : Int} {w : World} (h : Blk w g 3 #[.int .i64 a, .int .i64 b, .int .i64 c]) : Calls Tryd.prog 63 #[.slice (some ⟨g, 0, none⟩) 3 3] w fun e w' => e = .returned (.int .i64 (orI a b c)) ∧ w = w' := by
  have c0 : w.cell? ⟨g, 0, none⟩ = some (.int .i64 a) := h.cell 0
  have c1 : w.cell? ⟨g, 1, none⟩ = some (.int .i64 b) := h.cell 1
  have c2 : w.cell? ⟨g, 2, none⟩ = some (.int .i64 c) := h.cell 2
  clear h
  by_cases h1 : a = 0
  · by_cases h2 : b = 0
    · by_cases h3 : c = 0
      · have e : orI a b c = 0 := by simp [orI, h1, h2, h3]
        have E := hide e; clear e
        subst h1; subst h2; subst h3
        go_enter Tryd.func63, Tryd.ntmps63
        go_wp2_with fail
        refine wp_loop_rounds 4 ?_
        repeat (rw [rounds_succ]; go_wp2_with fail)
        go_ret
        rw [E.out]
        exact ⟨rfl, rfl⟩
      · have e : orI a b c = c := by simp [orI, h1, h2]
        have E := hide e; clear e
        subst h1; subst h2
        go_enter Tryd.func63, Tryd.ntmps63
        go_wp2_with fail
        refine wp_loop_rounds 4 ?_
        repeat (rw [rounds_succ]; go_wp2_with fail)
        go_ret
        rw [E.out]
        exact ⟨rfl, rfl⟩
    · have e : orI a b c = b := by simp [orI, h1, h2]
      have E := hide e; clear e
      subst h1
      go_enter Tryd.func63, Tryd.ntmps63
      go_wp2_with fail
      refine wp_loop_rounds 4 ?_
      repeat (rw [rounds_succ]; go_wp2_with fail)
      go_ret
      rw [E.out]
      exact ⟨rfl, rfl⟩
  · have e : orI a b c = a := by simp [orI, h1]
    have E := hide e; clear e
    go_enter Tryd.func63, Tryd.ntmps63
    go_wp2_with fail
    refine wp_loop_rounds 4 ?_
    repeat (rw [rounds_succ]; go_wp2_with fail)
    go_ret
    rw [E.out]
    exact ⟨rfl, rfl⟩

end Go.Proofs.YtopjdidigfdhbaaDoor
