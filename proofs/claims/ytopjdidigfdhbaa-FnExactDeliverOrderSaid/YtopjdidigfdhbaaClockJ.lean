/- Contracts of the clocks: Clone, list, ClockStep of both. -/
import Derived.Test.YtopjdidigfdhbaaClockB
import Derived.Test.YtopjdidigfdhbaaApp
namespace Go.Proofs.Ytopjdidigfdhbaa
open Go.RowKit

set_option maxHeartbeats 400000 in
theorem Clone_int_c {a : Addr} {n c : Nat} {xs : List Int} {w : World} (hs : SI w (.slice (some a) n c) n xs) :
    Calls Try.prog 47 #[.slice (some a) n c] w fun e w' => ∃ v, e = .returned v ∧ OI w' w.heap.size v n xs ∧ Below w.heap.size w w' := by
  have qT : ∀ (w : World) (a : Option Addr) (n c n' c' : Nat), (binOp .eql 22 (.slice a n c) (.slice none n' c')).run Try.prog w = .ok (.bool a.isNone) w := fun w a n c n' c' => Lib.run_eql_slice_nil w _ _ a n c n' c' Try.underlying22
  go_enter Try.func47, Try.ntmps47
  go_wp2_with (at_builtin; refine wpList_appI rfl _ _ rfl rfl (OI.empty w) rfl (hs.alloc _) (by have := hs.bd; omega) (by simp) ?_; intro v1 w1 ho hg hat)
  go_ret
  refine ⟨_, rfl, by simpa using ho, ?_⟩
  exact ((Below.refl _ _).alloc (Nat.le_refl _) _).grown hg (by simp) (fun k hk => by have h : some w.heap.size = some k := hk; injection h; omega)

set_option maxHeartbeats 400000 in
theorem list_c {x0 x1 x2 x3 : Int} {w : World} :
    Calls Try.prog 43 #[.agg #[.int .i64 x0, .int .i64 x1, .int .i64 x2, .int .i64 x3]] w fun e w' => ∃ v, e = .returned v ∧ OI w' w.heap.size v 4 [x0, x1, x2, x3] ∧ Below w.heap.size w w' := by
  have S : SI (w.alloc (.cells #[.int .i64 x0, .int .i64 x1, .int .i64 x2, .int .i64 x3] 56)) (.slice (some ⟨w.heap.size, 0, none⟩) 4 4) 4 [x0, x1, x2, x3] :=
    SI.of_blk (Blk.new w _ _) (get_ints (xs := [x0, x1, x2, x3])) rfl (Nat.le_refl _) (by omega)
  go_enter Try.func43, Try.ntmps43
  go_wp2_with (go_at_call 47; refine (Clone_int_c S).mono ?_; rintro e w1 ⟨v, rfl, ho, hb⟩)
  go_ret
  exact ⟨_, rfl, ho.mono (by simp), ((Below.refl _ _).alloc (Nat.le_refl _) _).trans (hb.mono (by simp))⟩

/-- What ClockStep returns: the counts, and whether one was raised. -/
def stepOk (xs : List Int) (at_ : Int) : Bool := clockB xs && inB at_ 0 3 && !decide (xs[at_.toNat]? = some 1000)
def stepL (xs : List Int) (at_ : Int) : List Int := if clockB xs then (if stepOk xs at_ then xs.set at_.toNat (xs[at_.toNat]?.getD 0 + 1) else xs) else []

theorem inB_place {n : Int} (h : inB n 0 3 = true) : n = 0 ∨ n = 1 ∨ n = 2 ∨ n = 3 := by rw [inB_iff] at h; omega


theorem Clk.of {xs : List Int} {c0 c1 c2 c3 : Int} (h : Clk xs c0 c1 c2 c3) (hv : clockB xs = true) : xs = [c0, c1, c2, c3] := by unfold Clk at h; rw [hv] at h; exact h.symm
theorem clockB_four {c0 c1 c2 c3 : Int} (h : clockB [c0, c1, c2, c3] = true) : (0 ≤ c0 ∧ c0 ≤ 1000) ∧ (0 ≤ c1 ∧ c1 ≤ 1000) ∧ (0 ≤ c2 ∧ c2 ≤ 1000) ∧ (0 ≤ c3 ∧ c3 ≤ 1000) := by
  have := ((clockB_iff _).1 h).2
  simp only [List.mem_cons, List.not_mem_nil, or_false, forall_eq_or_imp, forall_eq, inB_iff] at this
  exact this

set_option maxHeartbeats 400000 in
theorem placeOk_c {n : Int} {w : World} : Calls Try.prog 36 #[.int .i64 n] w fun e w' => e = .returned (.bool (inB n 0 3)) ∧ w = w' := by
  go_enter Try.func36, Try.ntmps36
  go_wp2_with (go_at_call 46; refine (within_c).mono ?_; rintro e w' ⟨rfl, rfl⟩)
  go_ret
  exact ⟨rfl, rfl⟩


end Go.Proofs.Ytopjdidigfdhbaa
