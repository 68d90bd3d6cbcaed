/- Contracts of the clocks: ClockBefore of both. -/
import Derived.Test.YtopjdidigfdhbaaDoorClock
namespace Go.Proofs.YtopjdidigfdhbaaDoor
open Go.RowKit

/-- Every count of xs is at most that of ys. -/
def leAll : List Int → List Int → Bool
  | x :: xs, y :: ys => decide (x ≤ y) && leAll xs ys
  | _, _ => true
def beforeB (xs ys : List Int) : Bool := clockB xs && clockB ys && leAll xs ys
theorem leAll_snoc {xs ys : List Int} : ∀ {k : Nat} {x y : Int}, leAll (xs.take k) (ys.take k) = true → xs[k]? = some x → ys[k]? = some y → x ≤ y → leAll (xs.take (k + 1)) (ys.take (k + 1)) = true := by
  induction xs generalizing ys with
  | nil => intro k x y _ hx; simp at hx
  | cons a xs ih =>
    intro k x y h hx hy hxy
    cases ys with
    | nil => simp at hy
    | cons b ys =>
      cases k with
      | zero => simp at hx hy; subst hx; subst hy; simp [leAll, hxy]
      | succ k =>
        simp only [List.take_succ_cons, leAll, Bool.and_eq_true, decide_eq_true_eq] at h ⊢
        exact ⟨h.1, ih h.2 (by simpa using hx) (by simpa using hy) hxy⟩
theorem leAll_bad {xs ys : List Int} : ∀ {k : Nat} {x y : Int}, xs[k]? = some x → ys[k]? = some y → y < x → leAll xs ys = false := by
  induction xs generalizing ys with
  | nil => intro k x y hx; simp at hx
  | cons a xs ih =>
    intro k x y hx hy hxy
    cases ys with
    | nil => simp at hy
    | cons b ys =>
      cases k with
      | zero =>
        simp at hx hy; subst hx; subst hy
        simp only [leAll, Bool.and_eq_false_iff, decide_eq_false_iff_not]; left; omega
      | succ k => simp only [leAll, Bool.and_eq_false_iff]; right; exact ih (by simpa using hx) (by simpa using hy) hxy


theorem leAll_take4 (x0 x1 x2 x3 y0 y1 y2 y3 : Int) (k : Nat) (hk : k < 4) :
    ∃ x y, [x0, x1, x2, x3][k]? = some x ∧ [y0, y1, y2, y3][k]? = some y ∧ leAll ([x0, x1, x2, x3].take (k + 1)) ([y0, y1, y2, y3].take (k + 1)) = (leAll ([x0, x1, x2, x3].take k) ([y0, y1, y2, y3].take k) && decide (x ≤ y)) := by
  match k, hk with
  | 0, _ => exact ⟨x0, y0, rfl, rfl, by simp [leAll]⟩
  | 1, _ => exact ⟨x1, y1, rfl, rfl, by simp [leAll]⟩
  | 2, _ => exact ⟨x2, y2, rfl, rfl, by simp [leAll, Bool.and_assoc]⟩
  | 3, _ => exact ⟨x3, y3, rfl, rfl, by simp [leAll, Bool.and_assoc]⟩
theorem before_fin {xs ys : List Int} {x0 x1 x2 x3 y0 y1 y2 y3 : Int} (hx : Clk xs x0 x1 x2 x3) (hy : Clk ys y0 y1 y2 y3) :
    ((clockB xs && clockB ys) && leAll [x0, x1, x2, x3] [y0, y1, y2, y3]) = beforeB xs ys := by
  unfold Clk at hx hy
  unfold beforeB
  cases h1 : clockB xs <;> cases h2 : clockB ys <;> simp only [h1, h2, if_true] at hx hy <;> simp [hx, hy]

set_option maxHeartbeats 1000000 in
theorem impl_ClockBefore_c {u v : Value} {n m : Nat} {xs ys : List Int} {w : World} (ha : SI w u n xs) (hb : SI w v m ys) :
    Calls Tryd.prog 34 #[u, v] w fun e w' => e = .returned (.bool (beforeB xs ys)) ∧ Below w.heap.size w w' := by
  go_enter Tryd.func34, Tryd.ntmps34
  go_wp2_with fail
  refine (clocksOf_c ha hb).mono ?_
  rintro e w1 ⟨x0, x1, x2, x3, y0, y1, y2, y3, rfl, hx, hy, hb1⟩
  obtain ⟨ok, hok⟩ : ∃ ok, ok = (clockB xs && clockB ys) := ⟨_, rfl⟩
  rw [← hok]
  have Hok := hide hok; clear hok
  have hz1 := hb1.size
  go_wp2_with fail
  go_loopw [7, 16] (fun s7 s16 wr => ∃ k : Nat, k ≤ 4 ∧ s16 = .int .i64 k ∧ s7 = .bool (ok && leAll ([x0, x1, x2, x3].take k) ([y0, y1, y2, y3].take k)) ∧ Blk wr w1.heap.size 81 #[.int .i64 x0, .int .i64 x1, .int .i64 x2, .int .i64 x3] ∧ Blk wr (w1.heap.size + 1) 81 #[.int .i64 y0, .int .i64 y1, .int .i64 y2, .int .i64 y3] ∧ Below w.heap.size w wr) (fun _ i _ => 4 - (intOf i).toNat)
  case atStart =>
    refine ⟨0, Nat.zero_le _, rfl, by simp [leAll], (Blk.new _ _ _).alloc _, ?_, (hb1.alloc hz1 _).alloc (by simp; omega) _⟩
    have := Blk.new (w1.alloc (.cells #[.int .i64 x0, .int .i64 x1, .int .i64 x2, .int .i64 x3] 81)) 81 #[.int .i64 y0, .int .i64 y1, .int .i64 y2, .int .i64 y3]
    simpa using this
  case round =>
    obtain ⟨k, hk, rfl, rfl, k5, k6, hbel⟩ := hrel
    obtain ⟨o, ho⟩ : ∃ o, o = (ok && leAll ([x0, x1, x2, x3].take k) ([y0, y1, y2, y3].take k)) := ⟨_, rfl⟩
    rw [← ho]
    by_cases hlt : k < 4
    · obtain ⟨x, y, hx1, hy1, hstep⟩ := leAll_take4 x0 x1 x2 x3 y0 y1 y2 y3 k hlt
      have hd1 : wr.cell? ⟨w1.heap.size, k, none⟩ = some (.int .i64 x) := by rw [k5.cell]; match k, hlt with | 0, _ | 1, _ | 2, _ | 3, _ => simp at hx1 ⊢; exact hx1
      have hd2 : wr.cell? ⟨w1.heap.size + 1, k, none⟩ = some (.int .i64 y) := by rw [k6.cell]; match k, hlt with | 0, _ | 1, _ | 2, _ | 3, _ => simp at hy1 ⊢; exact hy1
      have Hst : Hid ((ok && leAll ([x0, x1, x2, x3].take (k + 1)) ([y0, y1, y2, y3].take (k + 1))) = (o && decide (x ≤ y))) := by rw [hstep, ← Bool.and_assoc, ← ho]; rfl
      have K5 := hide k5; have K6 := hide k6
      clear hstep hx1 hy1 ho k5 k6
      cases o
      · go_wp2
        go_quiet (fail)
        go_wp2
        go_roundw
        case rel => exact ⟨k + 1, by omega, by go_num, by rw [Hst.out]; rfl, K5.out.drewN _, K6.out.drewN _, below_drewN hbel _⟩
        case measure => simp [intOf]; omega
      · go_wp2
        go_quiet (fail)
        go_wp2
        go_roundw
        case rel => exact ⟨k + 1, by omega, by go_num, by rw [Hst.out]; rfl, K5.out.drewN _, K6.out.drewN _, below_drewN hbel _⟩
        case measure => simp [intOf]; omega
    · have Ho := hide ho; clear ho
      go_wp2
      go_ret
      obtain rfl : k = 4 := by omega
      refine ⟨?_, hbel⟩
      rw [← before_fin hx hy, ← Hok.out]
      have := Ho.out
      rw [List.take_of_length_le (by simp), List.take_of_length_le (by simp)] at this
      rw [← this]; rfl

end Go.Proofs.YtopjdidigfdhbaaDoor
