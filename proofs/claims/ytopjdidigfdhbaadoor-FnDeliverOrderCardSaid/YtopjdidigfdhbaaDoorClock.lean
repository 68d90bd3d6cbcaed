/- Contracts of the clocks: ClockValid, clockOf, clocksOf, ClockBefore. -/
import Derived.Test.YtopjdidigfdhbaaDoorSmall
import Derived.Test.YtopjdidigfdhbaaDoorInts
import Derived.Laws.Cover3
import Derived.Deep.DeepCutAuto
namespace Go.Proofs.YtopjdidigfdhbaaDoor
open Go.RowKit

def clockB (xs : List Int) : Bool := decide (xs.length = 4) && xs.all (inB · 0 1000)
theorem clockB_iff (xs : List Int) : clockB xs = true ↔ xs.length = 4 ∧ ∀ x ∈ xs, inB x 0 1000 = true := by simp [clockB]
theorem clockB_of_bad {xs : List Int} {k : Nat} {x : Int} (h : xs[k]? = some x) (hx : inB x 0 1000 = false) : clockB xs = false := by
  rw [← Bool.not_eq_true, clockB_iff]
  rintro ⟨_, h2⟩
  have := h2 x (List.mem_of_getElem? h)
  rw [hx] at this; cases this
theorem all_snoc {p : Int → Bool} {xs : List Int} {k : Nat} {x : Int} (h : (xs.take k).all p = true) (hx : xs[k]? = some x) (hp : p x = true) : (xs.take (k + 1)).all p = true := by
  rw [List.take_add_one, hx, List.all_append, h]; simp [hp]

theorem beq_four (n : Nat) : ((n : Int) == 4) = decide (n = 4) := by
  rw [Bool.eq_iff_iff]; simp; omega

set_option maxHeartbeats 400000 in
theorem spec_ClockValid_c {v : Value} {n : Nat} {xs : List Int} {w : World} (hs : SI w v n xs) :
    Calls Tryd.prog 59 #[v] w fun e w' => e = .returned (.bool (clockB xs)) ∧ w = w' := by
  obtain ⟨A, c, rfl, hnc, hn, hr⟩ := hs
  have hl := hide hr.len
  go_enter Tryd.func59, Tryd.ntmps59
  go_wp2
  go_loop [3] (fun i => ∃ k : Nat, k ≤ n ∧ i = .int .i64 k ∧ (xs.take k).all (inB · 0 1000) = true) (fun i => n - (intOf i).toNat)
  case atStart => exact ⟨0, Nat.zero_le _, rfl, by simp⟩
  case round =>
    obtain ⟨k, hk, rfl, hall⟩ := hrel
    have Hall := hide hall; clear hall
    by_cases hlt : k < n
    · obtain ⟨b, off, x, rfl, hb, hx, hc⟩ := hr.at_ hlt
      have Hx := hide hx; clear hx
      cases hv : inB x 0 1000
      · go_wp2_with (go_at_call 46; refine (l1In_c).mono ?_; rintro e w' ⟨rfl, rfl⟩)
        go_ret
        exact ⟨by rw [clockB_of_bad Hx.out hv]; rfl, rfl⟩
      · go_wp2_with (go_at_call 46; refine (l1In_c).mono ?_; rintro e w' ⟨rfl, rfl⟩)
        go_round
        case rel => exact ⟨k + 1, by omega, by go_num, all_snoc Hall.out Hx.out hv⟩
        case measure => simp [intOf]; omega
    · go_wp2
      go_ret
      obtain rfl : k = n := by omega
      refine ⟨?_, rfl⟩
      have h1 := Hall.out
      rw [List.take_of_length_le (by rw [hl.out]; omega)] at h1
      unfold clockB
      rw [h1, Bool.and_true, hl.out]
      exact congrArg _ (congrArg _ (beq_four k))

set_option maxHeartbeats 400000 in
theorem clockOf_1_c {x : Int} {w : World} :
    Calls Tryd.prog 74 #[.int .i64 x] w fun e w' => e = .returned (.bool (!inB x 0 1000)) ∧ w = w' := by
  go_enter Tryd.func74, Tryd.ntmps74
  go_wp2_with (go_at_call 45; refine (within_c).mono ?_; rintro e w' ⟨rfl, rfl⟩)
  go_ret
  exact ⟨rfl, rfl⟩

def badCount (x : Int) : Bool := !inB x 0 1000
theorem any_snoc_f {p : Int → Bool} {xs : List Int} {k : Nat} {x : Int} (h : (xs.take k).any p = false) (hx : xs[k]? = some x) (hp : p x = false) : (xs.take (k + 1)).any p = false := by
  rw [List.take_add_one, hx, List.any_append, h]; simp [hp]
theorem any_of_at {p : Int → Bool} {xs : List Int} {k : Nat} {x : Int} (hx : xs[k]? = some x) (hp : p x = true) : xs.any p = true :=
  List.any_eq_true.2 ⟨x, List.mem_of_getElem? hx, hp⟩

set_option maxHeartbeats 400000 in
theorem IndexFunc_int_c {v : Value} {n : Nat} {xs : List Int} {w : World} (hs : SI w v n xs) :
    Calls Tryd.prog 82 #[v, .func (.func 74) #[] #[]] w fun e w' => ∃ i : Int, e = .returned (.int .i64 i) ∧ (decide (0 ≤ i)) = xs.any badCount ∧ w = w' := by
  obtain ⟨A, c, rfl, hnc, hn, hr⟩ := hs
  have hl := hide hr.len
  go_enter Tryd.func82, Tryd.ntmps82
  go_wp2
  go_loop [8] (fun i => ∃ k : Nat, k ≤ n ∧ i = .int .i64 k ∧ (xs.take k).any badCount = false) (fun i => n - (intOf i).toNat)
  case atStart => exact ⟨0, Nat.zero_le _, rfl, by simp⟩
  case round =>
    obtain ⟨k, hk, rfl, hall⟩ := hrel
    have Hall := hide hall; clear hall
    by_cases hlt : k < n
    · obtain ⟨b, off, x, rfl, hb, hx, hc⟩ := hr.at_ hlt
      have Hx := hide hx; clear hx
      cases hv : inB x 0 1000
      · go_wp2_with (go_at_call 74; refine (clockOf_1_c).mono ?_; rintro e w' ⟨rfl, rfl⟩)
        go_ret
        exact ⟨_, rfl, by rw [any_of_at Hx.out (by simp [badCount, hv])]; simp, rfl⟩
      · go_wp2_with (go_at_call 74; refine (clockOf_1_c).mono ?_; rintro e w' ⟨rfl, rfl⟩)
        go_round
        case rel => exact ⟨k + 1, by omega, by go_num, any_snoc_f Hall.out Hx.out (by simp [badCount, hv])⟩
        case measure => simp [intOf]; omega
    · go_wp2
      go_ret
      obtain rfl : k = n := by omega
      refine ⟨_, rfl, ?_, rfl⟩
      have h1 := Hall.out
      rw [List.take_of_length_le (by rw [hl.out]; omega)] at h1
      rw [h1]; rfl

set_option maxHeartbeats 400000 in
theorem ContainsFunc_int_c {v : Value} {n : Nat} {xs : List Int} {w : World} (hs : SI w v n xs) :
    Calls Tryd.prog 73 #[v, .func (.func 74) #[] #[]] w fun e w' => e = .returned (.bool (xs.any badCount)) ∧ w = w' := by
  obtain ⟨A, c, rfl, hnc, hn, hr⟩ := hs
  go_enter Tryd.func73, Tryd.ntmps73
  go_wp2_with (go_at_call 82; refine (IndexFunc_int_c ⟨A, c, rfl, hnc, hn, hr⟩).mono ?_; rintro e w' ⟨i, rfl, hi, rfl⟩; have Hi := hide hi; clear hi)
  go_ret
  exact ⟨by rw [← Hi.out]; rfl, rfl⟩

theorem clockB_any (xs : List Int) : clockB xs = (decide (xs.length = 4) && !xs.any badCount) := by
  unfold clockB
  congr 1
  rw [Bool.eq_iff_iff]; simp [badCount]

/-- The four counts of a clock: those of a valid list, else zeros. -/
def Clk (xs : List Int) (c0 c1 c2 c3 : Int) : Prop := [c0, c1, c2, c3] = if clockB xs then xs else [0, 0, 0, 0]
def clkV (c0 c1 c2 c3 : Int) : Value := .agg #[.int .i64 c0, .int .i64 c1, .int .i64 c2, .int .i64 c3]

/-- Four cells of a slice of four. -/
theorem RI.four {w : World} {A : Option Addr} {xs : List Int} (h : RI w A 4 xs) : ∃ b off x0 x1 x2 x3, A = some ⟨b, off, none⟩ ∧ b < w.heap.size ∧ xs = [x0, x1, x2, x3] ∧
    w.cell? ⟨b, off, none⟩ = some (.int .i64 x0) ∧ w.cell? ⟨b, off + 1, none⟩ = some (.int .i64 x1) ∧ w.cell? ⟨b, off + 2, none⟩ = some (.int .i64 x2) ∧ w.cell? ⟨b, off + 3, none⟩ = some (.int .i64 x3) := by
  obtain ⟨hl, h2⟩ := h
  obtain ⟨b, off, e, hlt, hc⟩ := h2 (by omega)
  match xs, hl with
  | [x0, x1, x2, x3], _ => exact ⟨b, off, x0, x1, x2, x3, e, hlt, rfl, hc 0 x0 rfl, hc 1 x1 rfl, hc 2 x2 rfl, hc 3 x3 rfl⟩

set_option maxHeartbeats 400000 in
theorem clockOf_c {v : Value} {n : Nat} {xs : List Int} {w : World} (hs : SI w v n xs) :
    Calls Tryd.prog 58 #[v] w fun e w' => ∃ c0 c1 c2 c3 : Int, e = .returned (.tuple #[.agg #[.int .i64 c0, .int .i64 c1, .int .i64 c2, .int .i64 c3], .bool (clockB xs)]) ∧ Clk xs c0 c1 c2 c3 ∧ Below w.heap.size w w' := by
  obtain ⟨A, c, rfl, hnc, hn, hr⟩ := hs
  have hl := hide hr.len
  by_cases h4 : n = 4
  · subst h4
    obtain ⟨b, off, x0, x1, x2, x3, rfl, hbs, hxs, c0, c1, c2, c3⟩ := hr.four
    have Hxs := hide hxs; clear hxs
    have haa : ∀ (W : World) (a : Option Addr), (Instr.arrayAt 81 (.slice a 4 c)).run Tryd.prog W = .ok (.pointer a) W := fun W a => run_arrayAt W _ _ 4 a 4 c Tryd.underlying81 (by omega)
    have hcb := clockB_any xs
    have Hcb := hide hcb; clear hcb
    cases hb : xs.any badCount
    · go_enter Tryd.func58, Tryd.ntmps58
      go_wp2_with (go_at_call 73; refine (ContainsFunc_int_c ⟨_, _, rfl, hnc, hn, hr.below ((Below.refl _ _).alloc (Nat.le_refl _) _)⟩).mono ?_; rintro e w' ⟨rfl, rfl⟩)
      have hv : clockB xs = true := by rw [Hcb.out, hb, hl.out]; rfl
      refine bodyPost_ret (v := .tuple #[.agg #[.int .i64 x0, .int .i64 x1, .int .i64 x2, .int .i64 x3], .bool true]) (by simp [results, Tryd.results58, go_sem]) rfl ⟨x0, x1, x2, x3, by rw [hv], by unfold Clk; rw [hv, Hxs.out]; rfl, (Below.refl _ _).alloc (Nat.le_refl _) _⟩
    · go_enter Tryd.func58, Tryd.ntmps58
      go_wp2_with (go_at_call 73; refine (ContainsFunc_int_c ⟨_, _, rfl, hnc, hn, hr.below ((Below.refl _ _).alloc (Nat.le_refl _) _)⟩).mono ?_; rintro e w' ⟨rfl, rfl⟩)
      have hv : clockB xs = false := by rw [Hcb.out, hb, hl.out]; rfl
      refine bodyPost_ret (v := .tuple #[.agg #[.int .i64 0, .int .i64 0, .int .i64 0, .int .i64 0], .bool false]) (by simp [results, Tryd.results58, go_sem]) rfl ⟨0, 0, 0, 0, by rw [hv], by unfold Clk; rw [hv]; rfl, (Below.refl _ _).alloc (Nat.le_refl _) _⟩
  · have hv : clockB xs = false := by rw [clockB_any, hl.out]; simp [h4]
    have Hv := hide hv; clear hv
    have h4' : ((n : Int) != 4) = true := by simp; omega
    go_enter Tryd.func58, Tryd.ntmps58
    go_wp2
    refine bodyPost_ret (v := .tuple #[.agg #[.int .i64 0, .int .i64 0, .int .i64 0, .int .i64 0], .bool false]) (by simp [results, Tryd.results58, go_sem]) rfl ⟨0, 0, 0, 0, by rw [Hv.out], by unfold Clk; rw [Hv.out]; rfl, (Below.refl _ _).alloc (Nat.le_refl _) _⟩

set_option maxHeartbeats 400000 in
theorem impl_ClockValid_c {v : Value} {n : Nat} {xs : List Int} {w : World} (hs : SI w v n xs) :
    Calls Tryd.prog 56 #[v] w fun e w' => e = .returned (.bool (clockB xs)) ∧ Below w.heap.size w w' := by
  obtain ⟨A, c, rfl, hnc, hn, hr⟩ := hs
  go_enter Tryd.func56, Tryd.ntmps56
  go_wp2_with (go_at_call 58; refine (clockOf_c ⟨A, c, rfl, hnc, hn, hr⟩).mono ?_; rintro e w' ⟨c0, c1, c2, c3, rfl, hck, hb⟩)
  go_ret
  exact ⟨rfl, hb.alloc hb.size _⟩

set_option maxHeartbeats 400000 in
theorem clocksOf_c {u v : Value} {n m : Nat} {xs ys : List Int} {w : World} (ha : SI w u n xs) (hb : SI w v m ys) :
    Calls Tryd.prog 62 #[u, v] w fun e w' => ∃ x0 x1 x2 x3 y0 y1 y2 y3 : Int, e = .returned (.tuple #[.agg #[.int .i64 x0, .int .i64 x1, .int .i64 x2, .int .i64 x3], .agg #[.int .i64 y0, .int .i64 y1, .int .i64 y2, .int .i64 y3], .bool (clockB xs && clockB ys)]) ∧
      Clk xs x0 x1 x2 x3 ∧ Clk ys y0 y1 y2 y3 ∧ Below w.heap.size w w' := by
  have Hfin : ∀ u v : Bool, clockB xs = u → clockB ys = v → Hid (clockB xs = u) ∧ Hid (clockB ys = v) := fun _ _ h k => ⟨h, k⟩
  cases hX : clockB xs <;> cases hY : clockB ys
  all_goals
    obtain ⟨HX, HY⟩ := Hfin _ _ hX hY
    clear hX hY Hfin
    go_enter Tryd.func62, Tryd.ntmps62
    go_wp2_with fail
    refine (clockOf_c (ha.below (((Below.refl _ _).alloc (Nat.le_refl _) _).alloc (by simp) _))).mono ?_
    rintro e w1 ⟨x0, x1, x2, x3, rfl, hx, hb1⟩
    rw [HX.out]
    have hb1' : Below w.heap.size w w1 := (((Below.refl _ _).alloc (Nat.le_refl _) _).alloc (by simp) _).trans (hb1.mono (by simp; omega))
    have hz1 : w.heap.size + 2 ≤ w1.heap.size := by have := hb1.size; simp at this; omega
    have k4 : Blk w1 w.heap.size 81 #[.int .i64 0, .int .i64 0, .int .i64 0, .int .i64 0] := ((Blk.new w _ _).alloc _).below hb1 (by simp; omega)
    have k5 : Blk w1 (w.heap.size + 1) 81 #[.int .i64 0, .int .i64 0, .int .i64 0, .int .i64 0] := by
      have := (Blk.new (w.alloc (.cells #[.int .i64 0, .int .i64 0, .int .i64 0, .int .i64 0] 81)) 81 #[.int .i64 0, .int .i64 0, .int .i64 0, .int .i64 0]).below hb1 (by simp)
      simpa using this
    have K4 := hide k4; have K5 := hide k5; clear k4 k5
    go_wp2_with fail
    refine (clockOf_c ((hb.below hb1').below ((Below.refl _ _).alloc (Nat.le_refl _) _))).mono ?_
    rintro e w2 ⟨y0, y1, y2, y3, rfl, hy, hb2⟩
    rw [HY.out]
    have hz2 : w1.heap.size + 1 ≤ w2.heap.size := by have := hb2.size; simp at this; omega
    have q4 := ((K4.out.alloc _).below hb2 (by simp; omega)).alloc (.cells #[.int .i64 y0, .int .i64 y1, .int .i64 y2, .int .i64 y3] 81)
    have q5 := ((K5.out.alloc _).below hb2 (by simp; omega)).alloc (.cells #[.int .i64 y0, .int .i64 y1, .int .i64 y2, .int .i64 y3] 81)
    have Q4 := hide q4; have Q5 := hide q5; clear q4 q5
    obtain ⟨⟨d0, d1, d2, d3⟩, _⟩ := (((Blk.new w1 81 #[.int .i64 x0, .int .i64 x1, .int .i64 x2, .int .i64 x3]).below hb2 (by simp)).alloc (.cells #[.int .i64 y0, .int .i64 y1, .int .i64 y2, .int .i64 y3] 81)).four
    go_upto_region 3 with fail
    go_cut [6] (fun s6 wx => s6 = .bool (clockB xs && clockB ys) ∧ Blk wx w.heap.size 81 #[.int .i64 x0, .int .i64 x1, .int .i64 x2, .int .i64 x3] ∧ Blk wx (w.heap.size + 1) 81 #[.int .i64 y0, .int .i64 y1, .int .i64 y2, .int .i64 y3] ∧ Below w.heap.size w wx)
    case first =>
      obtain ⟨⟨a0, a1, a2, a3⟩, f0, f1, f2, f3⟩ := Q4.out.four
      obtain ⟨⟨b0, b1, b2, b3⟩, g0, g1, g2, g3⟩ := Q5.out.four
      go_region
      all_goals
        go_wp2_with fail
        go_meet
        refine ⟨by rw [HX.out, HY.out]; rfl, ?_, ?_, ?_⟩
        · exact ((Q4.out.set4 _ _ _ _).far4 (by omega) _ _ _ _).drew
        · exact ((Q5.out.far4 (by omega) _ _ _ _).set4 _ _ _ _).drew
        · exact (below_set4 (below_set4 (((hb1'.alloc (by omega) _).trans (hb2.mono (by simp; omega))).alloc (by omega) _) (Nat.le_refl _) _ _ _ _) (by omega) _ _ _ _).drew
    case rest =>
      obtain ⟨rfl, k4, k5, hbel⟩ := hcut
      obtain ⟨⟨a0, a1, a2, a3⟩, _⟩ := k4.four
      obtain ⟨⟨b0, b1, b2, b3⟩, _⟩ := k5.four
      go_wp2_with fail
      exact bodyPost_ret (v := .tuple #[.agg #[.int .i64 x0, .int .i64 x1, .int .i64 x2, .int .i64 x3], .agg #[.int .i64 y0, .int .i64 y1, .int .i64 y2, .int .i64 y3], .bool (clockB xs && clockB ys)]) (by simp [results, Tryd.results62, go_sem, a0, a1, a2, a3, b0, b1, b2, b3]) rfl ⟨x0, x1, x2, x3, y0, y1, y2, y3, by rw [HX.out, HY.out], hx, hy, hbel⟩

end Go.Proofs.YtopjdidigfdhbaaDoor
