/- Contracts of the clocks: ClockJoin of both. -/
import Derived.Test.YtopjdidigfdhbaaDoorClockJ
namespace Go.Proofs.YtopjdidigfdhbaaDoor
open Go.RowKit

/-- The greater counts. -/
def maxL : List Int → List Int → List Int
  | x :: xs, y :: ys => (if x < y then y else x) :: maxL xs ys
  | _, _ => []
def joinL (xs ys : List Int) : List Int := if clockB xs && clockB ys then maxL xs ys else []
theorem maxL_snoc {xs ys : List Int} : ∀ {k : Nat} {x y : Int}, xs[k]? = some x → ys[k]? = some y → maxL (xs.take (k + 1)) (ys.take (k + 1)) = maxL (xs.take k) (ys.take k) ++ [if x < y then y else x] := by
  induction xs generalizing ys with
  | nil => intro k x y hx; simp at hx
  | cons a xs ih =>
    intro k x y hx hy
    cases ys with
    | nil => simp at hy
    | cons b ys =>
      cases k with
      | zero => simp at hx hy; subst hx; subst hy; simp [maxL]
      | succ k =>
        simp only [List.take_succ_cons, maxL, List.cons_append]
        rw [ih (by simpa using hx) (by simpa using hy)]
theorem maxL_len : ∀ (xs ys : List Int), (maxL xs ys).length = min xs.length ys.length
  | [], ys => by simp [maxL]
  | x :: xs, [] => by simp [maxL]
  | x :: xs, y :: ys => by simp [maxL, maxL_len xs ys]

set_option maxHeartbeats 1000000 in
theorem spec_ClockJoin_c {u v : Value} {n m : Nat} {xs ys : List Int} {w : World} (hu : SI w u n xs) (hv : SI w v m ys) :
    Calls Tryd.prog 53 #[u, v] w (RetI w (joinL xs ys)) := by
  have su := hu; have sv := hv
  have hA1 : Below w.heap.size w (w.alloc (.cells #[] 3)) := (Below.refl _ _).alloc (Nat.le_refl _) _
  have su1 := su.below hA1; have sv1 := sv.below hA1
  cases hX : clockB xs
  · have hf : joinL xs ys = [] := by simp [joinL, hX]
    have F := hide hf; have HX := hide hX; clear hf hX
    obtain ⟨A, c, rfl, _, hn, ha⟩ := hu
    go_enter Tryd.func53, Tryd.ntmps53
    go_wp2_with fail
    refine wp_loop_rounds 1 ?_; rw [rounds_succ]
    go_wp2_with (go_at_call 59; refine (spec_ClockValid_c su1).mono ?_; rintro e w' ⟨rfl, rfl⟩; rw [HX.out])
    go_ret
    exact ⟨_, 0, rfl, by rw [F.out]; exact OI.empty w, hA1⟩
  · cases hY : clockB ys
    · have hf : joinL xs ys = [] := by simp [joinL, hY]
      have F := hide hf; have HX := hide hX; have HY := hide hY; clear hf hX hY
      obtain ⟨A, c, rfl, _, hn, ha⟩ := hu
      go_enter Tryd.func53, Tryd.ntmps53
      go_wp2_with fail
      refine wp_loop_rounds 1 ?_; rw [rounds_succ]
      go_wp2_with fail
      refine (spec_ClockValid_c su1).mono ?_
      rintro e w' ⟨rfl, rfl⟩
      rw [HX.out]
      go_wp2_with fail
      refine (spec_ClockValid_c sv1).mono ?_
      rintro e w' ⟨rfl, rfl⟩
      rw [HY.out]
      go_wp2_with fail
      go_ret
      exact ⟨_, 0, rfl, by rw [F.out]; exact OI.empty w, hA1⟩
    · have hf : joinL xs ys = maxL xs ys := by simp [joinL, hX, hY]
      obtain rfl : n = 4 := by rw [← hu.len]; exact ((clockB_iff _).1 hX).1
      obtain rfl : m = 4 := by rw [← hv.len]; exact ((clockB_iff _).1 hY).1
      have F := hide hf; have HX := hide hX; have HY := hide hY; clear hf hX hY su1 sv1
      obtain ⟨A, c, rfl, hnc, hn, ha⟩ := hu
      obtain ⟨B, d, rfl, hmd, hm, hb⟩ := hv
      have hla := hide ha.len; have hlb := hide hb.len
      go_enter Tryd.func53, Tryd.ntmps53
      go_wp2_with fail
      go_loopw [5, 6] (fun s5 i wr => ∃ k : Nat, k ≤ 4 ∧ i = .int .i64 k ∧ OI wr w.heap.size s5 k (maxL (xs.take k) (ys.take k)) ∧ Below w.heap.size w wr) (fun _ i _ => 4 - (intOf i).toNat)
      case atStart => exact ⟨0, Nat.zero_le _, rfl, OI.empty w, hA1⟩
      case round =>
        obtain ⟨k, hk, rfl, ho, hbel⟩ := hrel
        by_cases hlt : k < 4
        · obtain ⟨b1, o1, x, rfl, hb1, hx, hc1⟩ := ha.at_ hlt
          obtain ⟨b2, o2, y, rfl, hb2, hy, hc2⟩ := hb.at_ hlt
          have Hx := hide hx; clear hx
          have Hy := hide hy; clear hy
          have hd1 : wr.cell? ⟨b1, o1 + k, none⟩ = some (.int .i64 x) := (hbel.cell hb1).trans hc1
          have hd2 : wr.cell? ⟨b2, o2 + k, none⟩ = some (.int .i64 y) := (hbel.cell hb2).trans hc2
          clear hc1 hc2
          go_wp2_with fail
          refine (spec_ClockValid_c (su.below hbel)).mono ?_
          rintro e w' ⟨rfl, rfl⟩
          rw [HX.out]
          go_wp2_with fail
          refine (spec_ClockValid_c (sv.below hbel)).mono ?_
          rintro e w' ⟨rfl, rfl⟩
          rw [HY.out]
          go_wp2_with fail
          have hfar1 := ho.far hb1
          have hfar2 := ho.far hb2
          have hz := hbel.size
          have hq1 : ∀ o, (wr.alloc o).cell? ⟨b1, o1 + k, none⟩ = some (.int .i64 x) := fun o => (World.cell?_alloc_lt wr o ⟨b1, o1 + k, none⟩ (show b1 < _ by omega)).trans hd1
          have hq2 : ∀ o, (wr.alloc o).cell? ⟨b2, o2 + k, none⟩ = some (.int .i64 y) := fun o => (World.cell?_alloc_lt wr o ⟨b2, o2 + k, none⟩ (show b2 < _ by omega)).trans hd2
          have S1 := fun x => (SI.one wr.drew x 1 (Nat.le_refl _))
          go_region_held3 (fun w' => w'.cell? ⟨b1, o1 + k, none⟩ = some (.int .i64 x) ∧ w'.cell? ⟨b2, o2 + k, none⟩ = some (.int .i64 y))
            (first | go_keep | exact ⟨hgrow.cell (hq1 _) hfar1, hgrow.cell (hq2 _) hfar2⟩)
            ((refine step_appI (by rfl) _ _ (by rfl) (by rfl) ((ho.drew).alloc _) (by rfl) (S1 _) (by omega) (by simp; omega) ?_; intro v1 w1 hown1 hgrow hat))
          go_wp2
          go_roundw
          case rel =>
            refine ⟨k + 1, by omega, by go_num, by rw [maxL_snoc Hx.out Hy.out]; exact hown1, ?_⟩
            exact below_app (hbel.drew.alloc hz _) (ho.drew.alloc _) (Nat.le_refl _) hgrow
          case measure => simp [intOf]; omega
        · go_wp2_with fail
          go_ret
          obtain rfl : k = 4 := by omega
          rw [List.take_of_length_le (by rw [hla.out]; omega), List.take_of_length_le (by rw [hlb.out]; omega)] at ho
          exact ⟨_, 4, rfl, by rw [F.out]; exact ho, hbel⟩

theorem join_four (x0 x1 x2 x3 y0 y1 y2 y3 : Int) : maxL [x0, x1, x2, x3] [y0, y1, y2, y3] = [if x0 < y0 then y0 else x0, if x1 < y1 then y1 else x1, if x2 < y2 then y2 else x2, if x3 < y3 then y3 else x3] := rfl

set_option maxHeartbeats 2000000 in
theorem join_c {x0 x1 x2 x3 y0 y1 y2 y3 : Int} {w : World} :
    Calls Tryd.prog 71 #[.agg #[.int .i64 x0, .int .i64 x1, .int .i64 x2, .int .i64 x3], .agg #[.int .i64 y0, .int .i64 y1, .int .i64 y2, .int .i64 y3]] w fun e w' =>
      ∃ z0 z1 z2 z3 : Int, e = .returned (.agg #[.int .i64 z0, .int .i64 z1, .int .i64 z2, .int .i64 z3]) ∧ [z0, z1, z2, z3] = maxL [x0, x1, x2, x3] [y0, y1, y2, y3] ∧ Below w.heap.size w w' := by
  obtain ⟨z0, hz0⟩ : ∃ z, z = (if x0 < y0 then y0 else x0) := ⟨_, rfl⟩
  obtain ⟨z1, hz1⟩ : ∃ z, z = (if x1 < y1 then y1 else x1) := ⟨_, rfl⟩
  obtain ⟨z2, hz2⟩ : ∃ z, z = (if x2 < y2 then y2 else x2) := ⟨_, rfl⟩
  obtain ⟨z3, hz3⟩ : ∃ z, z = (if x3 < y3 then y3 else x3) := ⟨_, rfl⟩
  have hfin : [z0, z1, z2, z3] = maxL [x0, x1, x2, x3] [y0, y1, y2, y3] := by rw [hz0, hz1, hz2, hz3]; rfl
  have Hfin := hide hfin; have Z0 := hide hz0; have Z1 := hide hz1; have Z2 := hide hz2; have Z3 := hide hz3
  clear hfin hz0 hz1 hz2 hz3
  go_enter Tryd.func71, Tryd.ntmps71
  go_wp2_with fail
  refine wp_loop_rounds 5 ?_
  rw [rounds_succ]
  go_wp2_with fail
  go_region
  rw [← Z0.out]
  go_wp2_with fail
  rw [rounds_succ]
  go_wp2_with fail
  go_region
  rw [← Z1.out]
  go_wp2_with fail
  rw [rounds_succ]
  go_wp2_with fail
  go_region
  rw [← Z2.out]
  go_wp2_with fail
  rw [rounds_succ]
  go_wp2_with fail
  go_region
  rw [← Z3.out]
  go_wp2_with fail
  rw [rounds_succ]
  go_wp2_with fail
  exact bodyPost_ret (v := .agg #[.int .i64 z0, .int .i64 z1, .int .i64 z2, .int .i64 z3]) (by simp [results, Tryd.results71, go_sem]) rfl ⟨z0, z1, z2, z3, rfl, Hfin.out, (((((((Below.refl _ _).alloc (Nat.le_refl _) _).alloc (by simp) _).alloc (by simp; omega) _).drew).drew).drew).drew⟩

set_option maxHeartbeats 2000000 in
theorem impl_ClockJoin_c {u v : Value} {n m : Nat} {xs ys : List Int} {w : World} (hu : SI w u n xs) (hv : SI w v m ys) :
    Calls Tryd.prog 50 #[u, v] w (RetI w (joinL xs ys)) := by
  cases hok : (clockB xs && clockB ys)
  · have hf : joinL xs ys = [] := by simp [joinL, hok]
    have F := hide hf; have Hok := hide hok; clear hf hok
    go_enter Tryd.func50, Tryd.ntmps50
    go_wp2_with fail
    refine (clocksOf_c hu hv).mono ?_
    rintro e w1 ⟨x0, x1, x2, x3, y0, y1, y2, y3, rfl, _, _, hb1⟩
    rw [Hok.out]
    go_wp2_with fail
    go_ret
    exact ⟨_, 0, rfl, by rw [F.out]; exact OI.nil, (hb1.alloc hb1.size _).alloc (by have := hb1.size; simp; omega) _⟩
  · have hf : joinL xs ys = maxL xs ys := by simp [joinL, hok]
    have hX : clockB xs = true := by revert hok; cases clockB xs <;> simp
    have hY : clockB ys = true := by revert hok; cases clockB ys <;> simp
    have F := hide hf; have Hok := hide hok; have HX := hide hX; have HY := hide hY; clear hf hok hX hY
    go_enter Tryd.func50, Tryd.ntmps50
    go_wp2_with fail
    refine (clocksOf_c hu hv).mono ?_
    rintro e w1 ⟨x0, x1, x2, x3, y0, y1, y2, y3, rfl, hx, hy, hb1⟩
    rw [Hok.out]
    have ex := hx.of HX.out; have ey := hy.of HY.out
    have EX := hide ex; have EY := hide ey; clear ex ey hx hy
    go_wp2_with fail
    refine (join_c).mono ?_
    rintro e w2 ⟨z0, z1, z2, z3, rfl, hz, hb2⟩
    have Hz := hide hz; clear hz
    go_wp2_with fail
    refine (list_c).mono ?_
    rintro e w3 ⟨r, rfl, ho, hb3⟩
    go_wp2_with fail
    go_ret
    have hz1 := hb1.size
    have hz2 := hb2.size
    simp at hz2
    refine ⟨_, 4, rfl, ?_, ?_⟩
    · rw [F.out, EX.out, EY.out, ← Hz.out]; exact ho.mono (by omega)
    · exact (((hb1.alloc hz1 _).alloc (by simp; omega) _).trans (hb2.mono (by simp; omega))).trans (hb3.mono (by omega))

end Go.Proofs.YtopjdidigfdhbaaDoor
