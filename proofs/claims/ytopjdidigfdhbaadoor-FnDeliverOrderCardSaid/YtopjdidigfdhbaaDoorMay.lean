/- MayDeliver, both. Printed by mk_may.py. -/
import Derived.Test.YtopjdidigfdhbaaDoorClockB
import Derived.Test.YtopjdidigfdhbaaDoorLib2
namespace Go.Proofs.YtopjdidigfdhbaaDoor
open Go.RowKit

/-- The count at place k is right: the sender's is the next one, any other one is known. -/
def okAt (k : Nat) (f c s : Int) : Bool := if (k : Int) = f then decide (c = s + 1) else decide (c ≤ s)
def mayAll (f : Int) (ys xs : List Int) : Bool := (List.range 4).all fun k => okAt k f (ys.getD k 0) (xs.getD k 0)
def mayB (xs : List Int) (f : Int) (ys : List Int) : Bool := clockB xs && (clockB ys && (inB f 0 3 && mayAll f ys xs))
def MayTo (f : Int) (ys xs : List Int) (k : Nat) : Prop := ∀ j, j < k → okAt j f (ys.getD j 0) (xs.getD j 0) = true
theorem MayTo.zero {f : Int} {ys xs : List Int} : MayTo f ys xs 0 := fun j h => absurd h (by omega)
theorem MayTo.step {f : Int} {ys xs : List Int} {k : Nat} (h : MayTo f ys xs k) {x y : Int} (hx : xs[k]? = some x) (hy : ys[k]? = some y) (ho : okAt k f y x = true) : MayTo f ys xs (k + 1) := fun j hj => by
  by_cases e : j = k
  · subst e; rw [List.getD_eq_getElem?_getD, List.getD_eq_getElem?_getD, hx, hy]; exact ho
  · exact h j (by omega)
theorem MayTo.all {f : Int} {ys xs : List Int} (h : MayTo f ys xs 4) : mayAll f ys xs = true := by
  unfold mayAll; rw [List.all_eq_true]; intro k hk; exact h k (List.mem_range.1 hk)
theorem may_bad {f : Int} {ys xs : List Int} {k : Nat} (hk : k < 4) {x y : Int} (hx : xs[k]? = some x) (hy : ys[k]? = some y) (ho : okAt k f y x = false) : mayAll f ys xs = false := by
  rw [← Bool.not_eq_true]; unfold mayAll; rw [List.all_eq_true]; intro h
  have := h k (List.mem_range.2 hk)
  rw [List.getD_eq_getElem?_getD, List.getD_eq_getElem?_getD, hx, hy] at this
  rw [show okAt k f (Option.getD (some y) 0) (Option.getD (some x) 0) = okAt k f y x from rfl, ho] at this
  cases this
set_option maxHeartbeats 400000 in
theorem placeOk_m {n : Int} {w : World} : Calls Tryd.prog 41 #[.int .i64 n] w fun e w' => e = .returned (.bool (inB n 0 3)) ∧ w = w' := by
  go_enter Tryd.func41, Tryd.ntmps41
  go_wp2_with (go_at_call 45; refine (within_c).mono ?_; rintro e w' ⟨rfl, rfl⟩)
  go_ret
  exact ⟨rfl, rfl⟩
theorem clock_at {xs : List Int} (h : clockB xs = true) {k : Nat} {x : Int} (hx : xs[k]? = some x) : 0 ≤ x ∧ x ≤ 1000 := (inB_iff _ _ _).1 (((clockB_iff _).1 h).2 x (List.mem_of_getElem? hx))

set_option maxRecDepth 100000 in
set_option maxHeartbeats 16000000 in
theorem spec_MayDeliver_c {u v : Value} {n m : Nat} {xs ys : List Int} {f : Int} {w : World} (hu : SI w u n xs) (hv : SI w v m ys) :
    Calls Tryd.prog 61 #[u, .agg #[.int .i64 f, v]] w fun e w' => e = .returned (.bool (mayB xs f ys)) ∧ Below w.heap.size w w' := by
  have su := hu; have sv := hv
  obtain ⟨A, c, rfl, _, hn, ha⟩ := hu
  obtain ⟨B, d, rfl, _, hm, hb⟩ := hv
  have hla := hide ha.len
  have hlb := hide hb.len
  have b1 : Below w.heap.size w (w.alloc (.cells #[.int .i64 f, .slice B m d] 55)) := (Below.refl _ _).alloc (Nat.le_refl _) _
  have K0 := Blk.new w 55 #[.int .i64 f, .slice B m d]
  have q1 : ∀ o, (w.alloc (.cells #[.int .i64 f, .slice B m d] 55)).cell? o = (w.alloc (.cells #[.int .i64 f, .slice B m d] 55)).cell? o := fun _ => rfl
  clear q1
  cases hX : clockB xs
  · have hf : mayB xs f ys = false := by simp [mayB, hX]
    have F := hide hf; have X := hide hX; clear hf hX
    go_enter Tryd.func61, Tryd.ntmps61
    go_wp2_with fail
    refine (spec_ClockValid_c (su.alloc _)).mono ?_
    rintro e w' ⟨rfl, rfl⟩
    rw [X.out]
    go_wp2_with fail
    go_ret
    exact ⟨by rw [F.out]; rfl, b1⟩
  · cases hY : clockB ys
    · have hf : mayB xs f ys = false := by simp [mayB, hY]
      have F := hide hf; have X := hide hX; have Y := hide hY; clear hf hX hY
      go_enter Tryd.func61, Tryd.ntmps61
      go_wp2_with fail
      refine (spec_ClockValid_c (su.alloc _)).mono ?_
      rintro e w' ⟨rfl, rfl⟩
      rw [X.out]
      go_wp2_with fail
      refine (spec_ClockValid_c (sv.alloc _)).mono ?_
      rintro e w' ⟨rfl, rfl⟩
      rw [Y.out]
      go_wp2_with fail
      go_ret
      exact ⟨by rw [F.out]; rfl, b1⟩
    · cases hF : inB f 0 3
      · have hf : mayB xs f ys = false := by simp [mayB, hF]
        have F := hide hf; have X := hide hX; have Y := hide hY; have Z := hide hF; clear hf hX hY hF
        go_enter Tryd.func61, Tryd.ntmps61
        go_wp2_with fail
        refine (spec_ClockValid_c (su.alloc _)).mono ?_
        rintro e w' ⟨rfl, rfl⟩
        rw [X.out]
        go_wp2_with fail
        refine (spec_ClockValid_c (sv.alloc _)).mono ?_
        rintro e w' ⟨rfl, rfl⟩
        rw [Y.out]
        go_wp2_with (go_at_call 46; refine (l1In_c).mono ?_; rintro e w' ⟨rfl, rfl⟩; rw [Z.out])
        go_ret
        exact ⟨by rw [F.out]; rfl, b1⟩
      · obtain rfl : n = 4 := by rw [← hla.out]; exact ((clockB_iff _).1 hX).1
        obtain rfl : m = 4 := by rw [← hlb.out]; exact ((clockB_iff _).1 hY).1
        have hf : mayB xs f ys = mayAll f ys xs := by simp [mayB, hX, hY, hF]
        have F := hide hf; have X := hide hX; have Y := hide hY; have Z := hide hF; clear hf hX hY hF
        go_enter Tryd.func61, Tryd.ntmps61
        go_wp2_with fail
        refine (spec_ClockValid_c (su.alloc _)).mono ?_
        rintro e w' ⟨rfl, rfl⟩
        rw [X.out]
        go_wp2_with fail
        refine (spec_ClockValid_c (sv.alloc _)).mono ?_
        rintro e w' ⟨rfl, rfl⟩
        rw [Y.out]
        go_wp2_with (go_at_call 46; refine (l1In_c).mono ?_; rintro e w' ⟨rfl, rfl⟩; rw [Z.out])
        go_loopw [5] (fun i wr => ∃ k : Nat, k ≤ 4 ∧ i = .int .i64 k ∧ MayTo f ys xs k ∧ Blk wr w.heap.size 55 #[.int .i64 f, .slice B 4 d] ∧ Below w.heap.size w wr) (fun i _ => 4 - (intOf i).toNat)
        case atStart => exact ⟨0, Nat.zero_le _, rfl, MayTo.zero, K0, b1⟩
        case round =>
          obtain ⟨k, hk, rfl, hle, KR, hbel⟩ := hrel
          have Hle := hide hle; clear hle
          by_cases hlt : k < 4
          · obtain ⟨ba, oa, x, rfl, hba, hx, hc1⟩ := ha.at_ hlt
            obtain ⟨bb, ob, y, rfl, hbb, hy, hc2⟩ := hb.at_ hlt
            obtain ⟨xb0, xb1⟩ := clock_at X.out hx
            obtain ⟨yb0, yb1⟩ := clock_at Y.out hy
            have Hx := hide hx; have Hy := hide hy; clear hx hy
            have e1 : wr.cell? ⟨ba, oa + k, none⟩ = some (.int .i64 x) := (hbel.cell hba).trans hc1
            have e2 : wr.cell? ⟨bb, ob + k, none⟩ = some (.int .i64 y) := (hbel.cell hbb).trans hc2
            obtain ⟨g0, g1, _, _⟩ := KR.two
            have KR' := hide KR; clear hc1 hc2 KR
            have k0 : (0 : Int) ≤ k := by omega
            have k4 : (k : Int) < 4 := by omega
            have wr1 : IntKind.i64.wrap (x + 1) = x + 1 := by rw [IntKind.wrap_i64]; omega
            by_cases hkf : (k : Int) = f
            · by_cases hy1 : y = x + 1
              · have hok : okAt k f y x = true := by simp [okAt, hkf, hy1]
                have Ok := hide hok; clear hok
                subst hkf; subst hy1
                go_wp2
                go_quiet (fail)
                go_wp2
                go_roundw
                case rel => exact ⟨k + 1, by omega, by go_num, Hle.out.step Hx.out Hy.out Ok.out, KR'.out.drewN _, below_drewN hbel _⟩
                case measure => simp [intOf]; omega
              · have hok : okAt k f y x = false := by simp [okAt, hkf, hy1]
                have Ok := hide hok; clear hok
                have hy2 : (y != x + 1) = true := by simpa using hy1
                have hy3 : (y == x + 1) = false := by simpa using hy1
                clear hy1
                subst hkf
                go_wp2
                go_quiet (fail)
                go_wp2
                go_ret
                exact ⟨by rw [F.out, may_bad hlt Hx.out Hy.out Ok.out]; rfl, below_drewN hbel _⟩
            · have hk2 : ((k : Int) == f) = false := by simpa using hkf
              have hk3 : ((k : Int) != f) = true := by simpa using hkf
              by_cases hy1 : x < y
              · have hok : okAt k f y x = false := by simp [okAt, hkf]; omega
                have Ok := hide hok; clear hok hkf
                go_wp2
                go_quiet (fail)
                go_wp2
                go_ret
                exact ⟨by rw [F.out, may_bad hlt Hx.out Hy.out Ok.out]; rfl, below_drewN hbel _⟩
              · have hok : okAt k f y x = true := by simp [okAt, hkf]; omega
                have Ok := hide hok; clear hok hkf
                go_wp2
                go_quiet (fail)
                go_wp2
                go_roundw
                case rel => exact ⟨k + 1, by omega, by go_num, Hle.out.step Hx.out Hy.out Ok.out, KR'.out.drewN _, below_drewN hbel _⟩
                case measure => simp [intOf]; omega
          · go_wp2
            go_ret
            obtain rfl : k = 4 := by omega
            exact ⟨by rw [F.out, Hle.out.all]; rfl, hbel⟩

set_option maxRecDepth 100000 in
set_option maxHeartbeats 16000000 in
theorem impl_MayDeliver_c {u v : Value} {n m : Nat} {xs ys : List Int} {f : Int} {w : World} (hu : SI w u n xs) (hv : SI w v m ys) :
    Calls Tryd.prog 60 #[u, .agg #[.int .i64 f, v]] w fun e w' => e = .returned (.bool (mayB xs f ys)) ∧ Below w.heap.size w w' := by
  obtain ⟨A, c, rfl⟩ := hu.shape
  obtain ⟨B, d, rfl⟩ := hv.shape
  have b1 : Below w.heap.size w (w.alloc (.cells #[.int .i64 f, .slice B m d] 55)) := (Below.refl _ _).alloc (Nat.le_refl _) _
  have K0 := Blk.new w 55 #[.int .i64 f, .slice B m d]
  obtain ⟨ok, hok⟩ : ∃ ok, (clockB xs && clockB ys) = ok := ⟨_, rfl⟩
  obtain ⟨fo, hfo⟩ : ∃ fo, inB f 0 3 = fo := ⟨_, rfl⟩
  have hm0 : ok = false → mayB xs f ys = false := fun h => by rw [h] at hok; unfold mayB; rw [← Bool.and_assoc, hok]; rfl
  have hm1 : fo = false → mayB xs f ys = false := fun h => by rw [h] at hfo; simp [mayB, hfo]
  have Ok := hide hok; have Fo := hide hfo; have M0 := hide hm0; have M1 := hide hm1; clear hok hfo hm0 hm1
  go_enter Tryd.func60, Tryd.ntmps60
  go_wp2_with fail
  refine (clocksOf_c (hu.alloc _) (hv.alloc _)).mono ?_
  rintro e w1 ⟨x0, x1, x2, x3, y0, y1, y2, y3, rfl, hx, hy, hb1⟩
  rw [Ok.out]
  have B1 := below_step b1 hb1
  replace K0 := K0.belowAll hb1
  have hz1 := B1.size
  have l0 := K0.lt
  have K5 := (Blk.new w1 81 #[.int .i64 x0, .int .i64 x1, .int .i64 x2, .int .i64 x3]).alloc (.cells #[.int .i64 y0, .int .i64 y1, .int .i64 y2, .int .i64 y3] 81)
  have K6 := Blk.new (w1.alloc (.cells #[.int .i64 x0, .int .i64 x1, .int .i64 x2, .int .i64 x3] 81)) 81 #[.int .i64 y0, .int .i64 y1, .int .i64 y2, .int .i64 y3]
  have K3 := (K0.alloc (.cells #[.int .i64 x0, .int .i64 x1, .int .i64 x2, .int .i64 x3] 81)).alloc (.cells #[.int .i64 y0, .int .i64 y1, .int .i64 y2, .int .i64 y3] 81)
  simp only [World.size_alloc] at K6
  have B3 := (B1.alloc hz1 (.cells #[.int .i64 x0, .int .i64 x1, .int .i64 x2, .int .i64 x3] 81)).alloc (by simp; omega) (.cells #[.int .i64 y0, .int .i64 y1, .int .i64 y2, .int .i64 y3] 81)
  have HX := hide hx; have HY := hide hy; clear hx hy
  obtain ⟨g0, g1, _, _⟩ := K3.two
  cases ok
  · have F := hide (M0.out rfl)
    go_wp2_with fail
    go_ret
    exact ⟨by rw [F.out]; rfl, B3⟩
  · cases fo
    · have F := hide (M1.out rfl)
      go_wp2_with (go_at_call 41; refine (placeOk_m).mono ?_; rintro e w' ⟨rfl, rfl⟩; rw [Fo.out])
      go_ret
      exact ⟨by rw [F.out]; rfl, B3⟩
    · have hXY : clockB xs = true ∧ clockB ys = true := by have := Ok.out; simpa using this
      have hxs : xs = [x0, x1, x2, x3] := by have := HX.out; unfold Clk at this; rw [if_pos hXY.1] at this; exact this.symm
      have hys : ys = [y0, y1, y2, y3] := by have := HY.out; unfold Clk at this; rw [if_pos hXY.2] at this; exact this.symm
      have hf : mayB xs f ys = mayAll f ys xs := by simp [mayB, hXY.1, hXY.2, Fo.out]
      have F := hide hf; have X := hide hXY.1; have Y := hide hXY.2; have HXS := hide hxs; have HYS := hide hys; clear hf hXY hxs hys
      go_wp2_with (go_at_call 41; refine (placeOk_m).mono ?_; rintro e w' ⟨rfl, rfl⟩; rw [Fo.out])
      clear g0 g1
      go_loopw [25] (fun i wr => ∃ k : Nat, k ≤ 4 ∧ i = .int .i64 k ∧ MayTo f ys xs k ∧ Blk wr w.heap.size 55 #[.int .i64 f, .slice B m d] ∧ Blk wr w1.heap.size 81 #[.int .i64 x0, .int .i64 x1, .int .i64 x2, .int .i64 x3] ∧ Blk wr (w1.heap.size + 1) 81 #[.int .i64 y0, .int .i64 y1, .int .i64 y2, .int .i64 y3] ∧ Below w.heap.size w wr) (fun i _ => 4 - (intOf i).toNat)
      case atStart => exact ⟨0, Nat.zero_le _, rfl, MayTo.zero, K3, K5, K6, B3⟩
      case round =>
        obtain ⟨k, hk, rfl, hle, KR, KA, KB, hbel⟩ := hrel
        have Hle := hide hle; clear hle
        by_cases hlt : k < 4
        · obtain ⟨x, hx⟩ : ∃ x, xs[k]? = some x := ⟨xs[k]'(by rw [HXS.out]; exact hlt), List.getElem?_eq_getElem _⟩
          obtain ⟨y, hy⟩ : ∃ y, ys[k]? = some y := ⟨ys[k]'(by rw [HYS.out]; exact hlt), List.getElem?_eq_getElem _⟩
          obtain ⟨xb0, xb1⟩ := clock_at X.out hx
          obtain ⟨yb0, yb1⟩ := clock_at Y.out hy
          have e1 : wr.cell? ⟨w1.heap.size, k, none⟩ = some (.int .i64 x) := by rw [KA.cell]; rw [HXS.out] at hx; match k, hlt with | 0, _ | 1, _ | 2, _ | 3, _ => simp at hx ⊢; exact hx
          have e2 : wr.cell? ⟨w1.heap.size + 1, k, none⟩ = some (.int .i64 y) := by rw [KB.cell]; rw [HYS.out] at hy; match k, hlt with | 0, _ | 1, _ | 2, _ | 3, _ => simp at hy ⊢; exact hy
          have Hx := hide hx; have Hy := hide hy; clear hx hy
          obtain ⟨g0, g1, _, _⟩ := KR.two
          have KR' := hide KR; have KA' := hide KA; have KB' := hide KB; clear KR KA KB
          have k0 : (0 : Int) ≤ k := by omega
          have k4 : (k : Int) < 4 := by omega
          have wr1 : IntKind.i64.wrap (x + 1) = x + 1 := by rw [IntKind.wrap_i64]; omega
          by_cases hkf : (k : Int) = f
          · by_cases hy1 : y = x + 1
            · have hok : okAt k f y x = true := by simp [okAt, hkf, hy1]
              have Ok := hide hok; clear hok
              subst hkf; subst hy1
              go_wp2
              go_quiet (fail)
              go_wp2
              go_roundw
              case rel => exact ⟨k + 1, by omega, by go_num, Hle.out.step Hx.out Hy.out Ok.out, KR'.out.drewN _, KA'.out.drewN _, KB'.out.drewN _, below_drewN hbel _⟩
              case measure => simp [intOf]; omega
            · have hok : okAt k f y x = false := by simp [okAt, hkf, hy1]
              have Ok := hide hok; clear hok
              have hy2 : (y != x + 1) = true := by simpa using hy1
              have hy3 : (y == x + 1) = false := by simpa using hy1
              clear hy1
              subst hkf
              go_wp2
              go_quiet (fail)
              go_wp2
              go_ret
              exact ⟨by rw [F.out, may_bad hlt Hx.out Hy.out Ok.out]; rfl, below_drewN hbel _⟩
          · have hk2 : ((k : Int) == f) = false := by simpa using hkf
            have hk3 : ((k : Int) != f) = true := by simpa using hkf
            by_cases hy1 : x < y
            · have hok : okAt k f y x = false := by simp [okAt, hkf]; omega
              have Ok := hide hok; clear hok hkf
              go_wp2
              go_quiet (fail)
              go_wp2
              go_ret
              exact ⟨by rw [F.out, may_bad hlt Hx.out Hy.out Ok.out]; rfl, below_drewN hbel _⟩
            · have hok : okAt k f y x = true := by simp [okAt, hkf]; omega
              have Ok := hide hok; clear hok hkf
              go_wp2
              go_quiet (fail)
              go_wp2
              go_roundw
              case rel => exact ⟨k + 1, by omega, by go_num, Hle.out.step Hx.out Hy.out Ok.out, KR'.out.drewN _, KA'.out.drewN _, KB'.out.drewN _, below_drewN hbel _⟩
              case measure => simp [intOf]; omega
        · go_wp2
          go_ret
          obtain rfl : k = 4 := by omega
          exact ⟨by rw [F.out, Hle.out.all]; rfl, hbel⟩

end Go.Proofs.YtopjdidigfdhbaaDoor
