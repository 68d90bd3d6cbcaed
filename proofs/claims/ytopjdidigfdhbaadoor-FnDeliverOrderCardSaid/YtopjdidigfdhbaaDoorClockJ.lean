/- Contracts of the clocks: Clone, list, ClockStep of both. -/
import Derived.Test.YtopjdidigfdhbaaDoorClockB
import Derived.Test.YtopjdidigfdhbaaDoorApp
namespace Go.Proofs.YtopjdidigfdhbaaDoor
open Go.RowKit

set_option maxHeartbeats 400000 in
theorem Clone_int_c {a : Addr} {n c : Nat} {xs : List Int} {w : World} (hs : SI w (.slice (some a) n c) n xs) :
    Calls Tryd.prog 81 #[.slice (some a) n c] w fun e w' => ∃ v, e = .returned v ∧ OI w' w.heap.size v n xs ∧ Below w.heap.size w w' := by
  have qT : ∀ (w : World) (a : Option Addr) (n c n' c' : Nat), (binOp .eql 38 (.slice a n c) (.slice none n' c')).run Tryd.prog w = .ok (.bool a.isNone) w := fun w a n c n' c' => Lib.run_eql_slice_nil w _ _ a n c n' c' Tryd.underlying38
  go_enter Tryd.func81, Tryd.ntmps81
  go_wp2_with (at_builtin; refine wpList_appI rfl _ _ rfl rfl (OI.empty w) rfl (hs.alloc _) (by have := hs.bd; omega) (by simp) ?_; intro v1 w1 ho hg hat)
  go_ret
  refine ⟨_, rfl, by simpa using ho, ?_⟩
  exact ((Below.refl _ _).alloc (Nat.le_refl _) _).grown hg (by simp) (fun k hk => by have h : some w.heap.size = some k := hk; injection h; omega)

set_option maxHeartbeats 400000 in
theorem list_c {x0 x1 x2 x3 : Int} {w : World} :
    Calls Tryd.prog 72 #[.agg #[.int .i64 x0, .int .i64 x1, .int .i64 x2, .int .i64 x3]] w fun e w' => ∃ v, e = .returned v ∧ OI w' w.heap.size v 4 [x0, x1, x2, x3] ∧ Below w.heap.size w w' := by
  have S : SI (w.alloc (.cells #[.int .i64 x0, .int .i64 x1, .int .i64 x2, .int .i64 x3] 81)) (.slice (some ⟨w.heap.size, 0, none⟩) 4 4) 4 [x0, x1, x2, x3] :=
    SI.of_blk (Blk.new w _ _) (get_ints (xs := [x0, x1, x2, x3])) rfl (Nat.le_refl _) (by omega)
  go_enter Tryd.func72, Tryd.ntmps72
  go_wp2_with (go_at_call 81; refine (Clone_int_c S).mono ?_; rintro e w1 ⟨v, rfl, ho, hb⟩)
  go_ret
  exact ⟨_, rfl, ho.mono (by simp), ((Below.refl _ _).alloc (Nat.le_refl _) _).trans (hb.mono (by simp))⟩

/-- What ClockStep returns: the counts, and whether one was raised. -/
def stepOk (xs : List Int) (at_ : Int) : Bool := clockB xs && inB at_ 0 3 && !decide (xs[at_.toNat]? = some 1000)
def stepL (xs : List Int) (at_ : Int) : List Int := if clockB xs then (if stepOk xs at_ then xs.set at_.toNat (xs[at_.toNat]?.getD 0 + 1) else xs) else []

theorem inB_place {n : Int} (h : inB n 0 3 = true) : n = 0 ∨ n = 1 ∨ n = 2 ∨ n = 3 := by rw [inB_iff] at h; omega


theorem Clk.of {xs : List Int} {c0 c1 c2 c3 : Int} (h : Clk xs c0 c1 c2 c3) (hv : clockB xs = true) : xs = [c0, c1, c2, c3] := by unfold Clk at h; rw [hv] at h; exact h.symm
theorem clockB_four {c0 c1 c2 c3 : Int} (h : clockB [c0, c1, c2, c3] = true) : (0 ≤ c0 ∧ c0 ≤ 1000) ∧ (0 ≤ c1 ∧ c1 ≤ 1000) ∧ (0 ≤ c2 ∧ c2 ≤ 1000) ∧ (0 ≤ c3 ∧ c3 ≤ 1000) := by
  have := ((clockB_iff _).1 h).2
  simp only [List.mem_cons, List.not_mem_nil, or_false, forall_eq_or_imp, forall_eq, inB_iff] at this
  exact this

set_option maxHeartbeats 400000 in
theorem placeOk_c {n : Int} {w : World} : Calls Tryd.prog 41 #[.int .i64 n] w fun e w' => e = .returned (.bool (inB n 0 3)) ∧ w = w' := by
  go_enter Tryd.func41, Tryd.ntmps41
  go_wp2_with (go_at_call 45; refine (within_c).mono ?_; rintro e w' ⟨rfl, rfl⟩)
  go_ret
  exact ⟨rfl, rfl⟩

set_option maxHeartbeats 2000000 in
theorem impl_ClockStep_c {v : Value} {n : Nat} {xs : List Int} {at_ : Int} {w : World} (hs : SI w v n xs) :
    Calls Tryd.prog 55 #[v, .int .i64 at_] w fun e w' => ∃ u m, e = .returned (.tuple #[u, .bool (stepOk xs at_)]) ∧ OI w' w.heap.size u m (stepL xs at_) ∧ Below w.heap.size w w' := by
  cases hX : clockB xs
  · have hf1 : stepOk xs at_ = false := by simp [stepOk, hX]
    have hf2 : stepL xs at_ = [] := by simp [stepL, hX]
    have F1 := hide hf1; have F2 := hide hf2; clear hf1 hf2
    have HX := hide hX; clear hX
    go_enter Tryd.func55, Tryd.ntmps55
    go_wp2_with fail
    refine (clockOf_c hs).mono ?_
    rintro e w1 ⟨c0, c1, c2, c3, rfl, _, hb1⟩
    rw [HX.out]
    go_wp2_with fail
    go_ret2
    exact ⟨_, 0, by rw [F1.out]; rfl, by rw [F2.out]; exact OI.nil, hb1.alloc hb1.size _⟩
  · cases hp : inB at_ 0 3
    · have hf1 : stepOk xs at_ = false := by simp [stepOk, hp]
      have hf2 : stepL xs at_ = xs := by simp [stepL, hX, hf1]
      have F1 := hide hf1; have F2 := hide hf2; have HX := hide hX; have Hp := hide hp; clear hf1 hf2 hX hp
      go_enter Tryd.func55, Tryd.ntmps55
      go_wp2_with fail
      refine (clockOf_c hs).mono ?_
      rintro e w1 ⟨c0, c1, c2, c3, rfl, hck, hb1⟩
      rw [HX.out]
      go_wp2_with (first | (go_at_call 41; refine (placeOk_c).mono ?_; rintro e w' ⟨rfl, rfl⟩; rw [Hp.out]) | (go_at_call 72; refine (list_c).mono ?_; rintro e w2 ⟨u, rfl, ho, hb2⟩))
      go_ret2
      have e0 := hck.of HX.out
      exact ⟨_, 4, by rw [F1.out]; rfl, by rw [F2.out, e0]; exact ho.mono (by have := hb1.size; simp; omega), (hb1.alloc hb1.size _).trans (hb2.mono (by have := hb1.size; simp; omega))⟩
    · have hX0 := hX
      have HX := hide hX; have Hp := hide hp
      have hpl := inB_place hp
      clear hX hp
      -- the place and the counts are known
      have main : ∀ (c0 c1 c2 c3 : Int), xs = [c0, c1, c2, c3] → ∀ x : Int, xs[at_.toNat]? = some x → 
          (x = 1000 ∧ stepOk xs at_ = false ∧ stepL xs at_ = xs) ∨ (x ≠ 1000 ∧ stepOk xs at_ = true ∧ stepL xs at_ = xs.set at_.toNat (x + 1)) := by
        intro c0 c1 c2 c3 _ x hx
        by_cases h1 : x = 1000
        · left; subst h1
          have : stepOk xs at_ = false := by simp [stepOk, hx]
          exact ⟨rfl, this, by simp [stepL, hX0, this]⟩
        · right
          have : stepOk xs at_ = true := by simp [stepOk, hx, hX0, Hp.out, h1]
          exact ⟨h1, this, by simp [stepL, hX0, this, hx]⟩
      have Main := hide main; clear main
      have hbd := fun c0 c1 c2 c3 (e : xs = [c0, c1, c2, c3]) => clockB_four (e ▸ hX0)
      have Hbd := hide hbd; clear hbd hX0
      go_enter Tryd.func55, Tryd.ntmps55
      go_wp2_with fail
      refine (clockOf_c hs).mono ?_
      rintro e w1 ⟨c0, c1, c2, c3, rfl, hck, hb1⟩
      rw [HX.out]
      have e0 := hck.of HX.out
      obtain ⟨B0, B1, B2, B3⟩ := Hbd.out _ _ _ _ e0
      have E0 := hide e0; clear e0 hck
      rcases hpl with rfl | rfl | rfl | rfl
      · have M := Main.out _ _ _ _ E0.out c0 (by rw [E0.out]; rfl)
        rcases M with ⟨hx, s1, s2⟩ | ⟨hx, s1, s2⟩
        · have S1 := hide s1; have S2 := hide s2; clear s1 s2
          subst hx
          go_wp2_with (first | (go_at_call 41; refine (placeOk_c).mono ?_; rintro e w' ⟨rfl, rfl⟩; rw [Hp.out]) | (go_at_call 72; refine (list_c).mono ?_; rintro e w2 ⟨u, rfl, ho, hb2⟩))
          go_ret2
          exact ⟨_, 4, by rw [S1.out]; rfl, by rw [S2.out, E0.out]; exact ho.mono (by have := hb1.size; simp; omega), (hb1.alloc hb1.size _).trans (hb2.mono (by have := hb1.size; simp; omega))⟩
        · have S1 := hide s1; have S2 := hide s2; clear s1 s2
          have hx' : (c0 == 1000) = false := by simpa using hx
          go_wp2_with (first | (go_at_call 41; refine (placeOk_c).mono ?_; rintro e w' ⟨rfl, rfl⟩; rw [Hp.out]) | (go_at_call 72; refine (list_c).mono ?_; rintro e w2 ⟨u, rfl, ho, hb2⟩))
          go_ret2
          exact ⟨_, 4, by rw [S1.out]; rfl, by rw [S2.out, E0.out]; exact ho.mono (by have := hb1.size; simp; omega), (hb1.alloc hb1.size _).trans (hb2.mono (by have := hb1.size; simp; omega))⟩
      · have M := Main.out _ _ _ _ E0.out c1 (by rw [E0.out]; rfl)
        rcases M with ⟨hx, s1, s2⟩ | ⟨hx, s1, s2⟩
        · have S1 := hide s1; have S2 := hide s2; clear s1 s2
          subst hx
          go_wp2_with (first | (go_at_call 41; refine (placeOk_c).mono ?_; rintro e w' ⟨rfl, rfl⟩; rw [Hp.out]) | (go_at_call 72; refine (list_c).mono ?_; rintro e w2 ⟨u, rfl, ho, hb2⟩))
          go_ret2
          exact ⟨_, 4, by rw [S1.out]; rfl, by rw [S2.out, E0.out]; exact ho.mono (by have := hb1.size; simp; omega), (hb1.alloc hb1.size _).trans (hb2.mono (by have := hb1.size; simp; omega))⟩
        · have S1 := hide s1; have S2 := hide s2; clear s1 s2
          have hx' : (c1 == 1000) = false := by simpa using hx
          go_wp2_with (first | (go_at_call 41; refine (placeOk_c).mono ?_; rintro e w' ⟨rfl, rfl⟩; rw [Hp.out]) | (go_at_call 72; refine (list_c).mono ?_; rintro e w2 ⟨u, rfl, ho, hb2⟩))
          go_ret2
          exact ⟨_, 4, by rw [S1.out]; rfl, by rw [S2.out, E0.out]; exact ho.mono (by have := hb1.size; simp; omega), (hb1.alloc hb1.size _).trans (hb2.mono (by have := hb1.size; simp; omega))⟩
      · have M := Main.out _ _ _ _ E0.out c2 (by rw [E0.out]; rfl)
        rcases M with ⟨hx, s1, s2⟩ | ⟨hx, s1, s2⟩
        · have S1 := hide s1; have S2 := hide s2; clear s1 s2
          subst hx
          go_wp2_with (first | (go_at_call 41; refine (placeOk_c).mono ?_; rintro e w' ⟨rfl, rfl⟩; rw [Hp.out]) | (go_at_call 72; refine (list_c).mono ?_; rintro e w2 ⟨u, rfl, ho, hb2⟩))
          go_ret2
          exact ⟨_, 4, by rw [S1.out]; rfl, by rw [S2.out, E0.out]; exact ho.mono (by have := hb1.size; simp; omega), (hb1.alloc hb1.size _).trans (hb2.mono (by have := hb1.size; simp; omega))⟩
        · have S1 := hide s1; have S2 := hide s2; clear s1 s2
          have hx' : (c2 == 1000) = false := by simpa using hx
          go_wp2_with (first | (go_at_call 41; refine (placeOk_c).mono ?_; rintro e w' ⟨rfl, rfl⟩; rw [Hp.out]) | (go_at_call 72; refine (list_c).mono ?_; rintro e w2 ⟨u, rfl, ho, hb2⟩))
          go_ret2
          exact ⟨_, 4, by rw [S1.out]; rfl, by rw [S2.out, E0.out]; exact ho.mono (by have := hb1.size; simp; omega), (hb1.alloc hb1.size _).trans (hb2.mono (by have := hb1.size; simp; omega))⟩
      · have M := Main.out _ _ _ _ E0.out c3 (by rw [E0.out]; rfl)
        rcases M with ⟨hx, s1, s2⟩ | ⟨hx, s1, s2⟩
        · have S1 := hide s1; have S2 := hide s2; clear s1 s2
          subst hx
          go_wp2_with (first | (go_at_call 41; refine (placeOk_c).mono ?_; rintro e w' ⟨rfl, rfl⟩; rw [Hp.out]) | (go_at_call 72; refine (list_c).mono ?_; rintro e w2 ⟨u, rfl, ho, hb2⟩))
          go_ret2
          exact ⟨_, 4, by rw [S1.out]; rfl, by rw [S2.out, E0.out]; exact ho.mono (by have := hb1.size; simp; omega), (hb1.alloc hb1.size _).trans (hb2.mono (by have := hb1.size; simp; omega))⟩
        · have S1 := hide s1; have S2 := hide s2; clear s1 s2
          have hx' : (c3 == 1000) = false := by simpa using hx
          go_wp2_with (first | (go_at_call 41; refine (placeOk_c).mono ?_; rintro e w' ⟨rfl, rfl⟩; rw [Hp.out]) | (go_at_call 72; refine (list_c).mono ?_; rintro e w2 ⟨u, rfl, ho, hb2⟩))
          go_ret2
          exact ⟨_, 4, by rw [S1.out]; rfl, by rw [S2.out, E0.out]; exact ho.mono (by have := hb1.size; simp; omega), (hb1.alloc hb1.size _).trans (hb2.mono (by have := hb1.size; simp; omega))⟩

end Go.Proofs.YtopjdidigfdhbaaDoor
