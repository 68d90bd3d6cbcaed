/- FnLaterStamped: the later value does not depend on the order; it is one of both, and with itself it stays. The card ties the listed variables to the program's text; the law's road does not look into them. -/
import Derived.Test.YtopjdidigfdhbaaDoorOpenD
import Derived.Test.YtopjdidigfdhbaaDoorDraw6
import Derived.Test.YtopjdidigfdhbaaDoorLastP
import Derived.Test.YtopjdidigfdhbaaDoorEqS
import Derived.Test.YtopjdidigfdhbaaDoorHeld
import Derived.Deep.RegionHeld3
namespace Go.Proofs.YtopjdidigfdhbaaDoor.fnLaterStamped
open Go.ChangeShapes Go.WideShapes Go.ChangeAt Go.RowKit

theorem lsV_ls3 (a b c a' b' c' : Int) : lsV a b c a' b' c' = vT3 (ls3 (a, b, c) (a', b', c')) := by
  unfold lsV ls3
  cases h : (stampB a b c && stampB a' b' c')
  · have h' : (st3 (a, b, c) && st3 (a', b', c')) = false := h
    rw [h']; rfl
  · have h' : (st3 (a, b, c) && st3 (a', b', c')) = true := h
    rw [h']; exact later3_val _ _ _ _ _ _
theorem ne_of_gt3 {a b c a' b' c' : Int} (h : gt3 (a, b, c) (a', b', c')) : (a == a' && (b == b' && c == c')) = false := by
  cases hh : (a == a' && (b == b' && c == c'))
  · rfl
  · simp only [Bool.and_eq_true, beq_iff_eq] at hh
    obtain ⟨rfl, rfl, rfl⟩ := hh
    exact absurd h (gt3_self _)

set_option linter.unusedSimpArgs false
set_option maxRecDepth 100000 in
set_option maxHeartbeats 32000000 in
theorem walk (A : Option Addr) (n c : Nat) (w : World) (hnc : n ≤ c) (hmx : c ≤ maxLen) (hb : BY w w.heap.size A n) :
    Calls Tryd.prog 3 #[.slice A n c] w fun e w' => e = .returned (.bool true) ∧ Below w.heap.size w w' := by
  by_cases hn : n ≤ 1048576
  · go_enter Tryd.func3, Tryd.ntmps3
    go_wp2_with fail
    refine (DrawLaterStamped_c hnc hmx hb).mono ?_
    rintro e w1 ⟨x, y, z, x', y', z', rfl, b1⟩
    obtain ⟨p, hp⟩ : ∃ p, stampB x y z = p := ⟨_, rfl⟩
    obtain ⟨q, hq⟩ : ∃ q, stampB x' y' z' = q := ⟨_, rfl⟩
    obtain ⟨m0, m1, m2, hm⟩ : ∃ m0 m1 m2, ls3 (x, y, z) (x', y', z') = (m0, m1, m2) := ⟨_, _, _, rfl⟩
    have v1 : lsV x y z x' y' z' = .agg #[.int .i64 m0, .int .i64 m1, .int .i64 m2] := by rw [lsV_ls3, hm]; rfl
    have v2 : lsV x' y' z' x y z = .agg #[.int .i64 m0, .int .i64 m1, .int .i64 m2] := by rw [lsV_ls3, ls3_comm, hm]; rfl
    have P := hide hp; have Q := hide hq; have M := hide hm; have V1 := hide v1; have V2 := hide v2
    clear hp hq hm v1 v2
    have KA := (Blk.new w1 24 #[.int .i64 x, .int .i64 y, .int .i64 z]).alloc (.cells #[.int .i64 x', .int .i64 y', .int .i64 z'] 24)
    have KB := Blk.new (w1.alloc (.cells #[.int .i64 x, .int .i64 y, .int .i64 z] 24)) 24 #[.int .i64 x', .int .i64 y', .int .i64 z']
    have b2 : Below w1.heap.size w1 ((w1.alloc (.cells #[.int .i64 x, .int .i64 y, .int .i64 z] 24)).alloc (.cells #[.int .i64 x', .int .i64 y', .int .i64 z'] 24)) := (beB0 w1 _).alloc (by simp) _
    simp only [World.size_alloc] at KB
    have B2 := below_step b1 b2
    clear b1 b2
    go_wp2_with fail
    generalize ((w1.alloc (.cells #[.int .i64 x, .int .i64 y, .int .i64 z] 24)).alloc (.cells #[.int .i64 x', .int .i64 y', .int .i64 z'] 24)) = w2 at *
    refine (impl_LaterStamped_c).mono ?_
    rintro e w3 ⟨rfl, b3⟩
    rw [V1.out]
    have B3 := below_step B2 b3
    have KX := Blk.new w3 24 #[.int .i64 m0, .int .i64 m1, .int .i64 m2]
    have b4 := beB0 w3 (.cells #[.int .i64 m0, .int .i64 m1, .int .i64 m2] 24)
    have B4 := below_step B3 b4
    replace KA := (KA.belowAll b3).belowAll b4
    replace KB := (KB.belowAll b3).belowAll b4
    clear b3 b4
    have gd := guardS
    have ne := fun W : World => neqS_same W m0 m1 m2
    go_wp2_with fail
    generalize w3.alloc (.cells #[.int .i64 m0, .int .i64 m1, .int .i64 m2] 24) = w4 at *
    have BZ : Below w4.heap.size w4 w4.drew := (Below.refl _ _).drew
    have hc : ∀ W, Below w4.heap.size w4 W → W.cell? ⟨w3.heap.size, 0, none⟩ = some (.int .i64 m0) ∧ W.cell? ⟨w3.heap.size, 1, none⟩ = some (.int .i64 m1) ∧ W.cell? ⟨w3.heap.size, 2, none⟩ = some (.int .i64 m2) ∧ W.cell? ⟨w1.heap.size, 0, none⟩ = some (.int .i64 x) ∧ W.cell? ⟨w1.heap.size, 1, none⟩ = some (.int .i64 y) ∧ W.cell? ⟨w1.heap.size, 2, none⟩ = some (.int .i64 z) ∧ W.cell? ⟨w1.heap.size + 1, 0, none⟩ = some (.int .i64 x') ∧ W.cell? ⟨w1.heap.size + 1, 1, none⟩ = some (.int .i64 y') ∧ W.cell? ⟨w1.heap.size + 1, 2, none⟩ = some (.int .i64 z') := fun W h => ⟨(KX.held3 h).1, (KX.held3 h).2.1, (KX.held3 h).2.2, (KA.held3 h).1, (KA.held3 h).2.1, (KA.held3 h).2.2, (KB.held3 h).1, (KB.held3 h).2.1, (KB.held3 h).2.2⟩
    obtain ⟨k0, k1, k2, k3, k4, k5, k6, k7, k8⟩ := hc w4 (Below.refl _ _)
    go_region_held3 (fun W => W.cell? ⟨w3.heap.size, 0, none⟩ = some (.int .i64 m0) ∧ W.cell? ⟨w3.heap.size, 1, none⟩ = some (.int .i64 m1) ∧ W.cell? ⟨w3.heap.size, 2, none⟩ = some (.int .i64 m2) ∧ W.cell? ⟨w1.heap.size, 0, none⟩ = some (.int .i64 x) ∧ W.cell? ⟨w1.heap.size, 1, none⟩ = some (.int .i64 y) ∧ W.cell? ⟨w1.heap.size, 2, none⟩ = some (.int .i64 z) ∧ W.cell? ⟨w1.heap.size + 1, 0, none⟩ = some (.int .i64 x') ∧ W.cell? ⟨w1.heap.size + 1, 1, none⟩ = some (.int .i64 y') ∧ W.cell? ⟨w1.heap.size + 1, 2, none⟩ = some (.int .i64 z'))
      (first | exact hc _ BZ)
      (first | (go_at_call 11; refine (spec_LaterStamped_c).mono ?_; rintro e w5 ⟨rfl, b5⟩; rw [V1.out]; replace BZ := below_step BZ b5) | (go_at_call 10; refine (impl_LaterStamped_c).mono ?_; rintro e w6 ⟨rfl, b6⟩; rw [V2.out]; replace BZ := below_step BZ b6))
    clear k0 k1 k2 k3 k4 k5 k6 k7 k8
    obtain ⟨k0, k1, k2, k3, k4, k5, k6, k7, k8⟩ := hc _ BZ
    go_wp2_with fail
    refine (impl_StampedValid_c).mono ?_
    rintro e w7 ⟨rfl, b7⟩
    replace BZ := below_step BZ b7
    rw [P.out]
    clear k0 k1 k2 k3 k4 k5 k6 k7 k8
    obtain ⟨k0, k1, k2, k3, k4, k5, k6, k7, k8⟩ := hc _ BZ
    cases p
    · have hz : (m0, m1, m2) = ((0 : Int), (0 : Int), (0 : Int)) := by rw [← M.out]; unfold ls3; rw [show st3 (x, y, z) = false from P.out]; rfl
      simp only [Prod.mk.injEq] at hz
      obtain ⟨rfl, rfl, rfl⟩ := hz
      have eq0 := fun W : World => eqS_same W 0 0 0
      clear ne
      go_wp2_with fail
      refine (alive_c).mono ?_
      rintro e w8 ⟨rfl, b8⟩
      go_wp2_with fail
      go_ret
      exact ⟨rfl, below_step B4 (below_step BZ b8)⟩
    · go_wp2_with fail
      refine (impl_StampedValid_c).mono ?_
      rintro e w8 ⟨rfl, b8⟩
      replace BZ := below_step BZ b8
      rw [Q.out]
      clear k0 k1 k2 k3 k4 k5 k6 k7 k8
      obtain ⟨k0, k1, k2, k3, k4, k5, k6, k7, k8⟩ := hc _ BZ
      cases q
      · have hz : (m0, m1, m2) = ((0 : Int), (0 : Int), (0 : Int)) := by rw [← M.out]; unfold ls3; rw [show st3 (x, y, z) = true from P.out, show st3 (x', y', z') = false from Q.out]; rfl
        simp only [Prod.mk.injEq] at hz
        obtain ⟨rfl, rfl, rfl⟩ := hz
        have eq0 := fun W : World => eqS_same W 0 0 0
        clear ne
        go_wp2_with fail
        refine (alive_c).mono ?_
        rintro e w9 ⟨rfl, b9⟩
        go_wp2_with fail
        go_ret
        exact ⟨rfl, below_step B4 (below_step BZ b9)⟩
      · have hm : later3 (x, y, z) (x', y', z') = (m0, m1, m2) := by rw [← M.out]; unfold ls3; rw [show st3 (x, y, z) = true from P.out, show st3 (x', y', z') = true from Q.out]; rfl
        rcases later3_cases (x, y, z) (x', y', z') with ⟨e1, hg⟩ | ⟨e1, hg⟩
        · rw [hm] at e1
          simp only [Prod.mk.injEq] at e1
          obtain ⟨rfl, rfl, rfl⟩ := e1
          have hself : lsV m0 m1 m2 m0 m1 m2 = .agg #[.int .i64 m0, .int .i64 m1, .int .i64 m2] := by rw [lsV_valid P.out P.out, later3_self]; rfl
          have HS := hide hself
          have ht : y' ≤ m1 := by unfold gt3 at hg; dsimp only at hg; omega
          have eq0 := fun W : World => eqS_same W m0 m1 m2
          clear ne hself hg hm V1 V2 M
          go_wp2_with fail
          replace BZ := BZ.drew
          refine wp_region_held_drew (S := (fun W => W.cell? ⟨w3.heap.size, 0, none⟩ = some (.int .i64 m0) ∧ W.cell? ⟨w3.heap.size, 1, none⟩ = some (.int .i64 m1) ∧ W.cell? ⟨w3.heap.size, 2, none⟩ = some (.int .i64 m2) ∧ W.cell? ⟨w1.heap.size, 0, none⟩ = some (.int .i64 m0) ∧ W.cell? ⟨w1.heap.size, 1, none⟩ = some (.int .i64 m1) ∧ W.cell? ⟨w1.heap.size, 2, none⟩ = some (.int .i64 m2) ∧ W.cell? ⟨w1.heap.size + 1, 0, none⟩ = some (.int .i64 x') ∧ W.cell? ⟨w1.heap.size + 1, 1, none⟩ = some (.int .i64 y') ∧ W.cell? ⟨w1.heap.size + 1, 2, none⟩ = some (.int .i64 z'))) (by kernel_rfl) ?_ (fun hHeld => ?_)
          · exact hc _ BZ
          refine wpAnyH_take (i := 0) (v := ?vv0) (by rw [List.getElem?_toArray]; exact rfl) (by kernel_rfl) (by kernel_rfl) (by kernel_rfl) (by intro _ _ _ h; exact h) (Or.inl ⟨by rfl, ?hy0⟩) hHeld ?rest0
          case' hy0 => (intro w hSw; (try dsimp only at hSw); go_simp; try (with_reducible rfl))
          (try simp only [Act.put, List.setIfInBounds_toArray, List.set_cons_zero, List.set_cons_succ])
          refine wpAnyH_take (i := 1) (v := ?vv1) (by rw [List.getElem?_toArray]; exact rfl) (by kernel_rfl) (by kernel_rfl) (by kernel_rfl) (by intro _ _ _ h; exact h) (Or.inl ⟨by rfl, ?hy1⟩) hHeld ?rest1
          case' hy1 => (intro w hSw; (try dsimp only at hSw); go_simp; try (with_reducible rfl))
          (try simp only [Act.put, List.setIfInBounds_toArray, List.set_cons_zero, List.set_cons_succ])
          refine wpAnyH_take (i := 2) (v := ?vv2) (by rw [List.getElem?_toArray]; exact rfl) (by kernel_rfl) (by kernel_rfl) (by kernel_rfl) (by intro _ _ _ h; exact h) (Or.inl ⟨by rfl, ?hy2⟩) hHeld ?rest2
          case' hy2 => (intro w hSw; (try dsimp only at hSw); go_simp; try (with_reducible rfl))
          (try simp only [Act.put, List.setIfInBounds_toArray, List.set_cons_zero, List.set_cons_succ])
          refine wpAnyH_take (i := 3) (v := ?vv3) (by rw [List.getElem?_toArray]; exact rfl) (by kernel_rfl) (by kernel_rfl) (by kernel_rfl) (by intro _ _ _ h; exact h) (Or.inl ⟨by rfl, ?hy3⟩) hHeld ?rest3
          case' hy3 => (intro w hSw; (try dsimp only at hSw); go_simp; try (with_reducible rfl))
          (try simp only [Act.put, List.setIfInBounds_toArray, List.set_cons_zero, List.set_cons_succ])
          refine wpAnyH_take (i := 4) (by rw [List.getElem?_toArray]; exact rfl) (by kernel_rfl) (by kernel_rfl) (by kernel_rfl) (by intro _ _ _ h; exact h) (Or.inr ⟨by rfl, rfl⟩) hHeld ?_
          (try simp only [Act.put, List.setIfInBounds_toArray, List.set_cons_zero, List.set_cons_succ])
          refine wpAnyH_take (i := 5) (by rw [List.getElem?_toArray]; exact rfl) (by kernel_rfl) (by kernel_rfl) (by kernel_rfl) (by intro _ _ _ h; exact h) (Or.inr ⟨by rfl, rfl⟩) hHeld ?_
          (try simp only [Act.put, List.setIfInBounds_toArray, List.set_cons_zero, List.set_cons_succ])
          refine wpAnyH_take (i := 6) (by rw [List.getElem?_toArray]; exact rfl) (by kernel_rfl) (by kernel_rfl) (by kernel_rfl) (by intro _ _ _ h; exact h) (Or.inr ⟨by rfl, rfl⟩) hHeld ?_
          (try simp only [Act.put, List.setIfInBounds_toArray, List.set_cons_zero, List.set_cons_succ])
          refine wpAnyH_take (i := 7) (v := ?vv7) (by rw [List.getElem?_toArray]; exact rfl) (by kernel_rfl) (by kernel_rfl) (by kernel_rfl) (by intro _ _ _ h; exact h) (Or.inl ⟨by rfl, ?hy7⟩) hHeld ?rest7
          case' hy7 => (intro w hSw; (try dsimp only at hSw); go_simp; try (with_reducible rfl))
          (try simp only [Act.put, List.setIfInBounds_toArray, List.set_cons_zero, List.set_cons_succ])
          refine wpAnyH_take (i := 8) (v := ?vv8) (by rw [List.getElem?_toArray]; exact rfl) (by kernel_rfl) (by kernel_rfl) (by kernel_rfl) (by intro _ _ _ h; exact h) (Or.inl ⟨by rfl, ?hy8⟩) hHeld ?rest8
          case' hy8 => (intro w hSw; (try dsimp only at hSw); go_simp; try (with_reducible rfl))
          (try simp only [Act.put, List.setIfInBounds_toArray, List.set_cons_zero, List.set_cons_succ])
          refine wpAnyH_take (i := 9) (v := ?vv9) (by rw [List.getElem?_toArray]; exact rfl) (by kernel_rfl) (by kernel_rfl) (by kernel_rfl) (by intro _ _ _ h; exact h) (Or.inl ⟨by rfl, ?hy9⟩) hHeld ?rest9
          case' hy9 => (intro w hSw; (try dsimp only at hSw); go_simp; try (with_reducible rfl))
          (try simp only [Act.put, List.setIfInBounds_toArray, List.set_cons_zero, List.set_cons_succ])
          refine wpAnyH_take (i := 10) (v := ?vv10) (by rw [List.getElem?_toArray]; exact rfl) (by kernel_rfl) (by kernel_rfl) (by kernel_rfl) (by intro _ _ _ h; exact h) (Or.inl ⟨by rfl, ?hy10⟩) hHeld ?rest10
          case' hy10 => (intro w hSw; (try dsimp only at hSw); go_simp; try (with_reducible rfl))
          (try simp only [Act.put, List.setIfInBounds_toArray, List.set_cons_zero, List.set_cons_succ])
          refine wpAnyH_take (i := 12) (v := ?vv12) (by rw [List.getElem?_toArray]; exact rfl) (by kernel_rfl) (by kernel_rfl) (by kernel_rfl) (by intro _ _ _ h; exact h) (Or.inl ⟨by rfl, ?hy12⟩) hHeld ?rest12
          case' hy12 => (intro w hSw; (try dsimp only at hSw); go_simp; try (with_reducible rfl))
          (try simp only [Act.put, List.setIfInBounds_toArray, List.set_cons_zero, List.set_cons_succ])
          refine wpAnyH_ready (rs := [11]) (by kernel_rfl) (by simp) ?_
          refine AllReadyH.cons (by rw [List.getElem?_toArray]; exact rfl) (fun K hK => ?_) AllReadyH.nil
          go_simp
          go_at_call 10
          refine (impl_LaterStamped_c).mono ?_
          rintro e w10 ⟨rfl, b10⟩
          rw [HS.out]
          replace BZ := below_step BZ b10
          (try go_wp2_with fail)
          refine hK.out _ _ ?_ (fun hHeld => ?_)
          · exact hc _ BZ
          clear hK K
          (try simp only [Act.put, List.setIfInBounds_toArray, List.set_cons_zero, List.set_cons_succ])
          refine wpAnyH_take (i := 13) (v := ?vv13) (by rw [List.getElem?_toArray]; exact rfl) (by kernel_rfl) (by kernel_rfl) (by kernel_rfl) (by intro _ _ _ h; exact h) (Or.inl ⟨by rfl, ?hy13⟩) hHeld ?rest13
          case' hy13 => (intro w hSw; (try dsimp only at hSw); go_simp; try (with_reducible rfl))
          (try simp only [Act.put, List.setIfInBounds_toArray, List.set_cons_zero, List.set_cons_succ])
          refine wpAnyH_take (i := 14) (v := ?vv14) (by rw [List.getElem?_toArray]; exact rfl) (by kernel_rfl) (by kernel_rfl) (by kernel_rfl) (by intro _ _ _ h; exact h) (Or.inl ⟨by rfl, ?hy14⟩) hHeld ?rest14
          case' hy14 => (intro w hSw; (try dsimp only at hSw); go_simp; try (with_reducible rfl))
          (try simp only [Act.put, List.setIfInBounds_toArray, List.set_cons_zero, List.set_cons_succ])
          refine wpAnyH_take (i := 15) (v := ?vv15) (by rw [List.getElem?_toArray]; exact rfl) (by kernel_rfl) (by kernel_rfl) (by kernel_rfl) (by intro _ _ _ h; exact h) (Or.inl ⟨by rfl, ?hy15⟩) hHeld ?rest15
          case' hy15 => (intro w hSw; (try dsimp only at hSw); go_simp; try (with_reducible rfl))
          (try simp only [Act.put, List.setIfInBounds_toArray, List.set_cons_zero, List.set_cons_succ])
          refine wpAnyH_take (i := 16) (v := ?vv16) (by rw [List.getElem?_toArray]; exact rfl) (by kernel_rfl) (by kernel_rfl) (by kernel_rfl) (by intro _ _ _ h; exact h) (Or.inl ⟨by rfl, ?hy16⟩) hHeld ?rest16
          case' hy16 => (intro w hSw; (try dsimp only at hSw); go_simp; try (with_reducible rfl))
          (try simp only [Act.put, List.setIfInBounds_toArray, List.set_cons_zero, List.set_cons_succ])
          refine wpAnyH_take (i := 17) (v := ?vv17) (by rw [List.getElem?_toArray]; exact rfl) (by kernel_rfl) (by kernel_rfl) (by kernel_rfl) (by intro _ _ _ h; exact h) (Or.inl ⟨by rfl, ?hy17⟩) hHeld ?rest17
          case' hy17 => (intro w hSw; (try dsimp only at hSw); go_simp; try (with_reducible rfl))
          (try simp only [Act.put, List.setIfInBounds_toArray, List.set_cons_zero, List.set_cons_succ])
          refine wpAnyH_take (i := 18) (v := ?vv18) (by rw [List.getElem?_toArray]; exact rfl) (by kernel_rfl) (by kernel_rfl) (by kernel_rfl) (by intro _ _ _ h; exact h) (Or.inl ⟨by rfl, ?hy18⟩) hHeld ?rest18
          case' hy18 => (intro w hSw; (try dsimp only at hSw); go_simp; try (with_reducible rfl))
          (try simp only [Act.put, List.setIfInBounds_toArray, List.set_cons_zero, List.set_cons_succ])
          refine wpAnyH_take (i := 19) (v := ?vv19) (by rw [List.getElem?_toArray]; exact rfl) (by kernel_rfl) (by kernel_rfl) (by kernel_rfl) (by intro _ _ _ h; exact h) (Or.inl ⟨by rfl, ?hy19⟩) hHeld ?rest19
          case' hy19 => (intro w hSw; (try dsimp only at hSw); go_simp; try (with_reducible rfl))
          (try simp only [Act.put, List.setIfInBounds_toArray, List.set_cons_zero, List.set_cons_succ])
          refine wpAnyH_take (i := 20) (v := ?vv20) (by rw [List.getElem?_toArray]; exact rfl) (by kernel_rfl) (by kernel_rfl) (by kernel_rfl) (by intro _ _ _ h; exact h) (Or.inl ⟨by rfl, ?hy20⟩) hHeld ?rest20
          case' hy20 => (intro w hSw; (try dsimp only at hSw); go_simp; try (with_reducible rfl))
          (try simp only [Act.put, List.setIfInBounds_toArray, List.set_cons_zero, List.set_cons_succ])
          refine wpAnyH_take (i := 21) (v := ?vv21) (by rw [List.getElem?_toArray]; exact rfl) (by kernel_rfl) (by kernel_rfl) (by kernel_rfl) (by intro _ _ _ h; exact h) (Or.inl ⟨by rfl, ?hy21⟩) hHeld ?rest21
          case' hy21 => (intro w hSw; (try dsimp only at hSw); go_simp; try (with_reducible rfl))
          (try simp only [Act.put, List.setIfInBounds_toArray, List.set_cons_zero, List.set_cons_succ])
          refine wpAnyH_take (i := 22) (v := ?vv22) (by rw [List.getElem?_toArray]; exact rfl) (by kernel_rfl) (by kernel_rfl) (by kernel_rfl) (by intro _ _ _ h; exact h) (Or.inl ⟨by rfl, ?hy22⟩) hHeld ?rest22
          case' hy22 => (intro w hSw; (try dsimp only at hSw); go_simp; try (with_reducible rfl))
          (try simp only [Act.put, List.setIfInBounds_toArray, List.set_cons_zero, List.set_cons_succ])
          refine wpAnyH_take (i := 23) (v := ?vv23) (by rw [List.getElem?_toArray]; exact rfl) (by kernel_rfl) (by kernel_rfl) (by kernel_rfl) (by intro _ _ _ h; exact h) (Or.inl ⟨by rfl, ?hy23⟩) hHeld ?rest23
          case' hy23 => (intro w hSw; (try dsimp only at hSw); go_simp; try (with_reducible rfl))
          (try simp only [Act.put, List.setIfInBounds_toArray, List.set_cons_zero, List.set_cons_succ])
          refine wpAnyH_take (i := 24) (v := ?vv24) (by rw [List.getElem?_toArray]; exact rfl) (by kernel_rfl) (by kernel_rfl) (by kernel_rfl) (by intro _ _ _ h; exact h) (Or.inl ⟨by rfl, ?hy24⟩) hHeld ?rest24
          case' hy24 => (intro w hSw; (try dsimp only at hSw); go_simp; try (with_reducible rfl))
          (try simp only [Act.put, List.setIfInBounds_toArray, List.set_cons_zero, List.set_cons_succ])
          refine wpAnyH_take (i := 25) (v := ?vv25) (by rw [List.getElem?_toArray]; exact rfl) (by kernel_rfl) (by kernel_rfl) (by kernel_rfl) (by intro _ _ _ h; exact h) (Or.inl ⟨by rfl, ?hy25⟩) hHeld ?rest25
          case' hy25 => (intro w hSw; (try dsimp only at hSw); go_simp; try (with_reducible rfl))
          (try simp only [Act.put, List.setIfInBounds_toArray, List.set_cons_zero, List.set_cons_succ])
          refine wpAnyH_take (i := 26) (v := ?vv26) (by rw [List.getElem?_toArray]; exact rfl) (by kernel_rfl) (by kernel_rfl) (by kernel_rfl) (by intro _ _ _ h; exact h) (Or.inl ⟨by rfl, ?hy26⟩) hHeld ?rest26
          case' hy26 => (intro w hSw; (try dsimp only at hSw); go_simp; try (with_reducible rfl))
          (try simp only [Act.put, List.setIfInBounds_toArray, List.set_cons_zero, List.set_cons_succ])
          refine wpAnyH_take (i := 27) (v := ?vv27) (by rw [List.getElem?_toArray]; exact rfl) (by kernel_rfl) (by kernel_rfl) (by kernel_rfl) (by intro _ _ _ h; exact h) (Or.inl ⟨by rfl, ?hy27⟩) hHeld ?rest27
          case' hy27 => (intro w hSw; (try dsimp only at hSw); go_simp; try (with_reducible rfl))
          (try simp only [Act.put, List.setIfInBounds_toArray, List.set_cons_zero, List.set_cons_succ])
          refine wpAnyH_take (i := 28) (v := ?vv28) (by rw [List.getElem?_toArray]; exact rfl) (by kernel_rfl) (by kernel_rfl) (by kernel_rfl) (by intro _ _ _ h; exact h) (Or.inl ⟨by rfl, ?hy28⟩) hHeld ?rest28
          case' hy28 => (intro w hSw; (try dsimp only at hSw); go_simp; try (with_reducible rfl))
          (try simp only [Act.put, List.setIfInBounds_toArray, List.set_cons_zero, List.set_cons_succ])
          refine wpAnyH_take (i := 29) (v := ?vv29) (by rw [List.getElem?_toArray]; exact rfl) (by kernel_rfl) (by kernel_rfl) (by kernel_rfl) (by intro _ _ _ h; exact h) (Or.inl ⟨by rfl, ?hy29⟩) hHeld ?rest29
          case' hy29 => (intro w hSw; (try dsimp only at hSw); go_simp; try (with_reducible rfl))
          (try simp only [Act.put, List.setIfInBounds_toArray, List.set_cons_zero, List.set_cons_succ])
          refine wpAnyH_done (by kernel_rfl) ?_ _
          go_wp2_with fail
          go_ret
          exact ⟨rfl, below_step B4 BZ⟩
        · rw [hm] at e1
          simp only [Prod.mk.injEq] at e1
          obtain ⟨rfl, rfl, rfl⟩ := e1
          have hback : lsV m0 m1 m2 x y z = .agg #[.int .i64 m0, .int .i64 m1, .int .i64 m2] := by
            rw [lsV_valid Q.out P.out, later3_keep (by unfold gt3 at *; omega)]; rfl
          have HS := hide hback
          have ht : y ≤ m1 := by unfold gt3 at hg; dsimp only at hg; omega
          have eq0 := fun W : World => eqS_same W m0 m1 m2
          have hne := ne_of_gt3 hg
          have eq1 : ∀ W : World, (binOp .eql 24 (.agg #[.int .i64 m0, .int .i64 m1, .int .i64 m2]) (.agg #[.int .i64 x, .int .i64 y, .int .i64 z])).run Tryd.prog W = .ok (.bool false) W := fun W => by rw [eqS, hne]
          clear ne hback hg hm hne V1 V2 M
          go_wp2_with fail
          replace BZ := BZ.drew
          go_region_held3 (fun W => W.cell? ⟨w3.heap.size, 0, none⟩ = some (.int .i64 m0) ∧ W.cell? ⟨w3.heap.size, 1, none⟩ = some (.int .i64 m1) ∧ W.cell? ⟨w3.heap.size, 2, none⟩ = some (.int .i64 m2) ∧ W.cell? ⟨w1.heap.size, 0, none⟩ = some (.int .i64 x) ∧ W.cell? ⟨w1.heap.size, 1, none⟩ = some (.int .i64 y) ∧ W.cell? ⟨w1.heap.size, 2, none⟩ = some (.int .i64 z) ∧ W.cell? ⟨w1.heap.size + 1, 0, none⟩ = some (.int .i64 m0) ∧ W.cell? ⟨w1.heap.size + 1, 1, none⟩ = some (.int .i64 m1) ∧ W.cell? ⟨w1.heap.size + 1, 2, none⟩ = some (.int .i64 m2))
            (first | exact hc _ BZ)
            (first | (go_at_call 10; refine (impl_LaterStamped_c).mono ?_; rintro e w10 ⟨rfl, b10⟩; rw [HS.out]; replace BZ := below_step BZ b10))
          go_wp2_with fail
          go_ret
          exact ⟨rfl, below_step B4 BZ⟩
  · go_enter Tryd.func3, Tryd.ntmps3
    go_wp2_with fail
    go_ret
    exact ⟨rfl, Below.refl _ _⟩

theorem door_met (os : Os) (args : Array Value) : laidMetH Tryd.prog Rows.fnLaterStampedRow.laid ((World.doorLaid Tryd.prog 24 os).forCall (fun _ _ => 0) ⟨#[], args, []⟩).memory :=
  laidMetH_of_parts3 (fuel := 8) (laidMet_of_run' 8 (by kernel_rfl) (by kernel_rfl)) (by kernel_rfl) (by kernel_rfl)
set_option maxRecDepth 100000 in
theorem lifted (os : Os) (started : os.Started) (H : Type) (enc : TypeId × Value → H) :
    ReturnsInHanded {} Tryd.checked os 3 .any (fun w args => (Rows.fnLaterStampedSpec.pre enc Tryd.prog Tryd.f3 [] false w args ∧ laidMetH Tryd.prog Rows.fnLaterStampedRow.laid w) ∧ sizedMet enc Tryd.prog Tryd.f3 (OpenSpec.ofChange Rows.fnLaterStampedSpec) false w args)
      (Rows.fnLaterStampedSpec.post enc Tryd.prog Tryd.f3 false true false false) := by
  refine returnsInHanded_of_change_and (C := Tryd.checked) (X := fun w _ => laidMetH Tryd.prog Rows.fnLaterStampedRow.laid w) (fun _ _ _ hh h => h.of_heap hh) own started (by kernel_rfl) Tryd.func3
    (ChangeSpec.witness_shaped (enc := enc) (C := Tryd.checked) (os := os) (X := fun w _ => laidMetH Tryd.prog Rows.fnLaterStampedRow.laid w) false (World.doorLaid Tryd.prog 24 os) #[.slice none 0 0] 8 rfl (World.shaped_of_RefB (by kernel_rfl) (by kernel_rfl)) (by kernel_rfl) (by kernel_rfl) (by kernel_rfl) (door_met os _)) ?_
  intro W base args ds gs before hval0 hW _ _ _ _
  have hval : ∀ (j : Nat) t v, Tryd.f3.params[j]? = some t → args[j]? = some v → Value.okWide Tryd.prog W .any base t v := hval0
  have hW' := hW
  obtain ⟨p, q, hA0, hV, rfl, hfz, hnd⟩ := hW
  have hA : DataW.TrodAll enc Tryd.prog W 0 (fun _ => true) true Tryd.f3.params.toList args.toList ds p := hA0
  rw [Tryd.params3] at hA hval
  obtain ⟨v0, vs0, d0, ds0, p0, q0, hargs, rfl, rfl, h0, r0⟩ := trodAll_cons hA
  obtain ⟨rfl, rfl, rfl⟩ := trodAll_nil r0
  obtain rfl : args = #[v0] := by cases args; simp_all
  obtain ⟨rfl, rfl⟩ := trodVars_none hV
  have k0 := h0
  have lt0 : ∀ x ∈ p0, x.block < W.heap.size := by obtain ⟨m, hm⟩ := k0; exact DataW.trod_lt m _ _ _ hm
  obtain ⟨A0, n0, c0, rfl, hnc0, hmx0, R0⟩ := open_bytesA (hval 0 22 v0 rfl rfl) h0
  clear hA0 hval0
  refine (walk A0 n0 c0 W hnc0 hmx0 R0).mono fun e W' ⟨he, bel⟩ => ?_
  subst he
  exact ⟨_, rfl, _, _, _, [], _, [], hW', trodAll_mk1 (shut_bool Tryd.underlying4 _), (trodAll_cons_mk (Below.trod laidOut (by kernel_rfl) (of_decide_eq_true (by kernel_rfl)) k0 bel lt0) trodAll_mk0), rfl, bel.frame _, fun h => by cases h⟩
theorem row_holds : Rows.FnLaterStampedSaid :=
  OpenClaim.holds_of_wide 3 Tryd.f3 rfl rfl rfl rfl rfl rfl rfl ⟨rfl, rfl, rfl, rfl, rfl⟩ rfl rfl rfl rfl rfl (by kernel_rfl) Tryd.func3 (by kernel_rfl)
    (of_decide_eq_true (by kernel_rfl)) (by unfold Func.isWrapper; first | (rw [if_pos (by decide +kernel)]; kernel_rfl) | (rw [if_neg (by decide +kernel)]; exact ⟨rfl, rfl⟩))
    (fun os started H enc _ => lifted os started H enc)
theorem proved : Rows.FnLaterStampedCardSaid :=
  Claim7.holds_tied_plain_at .later [] [.data, .data, .data] true (true, "750ad089a0909c8e2fda4b82ce8af6d79673fc2283ed16af9c51f11c2587aea3") false
    row_holds (fun _ h => by cases h) (by kernel_rfl) (fun _ h => by cases h) fnLaterStamped_row_tie rfl ⟨rfl, rfl⟩ (by kernel_rfl) rfl
    (fun f fn hf hfn => by
      obtain rfl : f = 3 := Option.some.inj ((show Tryd.prog.funcNamed "loop.example/historychecker/laws.FnLaterStamped" = some 3 by kernel_rfl).symm.trans hf) |>.symm
      obtain rfl : fn = Tryd.f3 := (Option.some.inj (Tryd.func3.symm.trans hfn)).symm
      exact ⟨by kernel_rfl, fun j t ht => by
        rw [Tryd.params3] at ht
        have hm : t ∈ [22] := by simpa using Array.mem_of_getElem? ht
        have hall : ([22].all fun u => !Tryd.prog.wantsStandIn u) = true := by kernel_rfl
        exact (show Tryd.prog.wantsStandIn t = false by simpa using List.all_eq_true.1 hall t hm)⟩)
    (by kernel_rfl)
end Go.Proofs.YtopjdidigfdhbaaDoor.fnLaterStamped
