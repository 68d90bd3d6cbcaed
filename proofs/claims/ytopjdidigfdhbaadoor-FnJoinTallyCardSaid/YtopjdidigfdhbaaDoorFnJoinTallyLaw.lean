/- FnJoinTally: a tally that was counted on, joined with what it was, is itself; the order does not matter. The card ties the listed variables to the program's text; the law's road does not look into them. -/
import Derived.Test.YtopjdidigfdhbaaDoorOpenD
import Derived.Test.YtopjdidigfdhbaaDoorDraw7
import Derived.Test.YtopjdidigfdhbaaDoorSameT
import Derived.Test.YtopjdidigfdhbaaDoorHeld
import Derived.Deep.RegionHeld3
import Derived.Deep.RegionWith
namespace Go.Proofs.YtopjdidigfdhbaaDoor.fnJoinTally
open Go.ChangeShapes Go.WideShapes Go.ChangeAt Go.RowKit

set_option linter.unusedSimpArgs false
set_option maxRecDepth 100000 in
set_option maxHeartbeats 32000000 in
theorem walk (A : Option Addr) (n c : Nat) (w : World) (hnc : n ≤ c) (hmx : c ≤ maxLen) (hb : BY w w.heap.size A n) :
    Calls Tryd.prog 6 #[.slice A n c] w fun e w' => e = .returned (.bool true) ∧ Below w.heap.size w w' := by
  by_cases hn : n ≤ 1048576
  · go_enter Tryd.func6, Tryd.ntmps6
    go_wp2_with fail
    refine (DrawJoinTally_c hnc hmx hb).mono ?_
    rintro e w1 ⟨A1, k1, c1, xs, A2, k2, c2, ys, A3, k3, c3, xs', A4, k4, c4, ys', rfl, o1, o2, o3, o4, b1⟩
    obtain ⟨p, hp⟩ : ∃ p, (tallyB xs ys && tallyB xs' ys') = p := ⟨_, rfl⟩
    have hem : p = false → jtU xs ys xs' ys' = [] := fun h => by rw [h] at hp; unfold jtU; rw [hp]; rfl
    have P := hide hp; have E := hide hem; clear hp hem
    have KA := (Blk.new w1 43 #[.slice A1 k1 c1, .slice A2 k2 c2]).alloc (.cells #[.slice A3 k3 c3, .slice A4 k4 c4] 43)
    have KB := Blk.new (w1.alloc (.cells #[.slice A1 k1 c1, .slice A2 k2 c2] 43)) 43 #[.slice A3 k3 c3, .slice A4 k4 c4]
    have b2 : Below w1.heap.size w1 ((w1.alloc (.cells #[.slice A1 k1 c1, .slice A2 k2 c2] 43)).alloc (.cells #[.slice A3 k3 c3, .slice A4 k4 c4] 43)) := (beB0 w1 _).alloc (by simp) _
    simp only [World.size_alloc] at KB
    have B2 := below_step b1 b2
    replace o1 := (o1.below b2).si
    replace o2 := (o2.below b2).si
    replace o3 := (o3.below b2).si
    replace o4 := (o4.below b2).si
    clear b1 b2
    go_wp2_with fail
    generalize ((w1.alloc (.cells #[.slice A1 k1 c1, .slice A2 k2 c2] 43)).alloc (.cells #[.slice A3 k3 c3, .slice A4 k4 c4] 43)) = w2 at *
    refine (impl_JoinTally_c o1 o2 o3 o4).mono ?_
    rintro e w3 ⟨A5, k5, c5, A6, k6, c6, rfl, o5, o6, _, b3⟩
    have B3 := below_step B2 b3
    have KX := Blk.new w3 43 #[.slice A5 k5 c5, .slice A6 k6 c6]
    have b4 := beB0 w3 (.cells #[.slice A5 k5 c5, .slice A6 k6 c6] 43)
    have B4 := below_step B3 b4
    replace o1 := (o1.below b3).below b4
    replace o2 := (o2.below b3).below b4
    replace o3 := (o3.below b3).below b4
    replace o4 := (o4.below b3).below b4
    replace o5 := (o5.below b4).si
    replace o6 := (o6.below b4).si
    replace KA := (KA.belowAll b3).belowAll b4
    replace KB := (KB.belowAll b3).belowAll b4
    clear b3 b4
    go_wp2_with fail
    generalize w3.alloc (.cells #[.slice A5 k5 c5, .slice A6 k6 c6] 43) = w4 at *
    have BZ : Below w4.heap.size w4 w4.drew := (Below.refl _ _).drew
    have hc : ∀ W, Below w4.heap.size w4 W → W.cell? ⟨w3.heap.size, 0, none⟩ = some (.slice A5 k5 c5) ∧ W.cell? ⟨w3.heap.size, 1, none⟩ = some (.slice A6 k6 c6) ∧ W.cell? ⟨w1.heap.size, 0, none⟩ = some (.slice A1 k1 c1) ∧ W.cell? ⟨w1.heap.size, 1, none⟩ = some (.slice A2 k2 c2) ∧ W.cell? ⟨w1.heap.size + 1, 0, none⟩ = some (.slice A3 k3 c3) ∧ W.cell? ⟨w1.heap.size + 1, 1, none⟩ = some (.slice A4 k4 c4) := fun W h => ⟨(KX.held2 h).1, (KX.held2 h).2, (KA.held2 h).1, (KA.held2 h).2, (KB.held2 h).1, (KB.held2 h).2⟩
    obtain ⟨kx0, kx1⟩ := KX.held2 (Below.refl _ _)
    obtain ⟨ka0, ka1⟩ := KA.held2 (Below.refl _ _)
    obtain ⟨kb0, kb1⟩ := KB.held2 (Below.refl _ _)
    have jc := jt_comm xs ys xs' ys'
    have JC1 := hide jc.1; have JC2 := hide jc.2
    clear jc
    go_region_held3 (fun W => W.cell? ⟨w3.heap.size, 0, none⟩ = some (.slice A5 k5 c5) ∧ W.cell? ⟨w3.heap.size, 1, none⟩ = some (.slice A6 k6 c6) ∧ W.cell? ⟨w1.heap.size, 0, none⟩ = some (.slice A1 k1 c1) ∧ W.cell? ⟨w1.heap.size, 1, none⟩ = some (.slice A2 k2 c2) ∧ W.cell? ⟨w1.heap.size + 1, 0, none⟩ = some (.slice A3 k3 c3) ∧ W.cell? ⟨w1.heap.size + 1, 1, none⟩ = some (.slice A4 k4 c4))
      (first | exact hc _ BZ)
      (first | (go_at_call 25; refine (spec_JoinTally_c (o1.below BZ) (o2.below BZ) (o3.below BZ) (o4.below BZ)).mono ?_; rintro e w5 ⟨A7, k7, c7, A8, k8, c8, rfl, o7, o8, _, b5⟩; replace BZ := below_step BZ b5; replace o7 := o7.si; replace o8 := o8.si) | (go_at_call 23; refine (impl_JoinTally_c (o3.below BZ) (o4.below BZ) (o1.below BZ) (o2.below BZ)).mono ?_; rintro e w7 ⟨A7, k7, c7, A8, k8, c8, rfl, o7, o8, _, b7⟩; replace BZ := below_step BZ b7; replace o7 := o7.si; replace o8 := o8.si; rw [JC1.out] at o7; rw [JC2.out] at o8) | (go_at_call 24; refine (sameTally_c (o5.below BZ) (o6.below BZ) o7 o8).mono ?_; rintro e w6 ⟨rfl, b6⟩; replace BZ := below_step BZ b6; rw [same2]))
    obtain ⟨c0, c1', d0, d1, e0, e1⟩ := hc _ BZ
    clear kx0 kx1 ka0 ka1 kb0 kb1 o7 o8 JC1 JC2
    cases p
    · have hk : k5 = 0 := by have := o5.len; rw [E.out rfl] at this; simpa using this.symm
      subst hk
      go_wp2_with fail
      refine (alive_c).mono ?_
      rintro e w7 ⟨rfl, b7⟩
      go_wp2_with fail
      go_ret
      exact ⟨rfl, below_step B4 (below_step BZ b7)⟩
    · obtain ⟨j1, j2, j3, j4⟩ := jt_law P.out
      have hk : k5 = 4 := by rw [← o5.len, j4]
      subst hk
      obtain ⟨q, hq⟩ : ∃ q, cntOk xs ys 2 true = q := ⟨_, rfl⟩
      have J1 := hide j1; have J2 := hide j2; have J3 := hide j3; have Q := hide hq; clear j1 j2 j3 j4 hq
      have B5 := below_step B4 BZ
      replace o1 := o1.below BZ
      replace o2 := o2.below BZ
      replace o5 := o5.below BZ
      replace o6 := o6.below BZ
      replace KA := KA.belowAll BZ
      replace KX := KX.belowAll BZ
      clear hc BZ
      go_wp2_with fail
      refine (impl_CountTally_c (who := 2) (up := true) o1 o2).mono ?_
      rintro e w7 ⟨A7, k7, c7, A8, k8, c8, rfl, o7, o8, _, b7⟩
      have B7 := below_step B5 b7
      rw [Q.out]
      have KZ := Blk.new w7 43 #[.slice A7 k7 c7, .slice A8 k8 c8]
      have b8 := beB0 w7 (.cells #[.slice A7 k7 c7, .slice A8 k8 c8] 43)
      have B8 := below_step B7 b8
      replace o1 := (o1.below b7).below b8
      replace o2 := (o2.below b7).below b8
      replace o5 := (o5.below b7).below b8
      replace o6 := (o6.below b7).below b8
      replace o7 := (o7.below b8).si
      replace o8 := (o8.below b8).si
      replace KA := (KA.belowAll b7).belowAll b8
      replace KX := (KX.belowAll b7).belowAll b8
      clear c0 c1' d0 d1 e0 e1
      clear b7 b8
      go_wp2_with fail
      generalize w7.alloc (.cells #[.slice A7 k7 c7, .slice A8 k8 c8] 43) = w8 at *
      have BZ : Below w8.heap.size w8 w8.drew := (Below.refl _ _).drew
      have hc : ∀ W, Below w8.heap.size w8 W → W.cell? ⟨w3.heap.size, 0, none⟩ = some (.slice A5 4 c5) ∧ W.cell? ⟨w3.heap.size, 1, none⟩ = some (.slice A6 k6 c6) ∧ W.cell? ⟨w1.heap.size, 0, none⟩ = some (.slice A1 k1 c1) ∧ W.cell? ⟨w1.heap.size, 1, none⟩ = some (.slice A2 k2 c2) ∧ W.cell? ⟨w7.heap.size, 0, none⟩ = some (.slice A7 k7 c7) ∧ W.cell? ⟨w7.heap.size, 1, none⟩ = some (.slice A8 k8 c8) := fun W h => ⟨(KX.held2 h).1, (KX.held2 h).2, (KA.held2 h).1, (KA.held2 h).2, (KZ.held2 h).1, (KZ.held2 h).2⟩
      obtain ⟨kx0, kx1, ka0, ka1, kz0, kz1⟩ := hc w8 (Below.refl _ _)
      cases q
      · refine wp_region_held_drew (S := (fun W => W.cell? ⟨w3.heap.size, 0, none⟩ = some (.slice A5 4 c5) ∧ W.cell? ⟨w3.heap.size, 1, none⟩ = some (.slice A6 k6 c6) ∧ W.cell? ⟨w1.heap.size, 0, none⟩ = some (.slice A1 k1 c1) ∧ W.cell? ⟨w1.heap.size, 1, none⟩ = some (.slice A2 k2 c2) ∧ W.cell? ⟨w7.heap.size, 0, none⟩ = some (.slice A7 k7 c7) ∧ W.cell? ⟨w7.heap.size, 1, none⟩ = some (.slice A8 k8 c8))) (by kernel_rfl) ?_ (fun hHeld => ?_)
        · exact hc _ BZ
        refine wpAnyH_take (i := 0) (v := ?vv0) (by rw [List.getElem?_toArray]; exact rfl) (by kernel_rfl) (by kernel_rfl) (by kernel_rfl) (by intro _ _ _ h; exact h) (Or.inl ⟨by rfl, ?hy0⟩) hHeld ?rest0
        case' hy0 => (intro w hSw; (try dsimp only at hSw); go_simp; try (with_reducible rfl))
        (try simp only [Act.put, List.setIfInBounds_toArray, List.set_cons_zero, List.set_cons_succ])
        refine wpAnyH_ready (rs := [1]) (by kernel_rfl) (by simp) ?_
        refine AllReadyH.cons (by rw [List.getElem?_toArray]; exact rfl) (fun K hK => ?_) AllReadyH.nil
        go_simp
        go_at_call 27
        refine (impl_TallyValid_c (o5.below BZ) (o6.below BZ)).mono ?_
        rintro e z1 ⟨rfl, bz1⟩
        replace BZ := below_step BZ bz1
        rw [J1.out]
        (try go_wp2_with fail)
        refine hK.out _ _ ?_ (fun hHeld => ?_)
        · exact hc _ BZ
        clear hK K
        (try simp only [Act.put, List.setIfInBounds_toArray, List.set_cons_zero, List.set_cons_succ])
        refine wpAnyH_take (i := 2) (v := ?vv2) (by rw [List.getElem?_toArray]; exact rfl) (by kernel_rfl) (by kernel_rfl) (by kernel_rfl) (by intro _ _ _ h; exact h) (Or.inl ⟨by rfl, ?hy2⟩) hHeld ?rest2
        case' hy2 => (intro w hSw; (try dsimp only at hSw); go_simp; try (with_reducible rfl))
        (try simp only [Act.put, List.setIfInBounds_toArray, List.set_cons_zero, List.set_cons_succ])
        refine wpAnyH_take (i := 3) (v := ?vv3) (by rw [List.getElem?_toArray]; exact rfl) (by kernel_rfl) (by kernel_rfl) (by kernel_rfl) (by intro _ _ _ h; exact h) (Or.inl ⟨by rfl, ?hy3⟩) hHeld ?rest3
        case' hy3 => (intro w hSw; (try dsimp only at hSw); go_simp; try (with_reducible rfl))
        (try simp only [Act.put, List.setIfInBounds_toArray, List.set_cons_zero, List.set_cons_succ])
        refine wpAnyH_take (i := 4) (v := ?vv4) (by rw [List.getElem?_toArray]; exact rfl) (by kernel_rfl) (by kernel_rfl) (by kernel_rfl) (by intro _ _ _ h; exact h) (Or.inl ⟨by rfl, ?hy4⟩) hHeld ?rest4
        case' hy4 => (intro w hSw; (try dsimp only at hSw); go_simp; try (with_reducible rfl))
        (try simp only [Act.put, List.setIfInBounds_toArray, List.set_cons_zero, List.set_cons_succ])
        refine wpAnyH_take (i := 6) (v := ?vv6) (by rw [List.getElem?_toArray]; exact rfl) (by kernel_rfl) (by kernel_rfl) (by kernel_rfl) (by intro _ _ _ h; exact h) (Or.inl ⟨by rfl, ?hy6⟩) hHeld ?rest6
        case' hy6 => (intro w hSw; (try dsimp only at hSw); go_simp; try (with_reducible rfl))
        (try simp only [Act.put, List.setIfInBounds_toArray, List.set_cons_zero, List.set_cons_succ])
        refine wpAnyH_ready (rs := [5]) (by kernel_rfl) (by simp) ?_
        refine AllReadyH.cons (by rw [List.getElem?_toArray]; exact rfl) (fun K hK => ?_) AllReadyH.nil
        go_simp
        go_at_call 23
        refine (impl_JoinTally_c (o5.below BZ) (o6.below BZ) (o1.below BZ) (o2.below BZ)).mono ?_
        rintro e z2 ⟨A9, k9, c9, A10, k10, c10, rfl, o9, o10, _, bz2⟩
        replace BZ := below_step BZ bz2
        replace o9 := o9.si
        replace o10 := o10.si
        rw [J2.out] at o9
        rw [J3.out] at o10
        (try go_wp2_with fail)
        refine hK.out _ _ ?_ (fun hHeld => ?_)
        · exact hc _ BZ
        clear hK K
        (try simp only [Act.put, List.setIfInBounds_toArray, List.set_cons_zero, List.set_cons_succ])
        refine wpAnyH_ready (rs := [7]) (by kernel_rfl) (by simp) ?_
        refine AllReadyH.cons (by rw [List.getElem?_toArray]; exact rfl) (fun K hK => ?_) AllReadyH.nil
        go_simp
        go_at_call 24
        refine (sameTally_c o9 o10 (o5.below BZ) (o6.below BZ)).mono ?_
        rintro e z3 ⟨rfl, bz3⟩
        replace BZ := below_step BZ bz3
        rw [same2]
        (try go_wp2_with fail)
        refine hK.out _ _ ?_ (fun hHeld => ?_)
        · exact hc _ BZ
        clear hK K
        (try simp only [Act.put, List.setIfInBounds_toArray, List.set_cons_zero, List.set_cons_succ])
        refine wpAnyH_take (i := 8) (v := ?vv8) (by rw [List.getElem?_toArray]; exact rfl) (by kernel_rfl) (by kernel_rfl) (by kernel_rfl) (by intro _ _ _ h; exact h) (Or.inl ⟨by rfl, ?hy8⟩) hHeld ?rest8
        case' hy8 => (intro w hSw; (try dsimp only at hSw); go_simp; try (with_reducible rfl))
        (try simp only [Act.put, List.setIfInBounds_toArray, List.set_cons_zero, List.set_cons_succ])
        refine wpAnyH_take (i := 9) (v := ?vv9) (by rw [List.getElem?_toArray]; exact rfl) (by kernel_rfl) (by kernel_rfl) (by kernel_rfl) (by intro _ _ _ h; exact h) (Or.inl ⟨by rfl, ?hy9⟩) hHeld ?rest9
        case' hy9 => (intro w hSw; (try dsimp only at hSw); go_simp; try (with_reducible rfl))
        (try simp only [Act.put, List.setIfInBounds_toArray, List.set_cons_zero, List.set_cons_succ])
        refine wpAnyH_take (i := 10) (v := ?vv10) (by rw [List.getElem?_toArray]; exact rfl) (by kernel_rfl) (by kernel_rfl) (by kernel_rfl) (by intro _ _ _ h; exact h) (Or.inl ⟨by rfl, ?hy10⟩) hHeld ?rest10
        case' hy10 => (intro w hSw; (try dsimp only at hSw); go_simp; try (with_reducible rfl))
        (try simp only [Act.put, List.setIfInBounds_toArray, List.set_cons_zero, List.set_cons_succ])
        refine wpAnyH_take (i := 11) (v := ?vv11) (by rw [List.getElem?_toArray]; exact rfl) (by kernel_rfl) (by kernel_rfl) (by kernel_rfl) (by intro _ _ _ h; exact h) (Or.inl ⟨by rfl, ?hy11⟩) hHeld ?rest11
        case' hy11 => (intro w hSw; (try dsimp only at hSw); go_simp; try (with_reducible rfl))
        (try simp only [Act.put, List.setIfInBounds_toArray, List.set_cons_zero, List.set_cons_succ])
        refine wpAnyH_take (i := 12) (v := ?vv12) (by rw [List.getElem?_toArray]; exact rfl) (by kernel_rfl) (by kernel_rfl) (by kernel_rfl) (by intro _ _ _ h; exact h) (Or.inl ⟨by rfl, ?hy12⟩) hHeld ?rest12
        case' hy12 => (intro w hSw; (try dsimp only at hSw); go_simp; try (with_reducible rfl))
        (try simp only [Act.put, List.setIfInBounds_toArray, List.set_cons_zero, List.set_cons_succ])
        refine wpAnyH_take (i := 13) (by rw [List.getElem?_toArray]; exact rfl) (by kernel_rfl) (by kernel_rfl) (by kernel_rfl) (by intro _ _ _ h; exact h) (Or.inr ⟨by rfl, rfl⟩) hHeld ?_
        (try simp only [Act.put, List.setIfInBounds_toArray, List.set_cons_zero, List.set_cons_succ])
        refine wpAnyH_take (i := 14) (by rw [List.getElem?_toArray]; exact rfl) (by kernel_rfl) (by kernel_rfl) (by kernel_rfl) (by intro _ _ _ h; exact h) (Or.inr ⟨by rfl, rfl⟩) hHeld ?_
        (try simp only [Act.put, List.setIfInBounds_toArray, List.set_cons_zero, List.set_cons_succ])
        refine wpAnyH_take (i := 15) (by rw [List.getElem?_toArray]; exact rfl) (by kernel_rfl) (by kernel_rfl) (by kernel_rfl) (by intro _ _ _ h; exact h) (Or.inr ⟨by rfl, rfl⟩) hHeld ?_
        (try simp only [Act.put, List.setIfInBounds_toArray, List.set_cons_zero, List.set_cons_succ])
        refine wpAnyH_take (i := 16) (by rw [List.getElem?_toArray]; exact rfl) (by kernel_rfl) (by kernel_rfl) (by kernel_rfl) (by intro _ _ _ h; exact h) (Or.inr ⟨by rfl, rfl⟩) hHeld ?_
        (try simp only [Act.put, List.setIfInBounds_toArray, List.set_cons_zero, List.set_cons_succ])
        refine wpAnyH_take (i := 17) (by rw [List.getElem?_toArray]; exact rfl) (by kernel_rfl) (by kernel_rfl) (by kernel_rfl) (by intro _ _ _ h; exact h) (Or.inr ⟨by rfl, rfl⟩) hHeld ?_
        (try simp only [Act.put, List.setIfInBounds_toArray, List.set_cons_zero, List.set_cons_succ])
        refine wpAnyH_take (i := 18) (v := ?vv18) (by rw [List.getElem?_toArray]; exact rfl) (by kernel_rfl) (by kernel_rfl) (by kernel_rfl) (by intro _ _ _ h; exact h) (Or.inl ⟨by rfl, ?hy18⟩) hHeld ?rest18
        case' hy18 => (intro w hSw; (try dsimp only at hSw); go_simp; try (with_reducible rfl))
        (try simp only [Act.put, List.setIfInBounds_toArray, List.set_cons_zero, List.set_cons_succ])
        refine wpAnyH_take (i := 19) (v := ?vv19) (by rw [List.getElem?_toArray]; exact rfl) (by kernel_rfl) (by kernel_rfl) (by kernel_rfl) (by intro _ _ _ h; exact h) (Or.inl ⟨by rfl, ?hy19⟩) hHeld ?rest19
        case' hy19 => (intro w hSw; (try dsimp only at hSw); go_simp; try (with_reducible rfl))
        (try simp only [Act.put, List.setIfInBounds_toArray, List.set_cons_zero, List.set_cons_succ])
        refine wpAnyH_take (i := 20) (v := ?vv20) (by rw [List.getElem?_toArray]; exact rfl) (by kernel_rfl) (by kernel_rfl) (by kernel_rfl) (by intro _ _ _ h; exact h) (Or.inl ⟨by rfl, ?hy20⟩) hHeld ?rest20
        case' hy20 => (intro w hSw; (try dsimp only at hSw); go_simp; try (with_reducible rfl))
        (try simp only [Act.put, List.setIfInBounds_toArray, List.set_cons_zero, List.set_cons_succ])
        refine wpAnyH_done (by kernel_rfl) ?_ _
        go_wp2_with fail
        go_ret
        exact ⟨rfl, below_step B8 BZ⟩
      · obtain ⟨q1, q2⟩ := jt_cnt Q.out
        have Q1 := hide q1; have Q2 := hide q2; clear q1 q2
        go_region_held3 (fun W => W.cell? ⟨w3.heap.size, 0, none⟩ = some (.slice A5 4 c5) ∧ W.cell? ⟨w3.heap.size, 1, none⟩ = some (.slice A6 k6 c6) ∧ W.cell? ⟨w1.heap.size, 0, none⟩ = some (.slice A1 k1 c1) ∧ W.cell? ⟨w1.heap.size, 1, none⟩ = some (.slice A2 k2 c2) ∧ W.cell? ⟨w7.heap.size, 0, none⟩ = some (.slice A7 k7 c7) ∧ W.cell? ⟨w7.heap.size, 1, none⟩ = some (.slice A8 k8 c8))
          (first | exact hc _ BZ)
          (first | (go_at_call 27; refine (impl_TallyValid_c (o5.below BZ) (o6.below BZ)).mono ?_; rintro e z1 ⟨rfl, bz1⟩; replace BZ := below_step BZ bz1; rw [J1.out]) | (go_at_call_of 23 (Value.agg #[Value.slice A7 k7 c7, Value.slice A8 k8 c8]); refine (impl_JoinTally_c (o7.below BZ) (o8.below BZ) (o1.below BZ) (o2.below BZ)).mono ?_; rintro e z4 ⟨A11, k11, c11, A12, k12, c12, rfl, o11, o12, _, bz4⟩; replace BZ := below_step BZ bz4; replace o11 := o11.si; replace o12 := o12.si; rw [Q1.out] at o11; rw [Q2.out] at o12) | (go_at_call_of 24 (Value.agg #[Value.slice A7 k7 c7, Value.slice A8 k8 c8]); refine (sameTally_c o11 o12 (o7.below BZ) (o8.below BZ)).mono ?_; rintro e z5 ⟨rfl, bz5⟩; replace BZ := below_step BZ bz5; rw [same2]) | (go_at_call 23; refine (impl_JoinTally_c (o5.below BZ) (o6.below BZ) (o1.below BZ) (o2.below BZ)).mono ?_; rintro e z2 ⟨A9, k9, c9, A10, k10, c10, rfl, o9, o10, _, bz2⟩; replace BZ := below_step BZ bz2; replace o9 := o9.si; replace o10 := o10.si; rw [J2.out] at o9; rw [J3.out] at o10) | (go_at_call 24; refine (sameTally_c o9 o10 (o5.below BZ) (o6.below BZ)).mono ?_; rintro e z3 ⟨rfl, bz3⟩; replace BZ := below_step BZ bz3; rw [same2]))
        go_wp2_with fail
        go_ret
        exact ⟨rfl, below_step B8 BZ⟩
  · go_enter Tryd.func6, Tryd.ntmps6
    go_wp2_with fail
    go_ret
    exact ⟨rfl, Below.refl _ _⟩

theorem door_met (os : Os) (args : Array Value) : laidMetH Tryd.prog Rows.fnJoinTallyRow.laid ((World.doorLaid Tryd.prog 24 os).forCall (fun _ _ => 0) ⟨#[], args, []⟩).memory :=
  laidMetH_of_parts3 (fuel := 8) (laidMet_of_run' 8 (by kernel_rfl) (by kernel_rfl)) (by kernel_rfl) (by kernel_rfl)
set_option maxRecDepth 100000 in
theorem lifted (os : Os) (started : os.Started) (H : Type) (enc : TypeId × Value → H) :
    ReturnsInHanded {} Tryd.checked os 6 .any (fun w args => (Rows.fnJoinTallySpec.pre enc Tryd.prog Tryd.f6 [] false w args ∧ laidMetH Tryd.prog Rows.fnJoinTallyRow.laid w) ∧ sizedMet enc Tryd.prog Tryd.f6 (OpenSpec.ofChange Rows.fnJoinTallySpec) false w args)
      (Rows.fnJoinTallySpec.post enc Tryd.prog Tryd.f6 false true false false) := by
  refine returnsInHanded_of_change_and (C := Tryd.checked) (X := fun w _ => laidMetH Tryd.prog Rows.fnJoinTallyRow.laid w) (fun _ _ _ hh h => h.of_heap hh) own started (by kernel_rfl) Tryd.func6
    (ChangeSpec.witness_shaped (enc := enc) (C := Tryd.checked) (os := os) (X := fun w _ => laidMetH Tryd.prog Rows.fnJoinTallyRow.laid w) false (World.doorLaid Tryd.prog 24 os) #[.slice none 0 0] 8 rfl (World.shaped_of_RefB (by kernel_rfl) (by kernel_rfl)) (by kernel_rfl) (by kernel_rfl) (by kernel_rfl) (door_met os _)) ?_
  intro W base args ds gs before hval0 hW _ _ _ _
  have hval : ∀ (j : Nat) t v, Tryd.f6.params[j]? = some t → args[j]? = some v → Value.okWide Tryd.prog W .any base t v := hval0
  have hW' := hW
  obtain ⟨p, q, hA0, hV, rfl, hfz, hnd⟩ := hW
  have hA : DataW.TrodAll enc Tryd.prog W 0 (fun _ => true) true Tryd.f6.params.toList args.toList ds p := hA0
  rw [Tryd.params6] at hA hval
  obtain ⟨v0, vs0, d0, ds0, p0, q0, hargs, rfl, rfl, h0, r0⟩ := trodAll_cons hA
  obtain ⟨rfl, rfl, rfl⟩ := trodAll_nil r0
  obtain rfl : args = #[v0] := by cases args; simp_all
  obtain ⟨rfl, rfl⟩ := trodVars_none hV
  have k0 := h0
  have lt0 : ∀ x ∈ p0, x.block < W.heap.size := by obtain ⟨m, hm⟩ := k0; exact DataW.trod_lt m _ _ _ hm
  obtain ⟨A0, n0, c0, rfl, hnc0, hmx0, R0⟩ := open_bytesA (hval 0 22 v0 rfl rfl) h0
  clear hA0 hval0
  refine (walk A0 n0 c0 W hnc0 hmx0 R0).mono fun e W' ⟨he, bel⟩ => ?_
  subst he
  exact ⟨_, rfl, _, _, _, [], _, [], hW', trodAll_mk1 (shut_bool Tryd.underlying4 _), (trodAll_cons_mk (Below.trod laidOut (by kernel_rfl) (of_decide_eq_true (by kernel_rfl)) k0 bel lt0) trodAll_mk0), rfl, bel.frame _, fun h => by cases h⟩
theorem row_holds : Rows.FnJoinTallySaid :=
  OpenClaim.holds_of_wide 6 Tryd.f6 rfl rfl rfl rfl rfl rfl rfl ⟨rfl, rfl, rfl, rfl, rfl⟩ rfl rfl rfl rfl rfl (by kernel_rfl) Tryd.func6 (by kernel_rfl)
    (of_decide_eq_true (by kernel_rfl)) (by unfold Func.isWrapper; first | (rw [if_pos (by decide +kernel)]; kernel_rfl) | (rw [if_neg (by decide +kernel)]; exact ⟨rfl, rfl⟩))
    (fun os started H enc _ => lifted os started H enc)
theorem proved : Rows.FnJoinTallyCardSaid :=
  Claim7.holds_tied_plain_at .later [] [.data, .data, .data] true (true, "750ad089a0909c8e2fda4b82ce8af6d79673fc2283ed16af9c51f11c2587aea3") false
    row_holds (fun _ h => by cases h) (by kernel_rfl) (fun _ h => by cases h) fnJoinTally_row_tie rfl ⟨rfl, rfl⟩ (by kernel_rfl) rfl
    (fun f fn hf hfn => by
      obtain rfl : f = 6 := Option.some.inj ((show Tryd.prog.funcNamed "loop.example/historychecker/laws.FnJoinTally" = some 6 by kernel_rfl).symm.trans hf) |>.symm
      obtain rfl : fn = Tryd.f6 := (Option.some.inj (Tryd.func6.symm.trans hfn)).symm
      exact ⟨by kernel_rfl, fun j t ht => by
        rw [Tryd.params6] at ht
        have hm : t ∈ [22] := by simpa using Array.mem_of_getElem? ht
        have hall : ([22].all fun u => !Tryd.prog.wantsStandIn u) = true := by kernel_rfl
        exact (show Tryd.prog.wantsStandIn t = false by simpa using List.all_eq_true.1 hall t hm)⟩)
    (by kernel_rfl)
end Go.Proofs.YtopjdidigfdhbaaDoor.fnJoinTally
