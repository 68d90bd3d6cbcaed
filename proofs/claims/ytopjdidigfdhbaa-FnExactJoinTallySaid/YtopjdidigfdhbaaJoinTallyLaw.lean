/- FnExactJoinTally: for all arguments the program's JoinTally returns what the reference's returns, and leaves its arguments as they are; its result shares no memory with them or with another result. -/
import Derived.Test.YtopjdidigfdhbaaTally4
import Derived.Test.YtopjdidigfdhbaaOpen
import Derived.Deep.RegionHeld3
namespace Go.Proofs.Ytopjdidigfdhbaa.exactJoinTally
open Go.ChangeShapes Go.WideShapes Go.ChangeAt Go.RowKit

theorem balloc {a b : World} (h : Below a.heap.size a b) (o : Obj) : Below a.heap.size a (b.alloc o) := h.alloc h.size o
theorem sd (X : World) : X.drew.heap.size = X.heap.size := rfl
theorem sdn (X : World) (n : Nat) : (X.drewN n).heap.size = X.heap.size := rfl

set_option linter.unusedSimpArgs false
set_option maxRecDepth 8000 in
set_option maxHeartbeats 16000000 in
theorem walk (A0 : Option Addr) (n0 c0 : Nat) (xs0 : List Int) (Z0 : Option Addr) (m0 d0 : Nat) (ys0 : List Int) (A1 : Option Addr) (n1 c1 : Nat) (xs1 : List Int) (Z1 : Option Addr) (m1 d1 : Nat) (ys1 : List Int) (w : World)
    (hnc0 : n0 ≤ c0) (hmx0 : c0 ≤ maxLen) (R0 : RI w A0 n0 xs0) (gnc0 : m0 ≤ d0) (gmx0 : d0 ≤ maxLen) (T0 : RI w Z0 m0 ys0) (hnc1 : n1 ≤ c1) (hmx1 : c1 ≤ maxLen) (R1 : RI w A1 n1 xs1) (gnc1 : m1 ≤ d1) (gmx1 : d1 ≤ maxLen) (T1 : RI w Z1 m1 ys1) :
    Calls Try.prog 3 #[.agg #[.slice A0 n0 c0, .slice Z0 m0 d0], .agg #[.slice A1 n1 c1, .slice Z1 m1 d1]] w fun e w' => e = .returned (.bool true) ∧ Below w.heap.size w w' := by
  have a0 : ∀ (a b : Nat), (0 : Int) ≤ (a : Int) + (b : Int) := fun a b => by omega
  obtain ⟨L0, hL0⟩ : ∃ L : Int, L = szR 1048576 ((n0 : Int) + m0) := ⟨_, rfl⟩
  have l0b := szR_le 1048576 ((n0 : Int) + m0) (by omega) (by omega)
  rw [← hL0] at l0b
  have HL0 := hide hL0
  by_cases l0 : 0 ≤ L0
  · have z0 := szR_ok (hL0 ▸ l0)
    have hn0 : n0 ≤ 1048576 := by omega
    have hm0 : m0 ≤ 1048576 := by omega
    have e0 : L0 = 1048576 - ((n0 : Int) + m0) := by rw [hL0]; exact z0.2
    have hE0 : L0 ≤ 1048576 := by omega
    have hS0 : (n0 : Int) + m0 ≤ 1048576 := by omega
    clear z0 e0 hL0
    obtain ⟨L1, hL1⟩ : ∃ L : Int, L = szR L0 ((n1 : Int) + m1) := ⟨_, rfl⟩
    have l1b := szR_le L0 ((n1 : Int) + m1) (by omega) (by omega)
    rw [← hL1] at l1b
    have HL1 := hide hL1
    by_cases l1 : 0 ≤ L1
    · have z1 := szR_ok (hL1 ▸ l1)
      have hn1 : n1 ≤ 1048576 := by omega
      have hm1 : m1 ≤ 1048576 := by omega
      have e1 : L1 = L0 - ((n1 : Int) + m1) := by rw [hL1]; exact z1.2
      have hE1 : L1 ≤ L0 := by omega
      have hS1 : (n1 : Int) + m1 ≤ 1048576 := by omega
      clear z1 e1 hL1
      clear a0
      have b1 : Below w.heap.size w ((w.alloc (.cells #[.slice A0 n0 c0, .slice Z0 m0 d0] 24)).alloc (.cells #[.slice A1 n1 c1, .slice Z1 m1 d1] 24)) := (((Below.refl _ _).alloc (by simp <;> omega) _).alloc (by simp <;> omega) _)
      have KA0 := (Blk.new w 24 #[(.slice A0 n0 c0), (.slice Z0 m0 d0)]).alloc (.cells #[.slice A1 n1 c1, .slice Z1 m1 d1] 24)
      have KA1 := Blk.new (w.alloc (.cells #[.slice A0 n0 c0, .slice Z0 m0 d0] 24)) 24 #[(.slice A1 n1 c1), (.slice Z1 m1 d1)]
      simp only [World.size_alloc] at KA1
      go_enter Try.func3, Try.ntmps3
      go_wp2_with fail
      generalize ((w.alloc (.cells #[.slice A0 n0 c0, .slice Z0 m0 d0] 24)).alloc (.cells #[.slice A1 n1 c1, .slice Z1 m1 d1] 24)) = w1 at *
      have B1 := b1
      have cA00 : w1.cell? ⟨w.heap.size, 0, none⟩ = some (.slice A0 n0 c0) := KA0.cell 0
      have dA00 : ∀ o, (w1.alloc o).cell? ⟨w.heap.size, 0, none⟩ = some (.slice A0 n0 c0) := fun o => (KA0.alloc o).cell 0
      have cA01 : w1.cell? ⟨w.heap.size, 1, none⟩ = some (.slice Z0 m0 d0) := KA0.cell 1
      have dA01 : ∀ o, (w1.alloc o).cell? ⟨w.heap.size, 1, none⟩ = some (.slice Z0 m0 d0) := fun o => (KA0.alloc o).cell 1
      have cA10 : w1.cell? ⟨w.heap.size + 1, 0, none⟩ = some (.slice A1 n1 c1) := KA1.cell 0
      have dA10 : ∀ o, (w1.alloc o).cell? ⟨w.heap.size + 1, 0, none⟩ = some (.slice A1 n1 c1) := fun o => (KA1.alloc o).cell 0
      have cA11 : w1.cell? ⟨w.heap.size + 1, 1, none⟩ = some (.slice Z1 m1 d1) := KA1.cell 1
      have dA11 : ∀ o, (w1.alloc o).cell? ⟨w.heap.size + 1, 1, none⟩ = some (.slice Z1 m1 d1) := fun o => (KA1.alloc o).cell 1
      refine (szTally_c (by omega) (by omega) (by omega) (by omega)).mono ?_
      rintro e w2 ⟨rfl, b2⟩
      clear cA00 dA00 cA01 dA01 cA10 dA10 cA11 dA11
      have B2 := below_step B1 b2
      replace KA0 := KA0.belowAll b2
      replace KA1 := KA1.belowAll b2
      have cA00 : w2.cell? ⟨w.heap.size, 0, none⟩ = some (.slice A0 n0 c0) := KA0.cell 0
      have dA00 : ∀ o, (w2.alloc o).cell? ⟨w.heap.size, 0, none⟩ = some (.slice A0 n0 c0) := fun o => (KA0.alloc o).cell 0
      have cA01 : w2.cell? ⟨w.heap.size, 1, none⟩ = some (.slice Z0 m0 d0) := KA0.cell 1
      have dA01 : ∀ o, (w2.alloc o).cell? ⟨w.heap.size, 1, none⟩ = some (.slice Z0 m0 d0) := fun o => (KA0.alloc o).cell 1
      have cA10 : w2.cell? ⟨w.heap.size + 1, 0, none⟩ = some (.slice A1 n1 c1) := KA1.cell 0
      have dA10 : ∀ o, (w2.alloc o).cell? ⟨w.heap.size + 1, 0, none⟩ = some (.slice A1 n1 c1) := fun o => (KA1.alloc o).cell 0
      have cA11 : w2.cell? ⟨w.heap.size + 1, 1, none⟩ = some (.slice Z1 m1 d1) := KA1.cell 1
      have dA11 : ∀ o, (w2.alloc o).cell? ⟨w.heap.size + 1, 1, none⟩ = some (.slice Z1 m1 d1) := fun o => (KA1.alloc o).cell 1
      rw [← HL0.out]
      go_wp2_with fail
      refine (szTally_c (by omega) (by omega) (by omega) (by omega)).mono ?_
      rintro e w3 ⟨rfl, b3⟩
      clear cA00 dA00 cA01 dA01 cA10 dA10 cA11 dA11
      have B3 := below_step B2 b3
      replace KA0 := KA0.belowAll b3
      replace KA1 := KA1.belowAll b3
      have cA00 : w3.cell? ⟨w.heap.size, 0, none⟩ = some (.slice A0 n0 c0) := KA0.cell 0
      have dA00 : ∀ o, (w3.alloc o).cell? ⟨w.heap.size, 0, none⟩ = some (.slice A0 n0 c0) := fun o => (KA0.alloc o).cell 0
      have cA01 : w3.cell? ⟨w.heap.size, 1, none⟩ = some (.slice Z0 m0 d0) := KA0.cell 1
      have dA01 : ∀ o, (w3.alloc o).cell? ⟨w.heap.size, 1, none⟩ = some (.slice Z0 m0 d0) := fun o => (KA0.alloc o).cell 1
      have cA10 : w3.cell? ⟨w.heap.size + 1, 0, none⟩ = some (.slice A1 n1 c1) := KA1.cell 0
      have dA10 : ∀ o, (w3.alloc o).cell? ⟨w.heap.size + 1, 0, none⟩ = some (.slice A1 n1 c1) := fun o => (KA1.alloc o).cell 0
      have cA11 : w3.cell? ⟨w.heap.size + 1, 1, none⟩ = some (.slice Z1 m1 d1) := KA1.cell 1
      have dA11 : ∀ o, (w3.alloc o).cell? ⟨w.heap.size + 1, 1, none⟩ = some (.slice Z1 m1 d1) := fun o => (KA1.alloc o).cell 1
      rw [← HL1.out]
      go_wp2_with fail
      have la0 := KA0.lt
      have la1 := KA1.lt
      go_upto_region 8 with fail
      go_cut [6] (fun s wx => ∃ (g : Nat) (A : Option Addr) (n c : Nat) (B : Option Addr) (m d : Nat), s = .pointer (some ⟨g, 0, none⟩) ∧ Blk wx g 26 #[.slice A n c, .slice B m d] ∧ OI wx w3.heap.size (.slice A n c) n (jtU xs0 ys0 xs1 ys1) ∧ OI wx w3.heap.size (.slice B m d) m (jtD xs0 ys0 xs1 ys1) ∧ Apart (.slice A n c) (.slice B m d) ∧ Below w3.heap.size w3 wx)
      case first =>
        have sa0 := (SI.of_args hnc0 hn0 (R0.below B3)).drew; have sb0 := (SI.of_args gnc0 hm0 (T0.below B3)).drew
        have sa1 := (SI.of_args hnc1 hn1 (R1.below B3)).drew; have sb1 := (SI.of_args gnc1 hm1 (T1.below B3)).drew
        go_region_held3 (fun W => W.cell? ⟨w.heap.size, 0, none⟩ = some (.slice A0 n0 c0) ∧ W.cell? ⟨w.heap.size, 1, none⟩ = some (.slice Z0 m0 d0) ∧ W.cell? ⟨w.heap.size + 1, 0, none⟩ = some (.slice A1 n1 c1) ∧ W.cell? ⟨w.heap.size + 1, 1, none⟩ = some (.slice Z1 m1 d1))
          (first | (go_keep; done) | (go_split_ands; refine ⟨?_, ?_, ?_, ?_⟩ <;> (first | (rw [byy.cell (by have := la0; have := la1; have s0 := by0.size; (try simp only [World.size_alloc, sd, sdn] at s0); have s1 := by1.size; (try simp only [World.size_alloc, sd, sdn] at s1); (try simp only [World.size_alloc, sd, sdn]); omega)]; assumption) | (rw [by0.cell (by have := la0; have := la1; (try simp only [World.size_alloc, sd, sdn]); omega)]; assumption) | (rw [by1.cell (by have := la0; have := la1; have s0 := by0.size; (try simp only [World.size_alloc, sd, sdn] at s0); (try simp only [World.size_alloc, sd, sdn]); omega)]; assumption) | exact (alloc_swap (by show _ < _; have := la0; have := la1; have s0 := by0.size; (try simp only [World.size_alloc, sd, sdn] at s0); have s1 := by1.size; (try simp only [World.size_alloc, sd, sdn] at s1); have sy := byy.size; (try simp only [World.size_alloc, sd, sdn] at sy); (try simp only [World.size_alloc, sd, sdn]); omega)).trans (by assumption) | exact (cell_set2 (by have := la0; have := la1; have s0 := by0.size; (try simp only [World.size_alloc, sd, sdn] at s0); have s1 := by1.size; (try simp only [World.size_alloc, sd, sdn] at s1); have sy := byy.size; (try simp only [World.size_alloc, sd, sdn] at sy); (try simp only [World.size_alloc, sd, sdn]); omega) _ _).trans (by assumption))))
          (first | (go_at_call_of 8 (Value.agg #[Value.slice A0 n0 c0, Value.slice Z0 m0 d0]); refine (toTally_c (by first | exact sa0 | exact (sa0.alloc _)) (by first | exact sb0 | exact (sb0.alloc _))).mono ?_; rintro e y0 ⟨U0, p0, h0, V0, r0, l0, rfl, ou0, ov0, ax0, by0⟩) | (go_at_call_of 8 (Value.agg #[Value.slice A1 n1 c1, Value.slice Z1 m1 d1]); refine (toTally_c (by first | exact (sa1.below by0) | exact ((sa1.alloc _).below by0) | exact ((sa1.below by0).alloc _)) (by first | exact (sb1.below by0) | exact ((sb1.alloc _).below by0) | exact ((sb1.below by0).alloc _))).mono ?_; rintro e y1 ⟨U1, p1, h1, V1, r1, l1, rfl, ou1, ov1, ax1, by1⟩) | (go_at_call 7; refine (spec_JoinTally_c (by first | exact (ou0.below by1).si | exact ((ou0.alloc _).below by1).si | exact ((ou0.below by1).alloc _).si) (by first | exact (ov0.below by1).si | exact ((ov0.alloc _).below by1).si | exact ((ov0.below by1).alloc _).si) (by first | exact ou1.si | exact (ou1.alloc _).si) (by first | exact ov1.si | exact (ov1.alloc _).si)).mono ?_; rintro e yy ⟨UU, pp, hh, VV, rr, ll, rfl, ouu, ovv, axx, byy⟩; (first | (have KK := (((Blk.new w3.drew 26 #[.slice none 0 0, .slice none 0 0]).belowAll by0).belowAll by1).belowAll byy; obtain ⟨kc0, kc1, kf0, kf1⟩ := KK.two; (try simp only [sd, sdn] at kc0 kc1 kf0 kf1)) | (have KK := ((Blk.new y0 26 #[.slice none 0 0, .slice none 0 0]).belowAll by1).belowAll byy; obtain ⟨kc0, kc1, kf0, kf1⟩ := KK.two; (try simp only [sd, sdn] at kc0 kc1 kf0 kf1)) | (have KK := (Blk.new y1 26 #[.slice none 0 0, .slice none 0 0]).belowAll byy; obtain ⟨kc0, kc1, kf0, kf1⟩ := KK.two; (try simp only [sd, sdn] at kc0 kc1 kf0 kf1)) | skip)))
        all_goals go_wp2_with fail
        all_goals go_meet
        all_goals have bk : Below w3.heap.size w3 w3.drew := (Below.refl _ _).drew
        all_goals (first | (have CB := (below_step (below_step (balloc bk (.cells #[.slice none 0 0, .slice none 0 0] 26)) by0) by1); have bl := CB.size; refine ⟨_, _, _, _, _, _, _, rfl, (KK.set_ 0 _).set_ 1 _, ((ouu.set_low ?_ _).set_low ?_ _).mono bl, ((ovv.set_low ?_ _).set_low ?_ _).mono bl, axx, ((below_step CB byy).setCell ?_ _).setCell ?_ _⟩ <;> ((try dsimp only); have := la0; have := la1; have s0 := by0.size; (try simp only [World.size_alloc, sd, sdn] at s0); have s1 := by1.size; (try simp only [World.size_alloc, sd, sdn] at s1); (try simp only [World.size_alloc, sd, sdn]); omega)) | (have CB := (below_step (balloc (below_step bk by0) (.cells #[.slice none 0 0, .slice none 0 0] 26)) by1); have bl := CB.size; refine ⟨_, _, _, _, _, _, _, rfl, (KK.set_ 0 _).set_ 1 _, ((ouu.set_low ?_ _).set_low ?_ _).mono bl, ((ovv.set_low ?_ _).set_low ?_ _).mono bl, axx, ((below_step CB byy).setCell ?_ _).setCell ?_ _⟩ <;> ((try dsimp only); have := la0; have := la1; have s0 := by0.size; (try simp only [World.size_alloc, sd, sdn] at s0); have s1 := by1.size; (try simp only [World.size_alloc, sd, sdn] at s1); (try simp only [World.size_alloc, sd, sdn]); omega)) | (have CB := (balloc (below_step (below_step bk by0) by1) (.cells #[.slice none 0 0, .slice none 0 0] 26)); have bl := CB.size; refine ⟨_, _, _, _, _, _, _, rfl, (KK.set_ 0 _).set_ 1 _, ((ouu.set_low ?_ _).set_low ?_ _).mono bl, ((ovv.set_low ?_ _).set_low ?_ _).mono bl, axx, ((below_step CB byy).setCell ?_ _).setCell ?_ _⟩ <;> ((try dsimp only); have := la0; have := la1; have s0 := by0.size; (try simp only [World.size_alloc, sd, sdn] at s0); have s1 := by1.size; (try simp only [World.size_alloc, sd, sdn] at s1); (try simp only [World.size_alloc, sd, sdn]); omega)) | (have CB := (below_step (below_step bk by0) by1); have bl := CB.size; exact ⟨_, _, _, _, _, _, _, rfl, Blk.new _ _ _, (ouu.alloc _).mono bl, (ovv.alloc _).mono bl, axx, balloc (below_step CB byy) _⟩))
      case rest =>
        obtain ⟨qW, A'1, p1, e1, A'2, p2, e2, rfl, KW, o1, o2, ap1_2, b4⟩ := hcut
        clear la0 la1
        rename World => w4
        have bl1 : w.heap.size ≤ w3.heap.size := B3.size
        have bl2 : w.heap.size ≤ w3.heap.size := B3.size
        clear cA00 dA00 cA01 dA01 cA10 dA10 cA11 dA11
        have B4 := below_step B3 b4
        replace KA0 := KA0.belowAll b4
        replace KA1 := KA1.belowAll b4
        have cA00 : w4.cell? ⟨w.heap.size, 0, none⟩ = some (.slice A0 n0 c0) := KA0.cell 0
        have dA00 : ∀ o, (w4.alloc o).cell? ⟨w.heap.size, 0, none⟩ = some (.slice A0 n0 c0) := fun o => (KA0.alloc o).cell 0
        have cA01 : w4.cell? ⟨w.heap.size, 1, none⟩ = some (.slice Z0 m0 d0) := KA0.cell 1
        have dA01 : ∀ o, (w4.alloc o).cell? ⟨w.heap.size, 1, none⟩ = some (.slice Z0 m0 d0) := fun o => (KA0.alloc o).cell 1
        have cA10 : w4.cell? ⟨w.heap.size + 1, 0, none⟩ = some (.slice A1 n1 c1) := KA1.cell 0
        have dA10 : ∀ o, (w4.alloc o).cell? ⟨w.heap.size + 1, 0, none⟩ = some (.slice A1 n1 c1) := fun o => (KA1.alloc o).cell 0
        have cA11 : w4.cell? ⟨w.heap.size + 1, 1, none⟩ = some (.slice Z1 m1 d1) := KA1.cell 1
        have dA11 : ∀ o, (w4.alloc o).cell? ⟨w.heap.size + 1, 1, none⟩ = some (.slice Z1 m1 d1) := fun o => (KA1.alloc o).cell 1
        have cW0 : w4.cell? ⟨qW, 0, none⟩ = some (.slice A'1 p1 e1) := KW.cell 0
        have dW0 : ∀ o, (w4.alloc o).cell? ⟨qW, 0, none⟩ = some (.slice A'1 p1 e1) := fun o => (KW.alloc o).cell 0
        have cW1 : w4.cell? ⟨qW, 1, none⟩ = some (.slice A'2 p2 e2) := KW.cell 1
        have dW1 : ∀ o, (w4.alloc o).cell? ⟨qW, 1, none⟩ = some (.slice A'2 p2 e2) := fun o => (KW.alloc o).cell 1
        go_wp2_with fail
        refine (toTally_c (SI.of_args hnc0 hn0 (R0.below B4)) (SI.of_args gnc0 hm0 (T0.below B4))).mono ?_
        rintro e w5 ⟨A'3, p3, e3, A'4, p4, e4, rfl, o3, o4, ap3_4, b5⟩
        have bl3 : w.heap.size ≤ w4.heap.size := B4.size
        have bl4 : w.heap.size ≤ w4.heap.size := B4.size
        clear cA00 dA00 cA01 dA01 cA10 dA10 cA11 dA11 cW0 dW0 cW1 dW1
        have B5 := below_step B4 b5
        have ap1_3 := OI.apart o1 o3
        have ap2_3 := OI.apart o2 o3
        have ap1_4 := OI.apart o1 o4
        have ap2_4 := OI.apart o2 o4
        replace o1 := o1.below b5
        replace o2 := o2.below b5
        replace KA0 := KA0.belowAll b5
        replace KA1 := KA1.belowAll b5
        replace KW := KW.belowAll b5
        have cA00 : w5.cell? ⟨w.heap.size, 0, none⟩ = some (.slice A0 n0 c0) := KA0.cell 0
        have dA00 : ∀ o, (w5.alloc o).cell? ⟨w.heap.size, 0, none⟩ = some (.slice A0 n0 c0) := fun o => (KA0.alloc o).cell 0
        have cA01 : w5.cell? ⟨w.heap.size, 1, none⟩ = some (.slice Z0 m0 d0) := KA0.cell 1
        have dA01 : ∀ o, (w5.alloc o).cell? ⟨w.heap.size, 1, none⟩ = some (.slice Z0 m0 d0) := fun o => (KA0.alloc o).cell 1
        have cA10 : w5.cell? ⟨w.heap.size + 1, 0, none⟩ = some (.slice A1 n1 c1) := KA1.cell 0
        have dA10 : ∀ o, (w5.alloc o).cell? ⟨w.heap.size + 1, 0, none⟩ = some (.slice A1 n1 c1) := fun o => (KA1.alloc o).cell 0
        have cA11 : w5.cell? ⟨w.heap.size + 1, 1, none⟩ = some (.slice Z1 m1 d1) := KA1.cell 1
        have dA11 : ∀ o, (w5.alloc o).cell? ⟨w.heap.size + 1, 1, none⟩ = some (.slice Z1 m1 d1) := fun o => (KA1.alloc o).cell 1
        have cW0 : w5.cell? ⟨qW, 0, none⟩ = some (.slice A'1 p1 e1) := KW.cell 0
        have dW0 : ∀ o, (w5.alloc o).cell? ⟨qW, 0, none⟩ = some (.slice A'1 p1 e1) := fun o => (KW.alloc o).cell 0
        have cW1 : w5.cell? ⟨qW, 1, none⟩ = some (.slice A'2 p2 e2) := KW.cell 1
        have dW1 : ∀ o, (w5.alloc o).cell? ⟨qW, 1, none⟩ = some (.slice A'2 p2 e2) := fun o => (KW.alloc o).cell 1
        go_wp2_with fail
        have b6 : Below w5.heap.size w5 (w5.alloc (.cells #[(.slice A'3 p3 e3), (.slice A'4 p4 e4)] 26)) := (Below.refl _ _).alloc (Nat.le_refl _) _
        have KX0 := Blk.new w5 26 #[(.slice A'3 p3 e3), (.slice A'4 p4 e4)]
        have B6 := below_step B5 b6
        replace o1 := o1.below b6
        replace o2 := o2.below b6
        replace o3 := o3.below b6
        replace o4 := o4.below b6
        replace KA0 := KA0.belowAll b6
        replace KA1 := KA1.belowAll b6
        replace KW := KW.belowAll b6
        generalize w5.alloc (.cells #[(.slice A'3 p3 e3), (.slice A'4 p4 e4)] 26) = w6 at *
        clear cA00 dA00 cA01 dA01 cA10 dA10 cA11 dA11 cW0 dW0 cW1 dW1
        have cA00 : w6.cell? ⟨w.heap.size, 0, none⟩ = some (.slice A0 n0 c0) := KA0.cell 0
        have dA00 : ∀ o, (w6.alloc o).cell? ⟨w.heap.size, 0, none⟩ = some (.slice A0 n0 c0) := fun o => (KA0.alloc o).cell 0
        have cA01 : w6.cell? ⟨w.heap.size, 1, none⟩ = some (.slice Z0 m0 d0) := KA0.cell 1
        have dA01 : ∀ o, (w6.alloc o).cell? ⟨w.heap.size, 1, none⟩ = some (.slice Z0 m0 d0) := fun o => (KA0.alloc o).cell 1
        have cA10 : w6.cell? ⟨w.heap.size + 1, 0, none⟩ = some (.slice A1 n1 c1) := KA1.cell 0
        have dA10 : ∀ o, (w6.alloc o).cell? ⟨w.heap.size + 1, 0, none⟩ = some (.slice A1 n1 c1) := fun o => (KA1.alloc o).cell 0
        have cA11 : w6.cell? ⟨w.heap.size + 1, 1, none⟩ = some (.slice Z1 m1 d1) := KA1.cell 1
        have dA11 : ∀ o, (w6.alloc o).cell? ⟨w.heap.size + 1, 1, none⟩ = some (.slice Z1 m1 d1) := fun o => (KA1.alloc o).cell 1
        have cW0 : w6.cell? ⟨qW, 0, none⟩ = some (.slice A'1 p1 e1) := KW.cell 0
        have dW0 : ∀ o, (w6.alloc o).cell? ⟨qW, 0, none⟩ = some (.slice A'1 p1 e1) := fun o => (KW.alloc o).cell 0
        have cW1 : w6.cell? ⟨qW, 1, none⟩ = some (.slice A'2 p2 e2) := KW.cell 1
        have dW1 : ∀ o, (w6.alloc o).cell? ⟨qW, 1, none⟩ = some (.slice A'2 p2 e2) := fun o => (KW.alloc o).cell 1
        have cX00 : w6.cell? ⟨w5.heap.size, 0, none⟩ = some (.slice A'3 p3 e3) := KX0.cell 0
        have dX00 : ∀ o, (w6.alloc o).cell? ⟨w5.heap.size, 0, none⟩ = some (.slice A'3 p3 e3) := fun o => (KX0.alloc o).cell 0
        have cX01 : w6.cell? ⟨w5.heap.size, 1, none⟩ = some (.slice A'4 p4 e4) := KX0.cell 1
        have dX01 : ∀ o, (w6.alloc o).cell? ⟨w5.heap.size, 1, none⟩ = some (.slice A'4 p4 e4) := fun o => (KX0.alloc o).cell 1
        refine (toTally_c (SI.of_args hnc1 hn1 (R1.below B6)) (SI.of_args gnc1 hm1 (T1.below B6))).mono ?_
        rintro e w7 ⟨A'5, p5, e5, A'6, p6, e6, rfl, o5, o6, ap5_6, b7⟩
        have bl5 : w.heap.size ≤ w6.heap.size := B6.size
        have bl6 : w.heap.size ≤ w6.heap.size := B6.size
        clear cA00 dA00 cA01 dA01 cA10 dA10 cA11 dA11 cW0 dW0 cW1 dW1 cX00 dX00 cX01 dX01
        have B7 := below_step B6 b7
        have ap1_5 := OI.apart o1 o5
        have ap2_5 := OI.apart o2 o5
        have ap3_5 := OI.apart o3 o5
        have ap4_5 := OI.apart o4 o5
        have ap1_6 := OI.apart o1 o6
        have ap2_6 := OI.apart o2 o6
        have ap3_6 := OI.apart o3 o6
        have ap4_6 := OI.apart o4 o6
        replace o1 := o1.below b7
        replace o2 := o2.below b7
        replace o3 := o3.below b7
        replace o4 := o4.below b7
        replace KA0 := KA0.belowAll b7
        replace KA1 := KA1.belowAll b7
        replace KW := KW.belowAll b7
        replace KX0 := KX0.belowAll b7
        have cA00 : w7.cell? ⟨w.heap.size, 0, none⟩ = some (.slice A0 n0 c0) := KA0.cell 0
        have dA00 : ∀ o, (w7.alloc o).cell? ⟨w.heap.size, 0, none⟩ = some (.slice A0 n0 c0) := fun o => (KA0.alloc o).cell 0
        have cA01 : w7.cell? ⟨w.heap.size, 1, none⟩ = some (.slice Z0 m0 d0) := KA0.cell 1
        have dA01 : ∀ o, (w7.alloc o).cell? ⟨w.heap.size, 1, none⟩ = some (.slice Z0 m0 d0) := fun o => (KA0.alloc o).cell 1
        have cA10 : w7.cell? ⟨w.heap.size + 1, 0, none⟩ = some (.slice A1 n1 c1) := KA1.cell 0
        have dA10 : ∀ o, (w7.alloc o).cell? ⟨w.heap.size + 1, 0, none⟩ = some (.slice A1 n1 c1) := fun o => (KA1.alloc o).cell 0
        have cA11 : w7.cell? ⟨w.heap.size + 1, 1, none⟩ = some (.slice Z1 m1 d1) := KA1.cell 1
        have dA11 : ∀ o, (w7.alloc o).cell? ⟨w.heap.size + 1, 1, none⟩ = some (.slice Z1 m1 d1) := fun o => (KA1.alloc o).cell 1
        have cW0 : w7.cell? ⟨qW, 0, none⟩ = some (.slice A'1 p1 e1) := KW.cell 0
        have dW0 : ∀ o, (w7.alloc o).cell? ⟨qW, 0, none⟩ = some (.slice A'1 p1 e1) := fun o => (KW.alloc o).cell 0
        have cW1 : w7.cell? ⟨qW, 1, none⟩ = some (.slice A'2 p2 e2) := KW.cell 1
        have dW1 : ∀ o, (w7.alloc o).cell? ⟨qW, 1, none⟩ = some (.slice A'2 p2 e2) := fun o => (KW.alloc o).cell 1
        have cX00 : w7.cell? ⟨w5.heap.size, 0, none⟩ = some (.slice A'3 p3 e3) := KX0.cell 0
        have dX00 : ∀ o, (w7.alloc o).cell? ⟨w5.heap.size, 0, none⟩ = some (.slice A'3 p3 e3) := fun o => (KX0.alloc o).cell 0
        have cX01 : w7.cell? ⟨w5.heap.size, 1, none⟩ = some (.slice A'4 p4 e4) := KX0.cell 1
        have dX01 : ∀ o, (w7.alloc o).cell? ⟨w5.heap.size, 1, none⟩ = some (.slice A'4 p4 e4) := fun o => (KX0.alloc o).cell 1
        go_wp2_with fail
        have b8 : Below w7.heap.size w7 (w7.alloc (.cells #[(.slice A'5 p5 e5), (.slice A'6 p6 e6)] 26)) := (Below.refl _ _).alloc (Nat.le_refl _) _
        have KX1 := Blk.new w7 26 #[(.slice A'5 p5 e5), (.slice A'6 p6 e6)]
        have B8 := below_step B7 b8
        replace o1 := o1.below b8
        replace o2 := o2.below b8
        replace o3 := o3.below b8
        replace o4 := o4.below b8
        replace o5 := o5.below b8
        replace o6 := o6.below b8
        replace KA0 := KA0.belowAll b8
        replace KA1 := KA1.belowAll b8
        replace KW := KW.belowAll b8
        replace KX0 := KX0.belowAll b8
        generalize w7.alloc (.cells #[(.slice A'5 p5 e5), (.slice A'6 p6 e6)] 26) = w8 at *
        clear cA00 dA00 cA01 dA01 cA10 dA10 cA11 dA11 cW0 dW0 cW1 dW1 cX00 dX00 cX01 dX01
        have cA00 : w8.cell? ⟨w.heap.size, 0, none⟩ = some (.slice A0 n0 c0) := KA0.cell 0
        have dA00 : ∀ o, (w8.alloc o).cell? ⟨w.heap.size, 0, none⟩ = some (.slice A0 n0 c0) := fun o => (KA0.alloc o).cell 0
        have cA01 : w8.cell? ⟨w.heap.size, 1, none⟩ = some (.slice Z0 m0 d0) := KA0.cell 1
        have dA01 : ∀ o, (w8.alloc o).cell? ⟨w.heap.size, 1, none⟩ = some (.slice Z0 m0 d0) := fun o => (KA0.alloc o).cell 1
        have cA10 : w8.cell? ⟨w.heap.size + 1, 0, none⟩ = some (.slice A1 n1 c1) := KA1.cell 0
        have dA10 : ∀ o, (w8.alloc o).cell? ⟨w.heap.size + 1, 0, none⟩ = some (.slice A1 n1 c1) := fun o => (KA1.alloc o).cell 0
        have cA11 : w8.cell? ⟨w.heap.size + 1, 1, none⟩ = some (.slice Z1 m1 d1) := KA1.cell 1
        have dA11 : ∀ o, (w8.alloc o).cell? ⟨w.heap.size + 1, 1, none⟩ = some (.slice Z1 m1 d1) := fun o => (KA1.alloc o).cell 1
        have cW0 : w8.cell? ⟨qW, 0, none⟩ = some (.slice A'1 p1 e1) := KW.cell 0
        have dW0 : ∀ o, (w8.alloc o).cell? ⟨qW, 0, none⟩ = some (.slice A'1 p1 e1) := fun o => (KW.alloc o).cell 0
        have cW1 : w8.cell? ⟨qW, 1, none⟩ = some (.slice A'2 p2 e2) := KW.cell 1
        have dW1 : ∀ o, (w8.alloc o).cell? ⟨qW, 1, none⟩ = some (.slice A'2 p2 e2) := fun o => (KW.alloc o).cell 1
        have cX00 : w8.cell? ⟨w5.heap.size, 0, none⟩ = some (.slice A'3 p3 e3) := KX0.cell 0
        have dX00 : ∀ o, (w8.alloc o).cell? ⟨w5.heap.size, 0, none⟩ = some (.slice A'3 p3 e3) := fun o => (KX0.alloc o).cell 0
        have cX01 : w8.cell? ⟨w5.heap.size, 1, none⟩ = some (.slice A'4 p4 e4) := KX0.cell 1
        have dX01 : ∀ o, (w8.alloc o).cell? ⟨w5.heap.size, 1, none⟩ = some (.slice A'4 p4 e4) := fun o => (KX0.alloc o).cell 1
        have cX10 : w8.cell? ⟨w7.heap.size, 0, none⟩ = some (.slice A'5 p5 e5) := KX1.cell 0
        have dX10 : ∀ o, (w8.alloc o).cell? ⟨w7.heap.size, 0, none⟩ = some (.slice A'5 p5 e5) := fun o => (KX1.alloc o).cell 0
        have cX11 : w8.cell? ⟨w7.heap.size, 1, none⟩ = some (.slice A'6 p6 e6) := KX1.cell 1
        have dX11 : ∀ o, (w8.alloc o).cell? ⟨w7.heap.size, 1, none⟩ = some (.slice A'6 p6 e6) := fun o => (KX1.alloc o).cell 1
        refine (impl_JoinTally_c o3.si o4.si o5.si o6.si).mono ?_
        rintro e w9 ⟨A'7, p7, e7, A'8, p8, e8, rfl, o7, o8, ap7_8, b9⟩
        have bl7 : w.heap.size ≤ w8.heap.size := B8.size
        have bl8 : w.heap.size ≤ w8.heap.size := B8.size
        clear cA00 dA00 cA01 dA01 cA10 dA10 cA11 dA11 cW0 dW0 cW1 dW1 cX00 dX00 cX01 dX01 cX10 dX10 cX11 dX11
        have B9 := below_step B8 b9
        have ap1_7 := OI.apart o1 o7
        have ap2_7 := OI.apart o2 o7
        have ap3_7 := OI.apart o3 o7
        have ap4_7 := OI.apart o4 o7
        have ap5_7 := OI.apart o5 o7
        have ap6_7 := OI.apart o6 o7
        have ap1_8 := OI.apart o1 o8
        have ap2_8 := OI.apart o2 o8
        have ap3_8 := OI.apart o3 o8
        have ap4_8 := OI.apart o4 o8
        have ap5_8 := OI.apart o5 o8
        have ap6_8 := OI.apart o6 o8
        replace o1 := o1.below b9
        replace o2 := o2.below b9
        replace o3 := o3.below b9
        replace o4 := o4.below b9
        replace o5 := o5.below b9
        replace o6 := o6.below b9
        replace KA0 := KA0.belowAll b9
        replace KA1 := KA1.belowAll b9
        replace KW := KW.belowAll b9
        replace KX0 := KX0.belowAll b9
        replace KX1 := KX1.belowAll b9
        have cA00 : w9.cell? ⟨w.heap.size, 0, none⟩ = some (.slice A0 n0 c0) := KA0.cell 0
        have dA00 : ∀ o, (w9.alloc o).cell? ⟨w.heap.size, 0, none⟩ = some (.slice A0 n0 c0) := fun o => (KA0.alloc o).cell 0
        have cA01 : w9.cell? ⟨w.heap.size, 1, none⟩ = some (.slice Z0 m0 d0) := KA0.cell 1
        have dA01 : ∀ o, (w9.alloc o).cell? ⟨w.heap.size, 1, none⟩ = some (.slice Z0 m0 d0) := fun o => (KA0.alloc o).cell 1
        have cA10 : w9.cell? ⟨w.heap.size + 1, 0, none⟩ = some (.slice A1 n1 c1) := KA1.cell 0
        have dA10 : ∀ o, (w9.alloc o).cell? ⟨w.heap.size + 1, 0, none⟩ = some (.slice A1 n1 c1) := fun o => (KA1.alloc o).cell 0
        have cA11 : w9.cell? ⟨w.heap.size + 1, 1, none⟩ = some (.slice Z1 m1 d1) := KA1.cell 1
        have dA11 : ∀ o, (w9.alloc o).cell? ⟨w.heap.size + 1, 1, none⟩ = some (.slice Z1 m1 d1) := fun o => (KA1.alloc o).cell 1
        have cW0 : w9.cell? ⟨qW, 0, none⟩ = some (.slice A'1 p1 e1) := KW.cell 0
        have dW0 : ∀ o, (w9.alloc o).cell? ⟨qW, 0, none⟩ = some (.slice A'1 p1 e1) := fun o => (KW.alloc o).cell 0
        have cW1 : w9.cell? ⟨qW, 1, none⟩ = some (.slice A'2 p2 e2) := KW.cell 1
        have dW1 : ∀ o, (w9.alloc o).cell? ⟨qW, 1, none⟩ = some (.slice A'2 p2 e2) := fun o => (KW.alloc o).cell 1
        have cX00 : w9.cell? ⟨w5.heap.size, 0, none⟩ = some (.slice A'3 p3 e3) := KX0.cell 0
        have dX00 : ∀ o, (w9.alloc o).cell? ⟨w5.heap.size, 0, none⟩ = some (.slice A'3 p3 e3) := fun o => (KX0.alloc o).cell 0
        have cX01 : w9.cell? ⟨w5.heap.size, 1, none⟩ = some (.slice A'4 p4 e4) := KX0.cell 1
        have dX01 : ∀ o, (w9.alloc o).cell? ⟨w5.heap.size, 1, none⟩ = some (.slice A'4 p4 e4) := fun o => (KX0.alloc o).cell 1
        have cX10 : w9.cell? ⟨w7.heap.size, 0, none⟩ = some (.slice A'5 p5 e5) := KX1.cell 0
        have dX10 : ∀ o, (w9.alloc o).cell? ⟨w7.heap.size, 0, none⟩ = some (.slice A'5 p5 e5) := fun o => (KX1.alloc o).cell 0
        have cX11 : w9.cell? ⟨w7.heap.size, 1, none⟩ = some (.slice A'6 p6 e6) := KX1.cell 1
        have dX11 : ∀ o, (w9.alloc o).cell? ⟨w7.heap.size, 1, none⟩ = some (.slice A'6 p6 e6) := fun o => (KX1.alloc o).cell 1
        go_wp2_with fail
        have b10 : Below w9.heap.size w9 (w9.alloc (.cells #[(.slice A'7 p7 e7), (.slice A'8 p8 e8)] 26)) := (Below.refl _ _).alloc (Nat.le_refl _) _
        have KG := Blk.new w9 26 #[(.slice A'7 p7 e7), (.slice A'8 p8 e8)]
        have B10 := below_step B9 b10
        replace o1 := o1.below b10
        replace o2 := o2.below b10
        replace o3 := o3.below b10
        replace o4 := o4.below b10
        replace o5 := o5.below b10
        replace o6 := o6.below b10
        replace o7 := o7.below b10
        replace o8 := o8.below b10
        replace KA0 := KA0.belowAll b10
        replace KA1 := KA1.belowAll b10
        replace KW := KW.belowAll b10
        replace KX0 := KX0.belowAll b10
        replace KX1 := KX1.belowAll b10
        generalize w9.alloc (.cells #[(.slice A'7 p7 e7), (.slice A'8 p8 e8)] 26) = w10 at *
        clear cA00 dA00 cA01 dA01 cA10 dA10 cA11 dA11 cW0 dW0 cW1 dW1 cX00 dX00 cX01 dX01 cX10 dX10 cX11 dX11
        have cA00 : w10.cell? ⟨w.heap.size, 0, none⟩ = some (.slice A0 n0 c0) := KA0.cell 0
        have dA00 : ∀ o, (w10.alloc o).cell? ⟨w.heap.size, 0, none⟩ = some (.slice A0 n0 c0) := fun o => (KA0.alloc o).cell 0
        have cA01 : w10.cell? ⟨w.heap.size, 1, none⟩ = some (.slice Z0 m0 d0) := KA0.cell 1
        have dA01 : ∀ o, (w10.alloc o).cell? ⟨w.heap.size, 1, none⟩ = some (.slice Z0 m0 d0) := fun o => (KA0.alloc o).cell 1
        have cA10 : w10.cell? ⟨w.heap.size + 1, 0, none⟩ = some (.slice A1 n1 c1) := KA1.cell 0
        have dA10 : ∀ o, (w10.alloc o).cell? ⟨w.heap.size + 1, 0, none⟩ = some (.slice A1 n1 c1) := fun o => (KA1.alloc o).cell 0
        have cA11 : w10.cell? ⟨w.heap.size + 1, 1, none⟩ = some (.slice Z1 m1 d1) := KA1.cell 1
        have dA11 : ∀ o, (w10.alloc o).cell? ⟨w.heap.size + 1, 1, none⟩ = some (.slice Z1 m1 d1) := fun o => (KA1.alloc o).cell 1
        have cW0 : w10.cell? ⟨qW, 0, none⟩ = some (.slice A'1 p1 e1) := KW.cell 0
        have dW0 : ∀ o, (w10.alloc o).cell? ⟨qW, 0, none⟩ = some (.slice A'1 p1 e1) := fun o => (KW.alloc o).cell 0
        have cW1 : w10.cell? ⟨qW, 1, none⟩ = some (.slice A'2 p2 e2) := KW.cell 1
        have dW1 : ∀ o, (w10.alloc o).cell? ⟨qW, 1, none⟩ = some (.slice A'2 p2 e2) := fun o => (KW.alloc o).cell 1
        have cX00 : w10.cell? ⟨w5.heap.size, 0, none⟩ = some (.slice A'3 p3 e3) := KX0.cell 0
        have dX00 : ∀ o, (w10.alloc o).cell? ⟨w5.heap.size, 0, none⟩ = some (.slice A'3 p3 e3) := fun o => (KX0.alloc o).cell 0
        have cX01 : w10.cell? ⟨w5.heap.size, 1, none⟩ = some (.slice A'4 p4 e4) := KX0.cell 1
        have dX01 : ∀ o, (w10.alloc o).cell? ⟨w5.heap.size, 1, none⟩ = some (.slice A'4 p4 e4) := fun o => (KX0.alloc o).cell 1
        have cX10 : w10.cell? ⟨w7.heap.size, 0, none⟩ = some (.slice A'5 p5 e5) := KX1.cell 0
        have dX10 : ∀ o, (w10.alloc o).cell? ⟨w7.heap.size, 0, none⟩ = some (.slice A'5 p5 e5) := fun o => (KX1.alloc o).cell 0
        have cX11 : w10.cell? ⟨w7.heap.size, 1, none⟩ = some (.slice A'6 p6 e6) := KX1.cell 1
        have dX11 : ∀ o, (w10.alloc o).cell? ⟨w7.heap.size, 1, none⟩ = some (.slice A'6 p6 e6) := fun o => (KX1.alloc o).cell 1
        have cG0 : w10.cell? ⟨w9.heap.size, 0, none⟩ = some (.slice A'7 p7 e7) := KG.cell 0
        have dG0 : ∀ o, (w10.alloc o).cell? ⟨w9.heap.size, 0, none⟩ = some (.slice A'7 p7 e7) := fun o => (KG.alloc o).cell 0
        have cG1 : w10.cell? ⟨w9.heap.size, 1, none⟩ = some (.slice A'8 p8 e8) := KG.cell 1
        have dG1 : ∀ o, (w10.alloc o).cell? ⟨w9.heap.size, 1, none⟩ = some (.slice A'8 p8 e8) := fun o => (KG.alloc o).cell 1
        refine (eqTally_c o7.si o8.si o1.si o2.si).mono ?_
        rintro e w11 ⟨rfl, b11⟩
        clear cA00 dA00 cA01 dA01 cA10 dA10 cA11 dA11 cW0 dW0 cW1 dW1 cX00 dX00 cX01 dX01 cX10 dX10 cX11 dX11 cG0 dG0 cG1 dG1
        have B11 := below_step B10 b11
        replace o1 := o1.below b11
        replace o2 := o2.below b11
        replace o3 := o3.below b11
        replace o4 := o4.below b11
        replace o5 := o5.below b11
        replace o6 := o6.below b11
        replace o7 := o7.below b11
        replace o8 := o8.below b11
        replace KA0 := KA0.belowAll b11
        replace KA1 := KA1.belowAll b11
        replace KW := KW.belowAll b11
        replace KX0 := KX0.belowAll b11
        replace KX1 := KX1.belowAll b11
        replace KG := KG.belowAll b11
        have cA00 : w11.cell? ⟨w.heap.size, 0, none⟩ = some (.slice A0 n0 c0) := KA0.cell 0
        have dA00 : ∀ o, (w11.alloc o).cell? ⟨w.heap.size, 0, none⟩ = some (.slice A0 n0 c0) := fun o => (KA0.alloc o).cell 0
        have cA01 : w11.cell? ⟨w.heap.size, 1, none⟩ = some (.slice Z0 m0 d0) := KA0.cell 1
        have dA01 : ∀ o, (w11.alloc o).cell? ⟨w.heap.size, 1, none⟩ = some (.slice Z0 m0 d0) := fun o => (KA0.alloc o).cell 1
        have cA10 : w11.cell? ⟨w.heap.size + 1, 0, none⟩ = some (.slice A1 n1 c1) := KA1.cell 0
        have dA10 : ∀ o, (w11.alloc o).cell? ⟨w.heap.size + 1, 0, none⟩ = some (.slice A1 n1 c1) := fun o => (KA1.alloc o).cell 0
        have cA11 : w11.cell? ⟨w.heap.size + 1, 1, none⟩ = some (.slice Z1 m1 d1) := KA1.cell 1
        have dA11 : ∀ o, (w11.alloc o).cell? ⟨w.heap.size + 1, 1, none⟩ = some (.slice Z1 m1 d1) := fun o => (KA1.alloc o).cell 1
        have cW0 : w11.cell? ⟨qW, 0, none⟩ = some (.slice A'1 p1 e1) := KW.cell 0
        have dW0 : ∀ o, (w11.alloc o).cell? ⟨qW, 0, none⟩ = some (.slice A'1 p1 e1) := fun o => (KW.alloc o).cell 0
        have cW1 : w11.cell? ⟨qW, 1, none⟩ = some (.slice A'2 p2 e2) := KW.cell 1
        have dW1 : ∀ o, (w11.alloc o).cell? ⟨qW, 1, none⟩ = some (.slice A'2 p2 e2) := fun o => (KW.alloc o).cell 1
        have cX00 : w11.cell? ⟨w5.heap.size, 0, none⟩ = some (.slice A'3 p3 e3) := KX0.cell 0
        have dX00 : ∀ o, (w11.alloc o).cell? ⟨w5.heap.size, 0, none⟩ = some (.slice A'3 p3 e3) := fun o => (KX0.alloc o).cell 0
        have cX01 : w11.cell? ⟨w5.heap.size, 1, none⟩ = some (.slice A'4 p4 e4) := KX0.cell 1
        have dX01 : ∀ o, (w11.alloc o).cell? ⟨w5.heap.size, 1, none⟩ = some (.slice A'4 p4 e4) := fun o => (KX0.alloc o).cell 1
        have cX10 : w11.cell? ⟨w7.heap.size, 0, none⟩ = some (.slice A'5 p5 e5) := KX1.cell 0
        have dX10 : ∀ o, (w11.alloc o).cell? ⟨w7.heap.size, 0, none⟩ = some (.slice A'5 p5 e5) := fun o => (KX1.alloc o).cell 0
        have cX11 : w11.cell? ⟨w7.heap.size, 1, none⟩ = some (.slice A'6 p6 e6) := KX1.cell 1
        have dX11 : ∀ o, (w11.alloc o).cell? ⟨w7.heap.size, 1, none⟩ = some (.slice A'6 p6 e6) := fun o => (KX1.alloc o).cell 1
        have cG0 : w11.cell? ⟨w9.heap.size, 0, none⟩ = some (.slice A'7 p7 e7) := KG.cell 0
        have dG0 : ∀ o, (w11.alloc o).cell? ⟨w9.heap.size, 0, none⟩ = some (.slice A'7 p7 e7) := fun o => (KG.alloc o).cell 0
        have cG1 : w11.cell? ⟨w9.heap.size, 1, none⟩ = some (.slice A'8 p8 e8) := KG.cell 1
        have dG1 : ∀ o, (w11.alloc o).cell? ⟨w9.heap.size, 1, none⟩ = some (.slice A'8 p8 e8) := fun o => (KG.alloc o).cell 1
        go_wp2_with fail
        have lx := KX0.lt; have la := KA0.lt
        go_region_held3 (fun W => W.cell? ⟨w5.heap.size, 0, none⟩ = some (.slice A'3 p3 e3) ∧ W.cell? ⟨w5.heap.size, 1, none⟩ = some (.slice A'4 p4 e4) ∧ W.cell? ⟨w.heap.size, 0, none⟩ = some (.slice A0 n0 c0) ∧ W.cell? ⟨w.heap.size, 1, none⟩ = some (.slice Z0 m0 d0))
          (first | (go_keep; done) | (go_split_ands; refine ⟨?_, ?_, ?_, ?_⟩ <;> (rw [b13.cell (by have := b12.size; simp at this ⊢; omega)]; assumption)) | (go_split_ands; refine ⟨?_, ?_, ?_, ?_⟩ <;> (rw [b12.cell (by simp <;> omega)]; assumption)))
          (first | (go_at_call 8; refine (toTally_c (SI.of_args hnc0 hn0 (R0.below B11)).drew (SI.of_args gnc0 hm0 (T0.below B11)).drew).mono ?_; rintro e w12 ⟨A'9, p9, e9, A'10, p10, e10, rfl, o9, o10, ap9_10, b12⟩) | (go_at_call 10; refine (eqTally_c (o3.drew.below b12).si (o4.drew.below b12).si o9.si o10.si).mono ?_; rintro e w13 ⟨rfl, b13⟩))
        replace b12 := below_of_drew b12
        clear o9 o10 lx la ap9_10
        clear cA00 dA00 cA01 dA01 cA10 dA10 cA11 dA11 cW0 dW0 cW1 dW1 cX00 dX00 cX01 dX01 cX10 dX10 cX11 dX11 cG0 dG0 cG1 dG1
        have B12 := below_step B11 b12
        replace o1 := o1.below b12
        replace o2 := o2.below b12
        replace o3 := o3.below b12
        replace o4 := o4.below b12
        replace o5 := o5.below b12
        replace o6 := o6.below b12
        replace o7 := o7.below b12
        replace o8 := o8.below b12
        replace KA0 := KA0.belowAll b12
        replace KA1 := KA1.belowAll b12
        replace KW := KW.belowAll b12
        replace KX0 := KX0.belowAll b12
        replace KX1 := KX1.belowAll b12
        replace KG := KG.belowAll b12
        have B13 := below_step B12 b13
        replace o1 := o1.below b13
        replace o2 := o2.below b13
        replace o3 := o3.below b13
        replace o4 := o4.below b13
        replace o5 := o5.below b13
        replace o6 := o6.below b13
        replace o7 := o7.below b13
        replace o8 := o8.below b13
        replace KA0 := KA0.belowAll b13
        replace KA1 := KA1.belowAll b13
        replace KW := KW.belowAll b13
        replace KX0 := KX0.belowAll b13
        replace KX1 := KX1.belowAll b13
        replace KG := KG.belowAll b13
        have cA00 : w13.cell? ⟨w.heap.size, 0, none⟩ = some (.slice A0 n0 c0) := KA0.cell 0
        have dA00 : ∀ o, (w13.alloc o).cell? ⟨w.heap.size, 0, none⟩ = some (.slice A0 n0 c0) := fun o => (KA0.alloc o).cell 0
        have cA01 : w13.cell? ⟨w.heap.size, 1, none⟩ = some (.slice Z0 m0 d0) := KA0.cell 1
        have dA01 : ∀ o, (w13.alloc o).cell? ⟨w.heap.size, 1, none⟩ = some (.slice Z0 m0 d0) := fun o => (KA0.alloc o).cell 1
        have cA10 : w13.cell? ⟨w.heap.size + 1, 0, none⟩ = some (.slice A1 n1 c1) := KA1.cell 0
        have dA10 : ∀ o, (w13.alloc o).cell? ⟨w.heap.size + 1, 0, none⟩ = some (.slice A1 n1 c1) := fun o => (KA1.alloc o).cell 0
        have cA11 : w13.cell? ⟨w.heap.size + 1, 1, none⟩ = some (.slice Z1 m1 d1) := KA1.cell 1
        have dA11 : ∀ o, (w13.alloc o).cell? ⟨w.heap.size + 1, 1, none⟩ = some (.slice Z1 m1 d1) := fun o => (KA1.alloc o).cell 1
        have cW0 : w13.cell? ⟨qW, 0, none⟩ = some (.slice A'1 p1 e1) := KW.cell 0
        have dW0 : ∀ o, (w13.alloc o).cell? ⟨qW, 0, none⟩ = some (.slice A'1 p1 e1) := fun o => (KW.alloc o).cell 0
        have cW1 : w13.cell? ⟨qW, 1, none⟩ = some (.slice A'2 p2 e2) := KW.cell 1
        have dW1 : ∀ o, (w13.alloc o).cell? ⟨qW, 1, none⟩ = some (.slice A'2 p2 e2) := fun o => (KW.alloc o).cell 1
        have cX00 : w13.cell? ⟨w5.heap.size, 0, none⟩ = some (.slice A'3 p3 e3) := KX0.cell 0
        have dX00 : ∀ o, (w13.alloc o).cell? ⟨w5.heap.size, 0, none⟩ = some (.slice A'3 p3 e3) := fun o => (KX0.alloc o).cell 0
        have cX01 : w13.cell? ⟨w5.heap.size, 1, none⟩ = some (.slice A'4 p4 e4) := KX0.cell 1
        have dX01 : ∀ o, (w13.alloc o).cell? ⟨w5.heap.size, 1, none⟩ = some (.slice A'4 p4 e4) := fun o => (KX0.alloc o).cell 1
        have cX10 : w13.cell? ⟨w7.heap.size, 0, none⟩ = some (.slice A'5 p5 e5) := KX1.cell 0
        have dX10 : ∀ o, (w13.alloc o).cell? ⟨w7.heap.size, 0, none⟩ = some (.slice A'5 p5 e5) := fun o => (KX1.alloc o).cell 0
        have cX11 : w13.cell? ⟨w7.heap.size, 1, none⟩ = some (.slice A'6 p6 e6) := KX1.cell 1
        have dX11 : ∀ o, (w13.alloc o).cell? ⟨w7.heap.size, 1, none⟩ = some (.slice A'6 p6 e6) := fun o => (KX1.alloc o).cell 1
        have cG0 : w13.cell? ⟨w9.heap.size, 0, none⟩ = some (.slice A'7 p7 e7) := KG.cell 0
        have dG0 : ∀ o, (w13.alloc o).cell? ⟨w9.heap.size, 0, none⟩ = some (.slice A'7 p7 e7) := fun o => (KG.alloc o).cell 0
        have cG1 : w13.cell? ⟨w9.heap.size, 1, none⟩ = some (.slice A'8 p8 e8) := KG.cell 1
        have dG1 : ∀ o, (w13.alloc o).cell? ⟨w9.heap.size, 1, none⟩ = some (.slice A'8 p8 e8) := fun o => (KG.alloc o).cell 1
        go_wp2_with fail
        have lx := KX1.lt; have la := KA1.lt
        go_region_held3 (fun W => W.cell? ⟨w7.heap.size, 0, none⟩ = some (.slice A'5 p5 e5) ∧ W.cell? ⟨w7.heap.size, 1, none⟩ = some (.slice A'6 p6 e6) ∧ W.cell? ⟨w.heap.size + 1, 0, none⟩ = some (.slice A1 n1 c1) ∧ W.cell? ⟨w.heap.size + 1, 1, none⟩ = some (.slice Z1 m1 d1))
          (first | (go_keep; done) | (go_split_ands; refine ⟨?_, ?_, ?_, ?_⟩ <;> (rw [b15.cell (by have := b14.size; simp at this ⊢; omega)]; assumption)) | (go_split_ands; refine ⟨?_, ?_, ?_, ?_⟩ <;> (rw [b14.cell (by simp <;> omega)]; assumption)))
          (first | (go_at_call 8; refine (toTally_c (SI.of_args hnc1 hn1 (R1.below B13)).drew (SI.of_args gnc1 hm1 (T1.below B13)).drew).mono ?_; rintro e w14 ⟨A'11, p11, e11, A'12, p12, e12, rfl, o11, o12, ap11_12, b14⟩) | (go_at_call 10; refine (eqTally_c (o5.drew.below b14).si (o6.drew.below b14).si o11.si o12.si).mono ?_; rintro e w15 ⟨rfl, b15⟩))
        replace b14 := below_of_drew b14
        clear o11 o12 lx la ap11_12
        clear cA00 dA00 cA01 dA01 cA10 dA10 cA11 dA11 cW0 dW0 cW1 dW1 cX00 dX00 cX01 dX01 cX10 dX10 cX11 dX11 cG0 dG0 cG1 dG1
        have B14 := below_step B13 b14
        replace o1 := o1.below b14
        replace o2 := o2.below b14
        replace o3 := o3.below b14
        replace o4 := o4.below b14
        replace o5 := o5.below b14
        replace o6 := o6.below b14
        replace o7 := o7.below b14
        replace o8 := o8.below b14
        replace KA0 := KA0.belowAll b14
        replace KA1 := KA1.belowAll b14
        replace KW := KW.belowAll b14
        replace KX0 := KX0.belowAll b14
        replace KX1 := KX1.belowAll b14
        replace KG := KG.belowAll b14
        have B15 := below_step B14 b15
        replace o1 := o1.below b15
        replace o2 := o2.below b15
        replace o3 := o3.below b15
        replace o4 := o4.below b15
        replace o5 := o5.below b15
        replace o6 := o6.below b15
        replace o7 := o7.below b15
        replace o8 := o8.below b15
        replace KA0 := KA0.belowAll b15
        replace KA1 := KA1.belowAll b15
        replace KW := KW.belowAll b15
        replace KX0 := KX0.belowAll b15
        replace KX1 := KX1.belowAll b15
        replace KG := KG.belowAll b15
        have cA00 : w15.cell? ⟨w.heap.size, 0, none⟩ = some (.slice A0 n0 c0) := KA0.cell 0
        have dA00 : ∀ o, (w15.alloc o).cell? ⟨w.heap.size, 0, none⟩ = some (.slice A0 n0 c0) := fun o => (KA0.alloc o).cell 0
        have cA01 : w15.cell? ⟨w.heap.size, 1, none⟩ = some (.slice Z0 m0 d0) := KA0.cell 1
        have dA01 : ∀ o, (w15.alloc o).cell? ⟨w.heap.size, 1, none⟩ = some (.slice Z0 m0 d0) := fun o => (KA0.alloc o).cell 1
        have cA10 : w15.cell? ⟨w.heap.size + 1, 0, none⟩ = some (.slice A1 n1 c1) := KA1.cell 0
        have dA10 : ∀ o, (w15.alloc o).cell? ⟨w.heap.size + 1, 0, none⟩ = some (.slice A1 n1 c1) := fun o => (KA1.alloc o).cell 0
        have cA11 : w15.cell? ⟨w.heap.size + 1, 1, none⟩ = some (.slice Z1 m1 d1) := KA1.cell 1
        have dA11 : ∀ o, (w15.alloc o).cell? ⟨w.heap.size + 1, 1, none⟩ = some (.slice Z1 m1 d1) := fun o => (KA1.alloc o).cell 1
        have cW0 : w15.cell? ⟨qW, 0, none⟩ = some (.slice A'1 p1 e1) := KW.cell 0
        have dW0 : ∀ o, (w15.alloc o).cell? ⟨qW, 0, none⟩ = some (.slice A'1 p1 e1) := fun o => (KW.alloc o).cell 0
        have cW1 : w15.cell? ⟨qW, 1, none⟩ = some (.slice A'2 p2 e2) := KW.cell 1
        have dW1 : ∀ o, (w15.alloc o).cell? ⟨qW, 1, none⟩ = some (.slice A'2 p2 e2) := fun o => (KW.alloc o).cell 1
        have cX00 : w15.cell? ⟨w5.heap.size, 0, none⟩ = some (.slice A'3 p3 e3) := KX0.cell 0
        have dX00 : ∀ o, (w15.alloc o).cell? ⟨w5.heap.size, 0, none⟩ = some (.slice A'3 p3 e3) := fun o => (KX0.alloc o).cell 0
        have cX01 : w15.cell? ⟨w5.heap.size, 1, none⟩ = some (.slice A'4 p4 e4) := KX0.cell 1
        have dX01 : ∀ o, (w15.alloc o).cell? ⟨w5.heap.size, 1, none⟩ = some (.slice A'4 p4 e4) := fun o => (KX0.alloc o).cell 1
        have cX10 : w15.cell? ⟨w7.heap.size, 0, none⟩ = some (.slice A'5 p5 e5) := KX1.cell 0
        have dX10 : ∀ o, (w15.alloc o).cell? ⟨w7.heap.size, 0, none⟩ = some (.slice A'5 p5 e5) := fun o => (KX1.alloc o).cell 0
        have cX11 : w15.cell? ⟨w7.heap.size, 1, none⟩ = some (.slice A'6 p6 e6) := KX1.cell 1
        have dX11 : ∀ o, (w15.alloc o).cell? ⟨w7.heap.size, 1, none⟩ = some (.slice A'6 p6 e6) := fun o => (KX1.alloc o).cell 1
        have cG0 : w15.cell? ⟨w9.heap.size, 0, none⟩ = some (.slice A'7 p7 e7) := KG.cell 0
        have dG0 : ∀ o, (w15.alloc o).cell? ⟨w9.heap.size, 0, none⟩ = some (.slice A'7 p7 e7) := fun o => (KG.alloc o).cell 0
        have cG1 : w15.cell? ⟨w9.heap.size, 1, none⟩ = some (.slice A'8 p8 e8) := KG.cell 1
        have dG1 : ∀ o, (w15.alloc o).cell? ⟨w9.heap.size, 1, none⟩ = some (.slice A'8 p8 e8) := fun o => (KG.alloc o).cell 1
        have hb3 := o3.2
        have hb4 := o4.2
        have hq3 := o3.len
        have hq4 := o4.len
        have hr0 := R0.len; have ht0 := T0.len
        go_wp2_with fail
        have oo := o3; have oo2 := o4
        refine (markTally_c o3 o4 ap3_4 (by omega) (by omega)).mono ?_
        rintro e w16 ⟨rfl, o', o2', g16⟩
        clear cA00 dA00 cA01 dA01 cA10 dA10 cA11 dA11 cW0 dW0 cW1 dW1 cX00 dX00 cX01 dX01 cX10 dX10 cX11 dX11 cG0 dG0 cG1 dG1
        clear o3 o4; have o3 := o'; have o4 := o2'; clear o' o2'
        have B16 := below_chg2 B15 g16 oo oo2 bl3 bl4
        replace o1 := o1.chg2 g16 ap1_3 ap1_4
        replace o2 := o2.chg2 g16 ap2_3 ap2_4
        replace o5 := o5.chg2 g16 ap3_5.symm ap4_5.symm
        replace o6 := o6.chg2 g16 ap3_6.symm ap4_6.symm
        replace o7 := o7.chg2 g16 ap3_7.symm ap4_7.symm
        replace o8 := o8.chg2 g16 ap3_8.symm ap4_8.symm
        replace KA0 := KA0.chg2 g16 oo oo2 (by decide)
        replace KA1 := KA1.chg2 g16 oo oo2 (by decide)
        replace KW := KW.chg2 g16 oo oo2 (by decide)
        replace KX0 := KX0.chg2 g16 oo oo2 (by decide)
        replace KX1 := KX1.chg2 g16 oo oo2 (by decide)
        replace KG := KG.chg2 g16 oo oo2 (by decide)
        clear oo oo2
        have cA00 : w16.cell? ⟨w.heap.size, 0, none⟩ = some (.slice A0 n0 c0) := KA0.cell 0
        have dA00 : ∀ o, (w16.alloc o).cell? ⟨w.heap.size, 0, none⟩ = some (.slice A0 n0 c0) := fun o => (KA0.alloc o).cell 0
        have cA01 : w16.cell? ⟨w.heap.size, 1, none⟩ = some (.slice Z0 m0 d0) := KA0.cell 1
        have dA01 : ∀ o, (w16.alloc o).cell? ⟨w.heap.size, 1, none⟩ = some (.slice Z0 m0 d0) := fun o => (KA0.alloc o).cell 1
        have cA10 : w16.cell? ⟨w.heap.size + 1, 0, none⟩ = some (.slice A1 n1 c1) := KA1.cell 0
        have dA10 : ∀ o, (w16.alloc o).cell? ⟨w.heap.size + 1, 0, none⟩ = some (.slice A1 n1 c1) := fun o => (KA1.alloc o).cell 0
        have cA11 : w16.cell? ⟨w.heap.size + 1, 1, none⟩ = some (.slice Z1 m1 d1) := KA1.cell 1
        have dA11 : ∀ o, (w16.alloc o).cell? ⟨w.heap.size + 1, 1, none⟩ = some (.slice Z1 m1 d1) := fun o => (KA1.alloc o).cell 1
        have cW0 : w16.cell? ⟨qW, 0, none⟩ = some (.slice A'1 p1 e1) := KW.cell 0
        have dW0 : ∀ o, (w16.alloc o).cell? ⟨qW, 0, none⟩ = some (.slice A'1 p1 e1) := fun o => (KW.alloc o).cell 0
        have cW1 : w16.cell? ⟨qW, 1, none⟩ = some (.slice A'2 p2 e2) := KW.cell 1
        have dW1 : ∀ o, (w16.alloc o).cell? ⟨qW, 1, none⟩ = some (.slice A'2 p2 e2) := fun o => (KW.alloc o).cell 1
        have cX00 : w16.cell? ⟨w5.heap.size, 0, none⟩ = some (.slice A'3 p3 e3) := KX0.cell 0
        have dX00 : ∀ o, (w16.alloc o).cell? ⟨w5.heap.size, 0, none⟩ = some (.slice A'3 p3 e3) := fun o => (KX0.alloc o).cell 0
        have cX01 : w16.cell? ⟨w5.heap.size, 1, none⟩ = some (.slice A'4 p4 e4) := KX0.cell 1
        have dX01 : ∀ o, (w16.alloc o).cell? ⟨w5.heap.size, 1, none⟩ = some (.slice A'4 p4 e4) := fun o => (KX0.alloc o).cell 1
        have cX10 : w16.cell? ⟨w7.heap.size, 0, none⟩ = some (.slice A'5 p5 e5) := KX1.cell 0
        have dX10 : ∀ o, (w16.alloc o).cell? ⟨w7.heap.size, 0, none⟩ = some (.slice A'5 p5 e5) := fun o => (KX1.alloc o).cell 0
        have cX11 : w16.cell? ⟨w7.heap.size, 1, none⟩ = some (.slice A'6 p6 e6) := KX1.cell 1
        have dX11 : ∀ o, (w16.alloc o).cell? ⟨w7.heap.size, 1, none⟩ = some (.slice A'6 p6 e6) := fun o => (KX1.alloc o).cell 1
        have cG0 : w16.cell? ⟨w9.heap.size, 0, none⟩ = some (.slice A'7 p7 e7) := KG.cell 0
        have dG0 : ∀ o, (w16.alloc o).cell? ⟨w9.heap.size, 0, none⟩ = some (.slice A'7 p7 e7) := fun o => (KG.alloc o).cell 0
        have cG1 : w16.cell? ⟨w9.heap.size, 1, none⟩ = some (.slice A'8 p8 e8) := KG.cell 1
        have dG1 : ∀ o, (w16.alloc o).cell? ⟨w9.heap.size, 1, none⟩ = some (.slice A'8 p8 e8) := fun o => (KG.alloc o).cell 1
        have hb5 := o5.2
        have hb6 := o6.2
        have hq5 := o5.len
        have hq6 := o6.len
        have hr1 := R1.len; have ht1 := T1.len
        go_wp2_with fail
        have oo := o5; have oo2 := o6
        refine (markTally_c o5 o6 ap5_6 (by omega) (by omega)).mono ?_
        rintro e w17 ⟨rfl, o', o2', g17⟩
        clear cA00 dA00 cA01 dA01 cA10 dA10 cA11 dA11 cW0 dW0 cW1 dW1 cX00 dX00 cX01 dX01 cX10 dX10 cX11 dX11 cG0 dG0 cG1 dG1
        clear o5 o6; have o5 := o'; have o6 := o2'; clear o' o2'
        have B17 := below_chg2 B16 g17 oo oo2 bl5 bl6
        replace o1 := o1.chg2 g17 ap1_5 ap1_6
        replace o2 := o2.chg2 g17 ap2_5 ap2_6
        replace o3 := o3.chg2 g17 ap3_5 ap3_6
        replace o4 := o4.chg2 g17 ap4_5 ap4_6
        replace o7 := o7.chg2 g17 ap5_7.symm ap6_7.symm
        replace o8 := o8.chg2 g17 ap5_8.symm ap6_8.symm
        replace KA0 := KA0.chg2 g17 oo oo2 (by decide)
        replace KA1 := KA1.chg2 g17 oo oo2 (by decide)
        replace KW := KW.chg2 g17 oo oo2 (by decide)
        replace KX0 := KX0.chg2 g17 oo oo2 (by decide)
        replace KX1 := KX1.chg2 g17 oo oo2 (by decide)
        replace KG := KG.chg2 g17 oo oo2 (by decide)
        clear oo oo2
        have cA00 : w17.cell? ⟨w.heap.size, 0, none⟩ = some (.slice A0 n0 c0) := KA0.cell 0
        have dA00 : ∀ o, (w17.alloc o).cell? ⟨w.heap.size, 0, none⟩ = some (.slice A0 n0 c0) := fun o => (KA0.alloc o).cell 0
        have cA01 : w17.cell? ⟨w.heap.size, 1, none⟩ = some (.slice Z0 m0 d0) := KA0.cell 1
        have dA01 : ∀ o, (w17.alloc o).cell? ⟨w.heap.size, 1, none⟩ = some (.slice Z0 m0 d0) := fun o => (KA0.alloc o).cell 1
        have cA10 : w17.cell? ⟨w.heap.size + 1, 0, none⟩ = some (.slice A1 n1 c1) := KA1.cell 0
        have dA10 : ∀ o, (w17.alloc o).cell? ⟨w.heap.size + 1, 0, none⟩ = some (.slice A1 n1 c1) := fun o => (KA1.alloc o).cell 0
        have cA11 : w17.cell? ⟨w.heap.size + 1, 1, none⟩ = some (.slice Z1 m1 d1) := KA1.cell 1
        have dA11 : ∀ o, (w17.alloc o).cell? ⟨w.heap.size + 1, 1, none⟩ = some (.slice Z1 m1 d1) := fun o => (KA1.alloc o).cell 1
        have cW0 : w17.cell? ⟨qW, 0, none⟩ = some (.slice A'1 p1 e1) := KW.cell 0
        have dW0 : ∀ o, (w17.alloc o).cell? ⟨qW, 0, none⟩ = some (.slice A'1 p1 e1) := fun o => (KW.alloc o).cell 0
        have cW1 : w17.cell? ⟨qW, 1, none⟩ = some (.slice A'2 p2 e2) := KW.cell 1
        have dW1 : ∀ o, (w17.alloc o).cell? ⟨qW, 1, none⟩ = some (.slice A'2 p2 e2) := fun o => (KW.alloc o).cell 1
        have cX00 : w17.cell? ⟨w5.heap.size, 0, none⟩ = some (.slice A'3 p3 e3) := KX0.cell 0
        have dX00 : ∀ o, (w17.alloc o).cell? ⟨w5.heap.size, 0, none⟩ = some (.slice A'3 p3 e3) := fun o => (KX0.alloc o).cell 0
        have cX01 : w17.cell? ⟨w5.heap.size, 1, none⟩ = some (.slice A'4 p4 e4) := KX0.cell 1
        have dX01 : ∀ o, (w17.alloc o).cell? ⟨w5.heap.size, 1, none⟩ = some (.slice A'4 p4 e4) := fun o => (KX0.alloc o).cell 1
        have cX10 : w17.cell? ⟨w7.heap.size, 0, none⟩ = some (.slice A'5 p5 e5) := KX1.cell 0
        have dX10 : ∀ o, (w17.alloc o).cell? ⟨w7.heap.size, 0, none⟩ = some (.slice A'5 p5 e5) := fun o => (KX1.alloc o).cell 0
        have cX11 : w17.cell? ⟨w7.heap.size, 1, none⟩ = some (.slice A'6 p6 e6) := KX1.cell 1
        have dX11 : ∀ o, (w17.alloc o).cell? ⟨w7.heap.size, 1, none⟩ = some (.slice A'6 p6 e6) := fun o => (KX1.alloc o).cell 1
        have cG0 : w17.cell? ⟨w9.heap.size, 0, none⟩ = some (.slice A'7 p7 e7) := KG.cell 0
        have dG0 : ∀ o, (w17.alloc o).cell? ⟨w9.heap.size, 0, none⟩ = some (.slice A'7 p7 e7) := fun o => (KG.alloc o).cell 0
        have cG1 : w17.cell? ⟨w9.heap.size, 1, none⟩ = some (.slice A'8 p8 e8) := KG.cell 1
        have dG1 : ∀ o, (w17.alloc o).cell? ⟨w9.heap.size, 1, none⟩ = some (.slice A'8 p8 e8) := fun o => (KG.alloc o).cell 1
        go_wp2_with fail
        refine (eqTally_c o7.si o8.si o1.si o2.si).mono ?_
        rintro e w18 ⟨rfl, b18⟩
        clear cA00 dA00 cA01 dA01 cA10 dA10 cA11 dA11 cW0 dW0 cW1 dW1 cX00 dX00 cX01 dX01 cX10 dX10 cX11 dX11 cG0 dG0 cG1 dG1
        have B18 := below_step B17 b18
        replace o1 := o1.below b18
        replace o2 := o2.below b18
        replace o3 := o3.below b18
        replace o4 := o4.below b18
        replace o5 := o5.below b18
        replace o6 := o6.below b18
        replace o7 := o7.below b18
        replace o8 := o8.below b18
        replace KA0 := KA0.belowAll b18
        replace KA1 := KA1.belowAll b18
        replace KW := KW.belowAll b18
        replace KX0 := KX0.belowAll b18
        replace KX1 := KX1.belowAll b18
        replace KG := KG.belowAll b18
        have cA00 : w18.cell? ⟨w.heap.size, 0, none⟩ = some (.slice A0 n0 c0) := KA0.cell 0
        have dA00 : ∀ o, (w18.alloc o).cell? ⟨w.heap.size, 0, none⟩ = some (.slice A0 n0 c0) := fun o => (KA0.alloc o).cell 0
        have cA01 : w18.cell? ⟨w.heap.size, 1, none⟩ = some (.slice Z0 m0 d0) := KA0.cell 1
        have dA01 : ∀ o, (w18.alloc o).cell? ⟨w.heap.size, 1, none⟩ = some (.slice Z0 m0 d0) := fun o => (KA0.alloc o).cell 1
        have cA10 : w18.cell? ⟨w.heap.size + 1, 0, none⟩ = some (.slice A1 n1 c1) := KA1.cell 0
        have dA10 : ∀ o, (w18.alloc o).cell? ⟨w.heap.size + 1, 0, none⟩ = some (.slice A1 n1 c1) := fun o => (KA1.alloc o).cell 0
        have cA11 : w18.cell? ⟨w.heap.size + 1, 1, none⟩ = some (.slice Z1 m1 d1) := KA1.cell 1
        have dA11 : ∀ o, (w18.alloc o).cell? ⟨w.heap.size + 1, 1, none⟩ = some (.slice Z1 m1 d1) := fun o => (KA1.alloc o).cell 1
        have cW0 : w18.cell? ⟨qW, 0, none⟩ = some (.slice A'1 p1 e1) := KW.cell 0
        have dW0 : ∀ o, (w18.alloc o).cell? ⟨qW, 0, none⟩ = some (.slice A'1 p1 e1) := fun o => (KW.alloc o).cell 0
        have cW1 : w18.cell? ⟨qW, 1, none⟩ = some (.slice A'2 p2 e2) := KW.cell 1
        have dW1 : ∀ o, (w18.alloc o).cell? ⟨qW, 1, none⟩ = some (.slice A'2 p2 e2) := fun o => (KW.alloc o).cell 1
        have cX00 : w18.cell? ⟨w5.heap.size, 0, none⟩ = some (.slice A'3 p3 e3) := KX0.cell 0
        have dX00 : ∀ o, (w18.alloc o).cell? ⟨w5.heap.size, 0, none⟩ = some (.slice A'3 p3 e3) := fun o => (KX0.alloc o).cell 0
        have cX01 : w18.cell? ⟨w5.heap.size, 1, none⟩ = some (.slice A'4 p4 e4) := KX0.cell 1
        have dX01 : ∀ o, (w18.alloc o).cell? ⟨w5.heap.size, 1, none⟩ = some (.slice A'4 p4 e4) := fun o => (KX0.alloc o).cell 1
        have cX10 : w18.cell? ⟨w7.heap.size, 0, none⟩ = some (.slice A'5 p5 e5) := KX1.cell 0
        have dX10 : ∀ o, (w18.alloc o).cell? ⟨w7.heap.size, 0, none⟩ = some (.slice A'5 p5 e5) := fun o => (KX1.alloc o).cell 0
        have cX11 : w18.cell? ⟨w7.heap.size, 1, none⟩ = some (.slice A'6 p6 e6) := KX1.cell 1
        have dX11 : ∀ o, (w18.alloc o).cell? ⟨w7.heap.size, 1, none⟩ = some (.slice A'6 p6 e6) := fun o => (KX1.alloc o).cell 1
        have cG0 : w18.cell? ⟨w9.heap.size, 0, none⟩ = some (.slice A'7 p7 e7) := KG.cell 0
        have dG0 : ∀ o, (w18.alloc o).cell? ⟨w9.heap.size, 0, none⟩ = some (.slice A'7 p7 e7) := fun o => (KG.alloc o).cell 0
        have cG1 : w18.cell? ⟨w9.heap.size, 1, none⟩ = some (.slice A'8 p8 e8) := KG.cell 1
        have dG1 : ∀ o, (w18.alloc o).cell? ⟨w9.heap.size, 1, none⟩ = some (.slice A'8 p8 e8) := fun o => (KG.alloc o).cell 1
        clear o3
        clear o4
        clear o5
        clear o6
        have hb7 := o7.2
        have hb8 := o8.2
        go_wp2_with fail
        have oo := o7; have oo2 := o8
        refine (markTally_c o7 o8 ap7_8 (by omega) (by omega)).mono ?_
        rintro e w19 ⟨rfl, o', o2', g19⟩
        clear cA00 dA00 cA01 dA01 cA10 dA10 cA11 dA11 cW0 dW0 cW1 dW1 cX00 dX00 cX01 dX01 cX10 dX10 cX11 dX11 cG0 dG0 cG1 dG1
        clear o7 o8; have o7 := o'; have o8 := o2'; clear o' o2'
        have B19 := below_chg2 B18 g19 oo oo2 bl7 bl8
        replace o1 := o1.chg2 g19 ap1_7 ap1_8
        replace o2 := o2.chg2 g19 ap2_7 ap2_8
        replace KA0 := KA0.chg2 g19 oo oo2 (by decide)
        replace KA1 := KA1.chg2 g19 oo oo2 (by decide)
        replace KW := KW.chg2 g19 oo oo2 (by decide)
        replace KX0 := KX0.chg2 g19 oo oo2 (by decide)
        replace KX1 := KX1.chg2 g19 oo oo2 (by decide)
        replace KG := KG.chg2 g19 oo oo2 (by decide)
        clear oo oo2
        have cA00 : w19.cell? ⟨w.heap.size, 0, none⟩ = some (.slice A0 n0 c0) := KA0.cell 0
        have dA00 : ∀ o, (w19.alloc o).cell? ⟨w.heap.size, 0, none⟩ = some (.slice A0 n0 c0) := fun o => (KA0.alloc o).cell 0
        have cA01 : w19.cell? ⟨w.heap.size, 1, none⟩ = some (.slice Z0 m0 d0) := KA0.cell 1
        have dA01 : ∀ o, (w19.alloc o).cell? ⟨w.heap.size, 1, none⟩ = some (.slice Z0 m0 d0) := fun o => (KA0.alloc o).cell 1
        have cA10 : w19.cell? ⟨w.heap.size + 1, 0, none⟩ = some (.slice A1 n1 c1) := KA1.cell 0
        have dA10 : ∀ o, (w19.alloc o).cell? ⟨w.heap.size + 1, 0, none⟩ = some (.slice A1 n1 c1) := fun o => (KA1.alloc o).cell 0
        have cA11 : w19.cell? ⟨w.heap.size + 1, 1, none⟩ = some (.slice Z1 m1 d1) := KA1.cell 1
        have dA11 : ∀ o, (w19.alloc o).cell? ⟨w.heap.size + 1, 1, none⟩ = some (.slice Z1 m1 d1) := fun o => (KA1.alloc o).cell 1
        have cW0 : w19.cell? ⟨qW, 0, none⟩ = some (.slice A'1 p1 e1) := KW.cell 0
        have dW0 : ∀ o, (w19.alloc o).cell? ⟨qW, 0, none⟩ = some (.slice A'1 p1 e1) := fun o => (KW.alloc o).cell 0
        have cW1 : w19.cell? ⟨qW, 1, none⟩ = some (.slice A'2 p2 e2) := KW.cell 1
        have dW1 : ∀ o, (w19.alloc o).cell? ⟨qW, 1, none⟩ = some (.slice A'2 p2 e2) := fun o => (KW.alloc o).cell 1
        have cX00 : w19.cell? ⟨w5.heap.size, 0, none⟩ = some (.slice A'3 p3 e3) := KX0.cell 0
        have dX00 : ∀ o, (w19.alloc o).cell? ⟨w5.heap.size, 0, none⟩ = some (.slice A'3 p3 e3) := fun o => (KX0.alloc o).cell 0
        have cX01 : w19.cell? ⟨w5.heap.size, 1, none⟩ = some (.slice A'4 p4 e4) := KX0.cell 1
        have dX01 : ∀ o, (w19.alloc o).cell? ⟨w5.heap.size, 1, none⟩ = some (.slice A'4 p4 e4) := fun o => (KX0.alloc o).cell 1
        have cX10 : w19.cell? ⟨w7.heap.size, 0, none⟩ = some (.slice A'5 p5 e5) := KX1.cell 0
        have dX10 : ∀ o, (w19.alloc o).cell? ⟨w7.heap.size, 0, none⟩ = some (.slice A'5 p5 e5) := fun o => (KX1.alloc o).cell 0
        have cX11 : w19.cell? ⟨w7.heap.size, 1, none⟩ = some (.slice A'6 p6 e6) := KX1.cell 1
        have dX11 : ∀ o, (w19.alloc o).cell? ⟨w7.heap.size, 1, none⟩ = some (.slice A'6 p6 e6) := fun o => (KX1.alloc o).cell 1
        have cG0 : w19.cell? ⟨w9.heap.size, 0, none⟩ = some (.slice A'7 p7 e7) := KG.cell 0
        have dG0 : ∀ o, (w19.alloc o).cell? ⟨w9.heap.size, 0, none⟩ = some (.slice A'7 p7 e7) := fun o => (KG.alloc o).cell 0
        have cG1 : w19.cell? ⟨w9.heap.size, 1, none⟩ = some (.slice A'8 p8 e8) := KG.cell 1
        have dG1 : ∀ o, (w19.alloc o).cell? ⟨w9.heap.size, 1, none⟩ = some (.slice A'8 p8 e8) := fun o => (KG.alloc o).cell 1
        go_wp2_with fail
        refine (heldTally_c o7.si o8.si (by omega) (by omega)).mono ?_
        rintro e w20 ⟨rfl, b20⟩
        clear cA00 dA00 cA01 dA01 cA10 dA10 cA11 dA11 cW0 dW0 cW1 dW1 cX00 dX00 cX01 dX01 cX10 dX10 cX11 dX11 cG0 dG0 cG1 dG1
        have B20 := below_step B19 b20
        replace o1 := o1.below b20
        replace o2 := o2.below b20
        replace o7 := o7.below b20
        replace o8 := o8.below b20
        replace KA0 := KA0.belowAll b20
        replace KA1 := KA1.belowAll b20
        replace KW := KW.belowAll b20
        replace KX0 := KX0.belowAll b20
        replace KX1 := KX1.belowAll b20
        replace KG := KG.belowAll b20
        have cA00 : w20.cell? ⟨w.heap.size, 0, none⟩ = some (.slice A0 n0 c0) := KA0.cell 0
        have dA00 : ∀ o, (w20.alloc o).cell? ⟨w.heap.size, 0, none⟩ = some (.slice A0 n0 c0) := fun o => (KA0.alloc o).cell 0
        have cA01 : w20.cell? ⟨w.heap.size, 1, none⟩ = some (.slice Z0 m0 d0) := KA0.cell 1
        have dA01 : ∀ o, (w20.alloc o).cell? ⟨w.heap.size, 1, none⟩ = some (.slice Z0 m0 d0) := fun o => (KA0.alloc o).cell 1
        have cA10 : w20.cell? ⟨w.heap.size + 1, 0, none⟩ = some (.slice A1 n1 c1) := KA1.cell 0
        have dA10 : ∀ o, (w20.alloc o).cell? ⟨w.heap.size + 1, 0, none⟩ = some (.slice A1 n1 c1) := fun o => (KA1.alloc o).cell 0
        have cA11 : w20.cell? ⟨w.heap.size + 1, 1, none⟩ = some (.slice Z1 m1 d1) := KA1.cell 1
        have dA11 : ∀ o, (w20.alloc o).cell? ⟨w.heap.size + 1, 1, none⟩ = some (.slice Z1 m1 d1) := fun o => (KA1.alloc o).cell 1
        have cW0 : w20.cell? ⟨qW, 0, none⟩ = some (.slice A'1 p1 e1) := KW.cell 0
        have dW0 : ∀ o, (w20.alloc o).cell? ⟨qW, 0, none⟩ = some (.slice A'1 p1 e1) := fun o => (KW.alloc o).cell 0
        have cW1 : w20.cell? ⟨qW, 1, none⟩ = some (.slice A'2 p2 e2) := KW.cell 1
        have dW1 : ∀ o, (w20.alloc o).cell? ⟨qW, 1, none⟩ = some (.slice A'2 p2 e2) := fun o => (KW.alloc o).cell 1
        have cX00 : w20.cell? ⟨w5.heap.size, 0, none⟩ = some (.slice A'3 p3 e3) := KX0.cell 0
        have dX00 : ∀ o, (w20.alloc o).cell? ⟨w5.heap.size, 0, none⟩ = some (.slice A'3 p3 e3) := fun o => (KX0.alloc o).cell 0
        have cX01 : w20.cell? ⟨w5.heap.size, 1, none⟩ = some (.slice A'4 p4 e4) := KX0.cell 1
        have dX01 : ∀ o, (w20.alloc o).cell? ⟨w5.heap.size, 1, none⟩ = some (.slice A'4 p4 e4) := fun o => (KX0.alloc o).cell 1
        have cX10 : w20.cell? ⟨w7.heap.size, 0, none⟩ = some (.slice A'5 p5 e5) := KX1.cell 0
        have dX10 : ∀ o, (w20.alloc o).cell? ⟨w7.heap.size, 0, none⟩ = some (.slice A'5 p5 e5) := fun o => (KX1.alloc o).cell 0
        have cX11 : w20.cell? ⟨w7.heap.size, 1, none⟩ = some (.slice A'6 p6 e6) := KX1.cell 1
        have dX11 : ∀ o, (w20.alloc o).cell? ⟨w7.heap.size, 1, none⟩ = some (.slice A'6 p6 e6) := fun o => (KX1.alloc o).cell 1
        have cG0 : w20.cell? ⟨w9.heap.size, 0, none⟩ = some (.slice A'7 p7 e7) := KG.cell 0
        have dG0 : ∀ o, (w20.alloc o).cell? ⟨w9.heap.size, 0, none⟩ = some (.slice A'7 p7 e7) := fun o => (KG.alloc o).cell 0
        have cG1 : w20.cell? ⟨w9.heap.size, 1, none⟩ = some (.slice A'8 p8 e8) := KG.cell 1
        have dG1 : ∀ o, (w20.alloc o).cell? ⟨w9.heap.size, 1, none⟩ = some (.slice A'8 p8 e8) := fun o => (KG.alloc o).cell 1
        go_wp2_with fail
        have la0 := KA0.lt
        have la1 := KA1.lt
        go_upto_region 31 with fail
        go_cut [13] (fun s wx => ∃ (g : Nat) (A : Option Addr) (n c : Nat) (B : Option Addr) (m d : Nat), s = .pointer (some ⟨g, 0, none⟩) ∧ Blk wx g 26 #[.slice A n c, .slice B m d] ∧ OI wx w20.heap.size (.slice A n c) n (jtU xs0 ys0 xs1 ys1) ∧ OI wx w20.heap.size (.slice B m d) m (jtD xs0 ys0 xs1 ys1) ∧ Apart (.slice A n c) (.slice B m d) ∧ Below w20.heap.size w20 wx)
        case first =>
          have sa0 := (SI.of_args hnc0 hn0 (R0.below B20)).drew; have sb0 := (SI.of_args gnc0 hm0 (T0.below B20)).drew
          have sa1 := (SI.of_args hnc1 hn1 (R1.below B20)).drew; have sb1 := (SI.of_args gnc1 hm1 (T1.below B20)).drew
          go_region_held3 (fun W => W.cell? ⟨w.heap.size, 0, none⟩ = some (.slice A0 n0 c0) ∧ W.cell? ⟨w.heap.size, 1, none⟩ = some (.slice Z0 m0 d0) ∧ W.cell? ⟨w.heap.size + 1, 0, none⟩ = some (.slice A1 n1 c1) ∧ W.cell? ⟨w.heap.size + 1, 1, none⟩ = some (.slice Z1 m1 d1))
            (first | (go_keep; done) | (go_split_ands; refine ⟨?_, ?_, ?_, ?_⟩ <;> (first | (rw [byy.cell (by have := la0; have := la1; have s0 := by0.size; (try simp only [World.size_alloc, sd, sdn] at s0); have s1 := by1.size; (try simp only [World.size_alloc, sd, sdn] at s1); (try simp only [World.size_alloc, sd, sdn]); omega)]; assumption) | (rw [by0.cell (by have := la0; have := la1; (try simp only [World.size_alloc, sd, sdn]); omega)]; assumption) | (rw [by1.cell (by have := la0; have := la1; have s0 := by0.size; (try simp only [World.size_alloc, sd, sdn] at s0); (try simp only [World.size_alloc, sd, sdn]); omega)]; assumption) | exact (alloc_swap (by show _ < _; have := la0; have := la1; have s0 := by0.size; (try simp only [World.size_alloc, sd, sdn] at s0); have s1 := by1.size; (try simp only [World.size_alloc, sd, sdn] at s1); have sy := byy.size; (try simp only [World.size_alloc, sd, sdn] at sy); (try simp only [World.size_alloc, sd, sdn]); omega)).trans (by assumption) | exact (cell_set2 (by have := la0; have := la1; have s0 := by0.size; (try simp only [World.size_alloc, sd, sdn] at s0); have s1 := by1.size; (try simp only [World.size_alloc, sd, sdn] at s1); have sy := byy.size; (try simp only [World.size_alloc, sd, sdn] at sy); (try simp only [World.size_alloc, sd, sdn]); omega) _ _).trans (by assumption))))
            (first | (go_at_call_of 8 (Value.agg #[Value.slice A0 n0 c0, Value.slice Z0 m0 d0]); refine (toTally_c (by first | exact sa0 | exact (sa0.alloc _)) (by first | exact sb0 | exact (sb0.alloc _))).mono ?_; rintro e y0 ⟨U0, p0, h0, V0, r0, l0, rfl, ou0, ov0, ax0, by0⟩) | (go_at_call_of 8 (Value.agg #[Value.slice A1 n1 c1, Value.slice Z1 m1 d1]); refine (toTally_c (by first | exact (sa1.below by0) | exact ((sa1.alloc _).below by0) | exact ((sa1.below by0).alloc _)) (by first | exact (sb1.below by0) | exact ((sb1.alloc _).below by0) | exact ((sb1.below by0).alloc _))).mono ?_; rintro e y1 ⟨U1, p1, h1, V1, r1, l1, rfl, ou1, ov1, ax1, by1⟩) | (go_at_call 9; refine (impl_JoinTally_c (by first | exact (ou0.below by1).si | exact ((ou0.alloc _).below by1).si | exact ((ou0.below by1).alloc _).si) (by first | exact (ov0.below by1).si | exact ((ov0.alloc _).below by1).si | exact ((ov0.below by1).alloc _).si) (by first | exact ou1.si | exact (ou1.alloc _).si) (by first | exact ov1.si | exact (ov1.alloc _).si)).mono ?_; rintro e yy ⟨UU, pp, hh, VV, rr, ll, rfl, ouu, ovv, axx, byy⟩; (first | (have KK := (((Blk.new w20.drew 26 #[.slice none 0 0, .slice none 0 0]).belowAll by0).belowAll by1).belowAll byy; obtain ⟨kc0, kc1, kf0, kf1⟩ := KK.two; (try simp only [sd, sdn] at kc0 kc1 kf0 kf1)) | (have KK := ((Blk.new y0 26 #[.slice none 0 0, .slice none 0 0]).belowAll by1).belowAll byy; obtain ⟨kc0, kc1, kf0, kf1⟩ := KK.two; (try simp only [sd, sdn] at kc0 kc1 kf0 kf1)) | (have KK := (Blk.new y1 26 #[.slice none 0 0, .slice none 0 0]).belowAll byy; obtain ⟨kc0, kc1, kf0, kf1⟩ := KK.two; (try simp only [sd, sdn] at kc0 kc1 kf0 kf1)) | skip)))
          all_goals go_wp2_with fail
          all_goals go_meet
          all_goals have bk : Below w20.heap.size w20 w20.drew := (Below.refl _ _).drew
          all_goals (first | (have CB := (below_step (below_step (balloc bk (.cells #[.slice none 0 0, .slice none 0 0] 26)) by0) by1); have bl := CB.size; refine ⟨_, _, _, _, _, _, _, rfl, (KK.set_ 0 _).set_ 1 _, ((ouu.set_low ?_ _).set_low ?_ _).mono bl, ((ovv.set_low ?_ _).set_low ?_ _).mono bl, axx, ((below_step CB byy).setCell ?_ _).setCell ?_ _⟩ <;> ((try dsimp only); have := la0; have := la1; have s0 := by0.size; (try simp only [World.size_alloc, sd, sdn] at s0); have s1 := by1.size; (try simp only [World.size_alloc, sd, sdn] at s1); (try simp only [World.size_alloc, sd, sdn]); omega)) | (have CB := (below_step (balloc (below_step bk by0) (.cells #[.slice none 0 0, .slice none 0 0] 26)) by1); have bl := CB.size; refine ⟨_, _, _, _, _, _, _, rfl, (KK.set_ 0 _).set_ 1 _, ((ouu.set_low ?_ _).set_low ?_ _).mono bl, ((ovv.set_low ?_ _).set_low ?_ _).mono bl, axx, ((below_step CB byy).setCell ?_ _).setCell ?_ _⟩ <;> ((try dsimp only); have := la0; have := la1; have s0 := by0.size; (try simp only [World.size_alloc, sd, sdn] at s0); have s1 := by1.size; (try simp only [World.size_alloc, sd, sdn] at s1); (try simp only [World.size_alloc, sd, sdn]); omega)) | (have CB := (balloc (below_step (below_step bk by0) by1) (.cells #[.slice none 0 0, .slice none 0 0] 26)); have bl := CB.size; refine ⟨_, _, _, _, _, _, _, rfl, (KK.set_ 0 _).set_ 1 _, ((ouu.set_low ?_ _).set_low ?_ _).mono bl, ((ovv.set_low ?_ _).set_low ?_ _).mono bl, axx, ((below_step CB byy).setCell ?_ _).setCell ?_ _⟩ <;> ((try dsimp only); have := la0; have := la1; have s0 := by0.size; (try simp only [World.size_alloc, sd, sdn] at s0); have s1 := by1.size; (try simp only [World.size_alloc, sd, sdn] at s1); (try simp only [World.size_alloc, sd, sdn]); omega)) | (have CB := (below_step (below_step bk by0) by1); have bl := CB.size; exact ⟨_, _, _, _, _, _, _, rfl, Blk.new _ _ _, (ouu.alloc _).mono bl, (ovv.alloc _).mono bl, axx, balloc (below_step CB byy) _⟩))
        case rest =>
          obtain ⟨qH, A'13, p13, e13, A'14, p14, e14, rfl, KH, o13, o14, ap13_14, b21⟩ := hcut
          clear la0 la1
          rename World => w21
          have bl13 : w.heap.size ≤ w20.heap.size := B20.size
          have bl14 : w.heap.size ≤ w20.heap.size := B20.size
          clear cA00 dA00 cA01 dA01 cA10 dA10 cA11 dA11 cW0 dW0 cW1 dW1 cX00 dX00 cX01 dX01 cX10 dX10 cX11 dX11 cG0 dG0 cG1 dG1
          have B21 := below_step B20 b21
          have ap1_13 := OI.apart o1 o13
          have ap2_13 := OI.apart o2 o13
          have ap7_13 := OI.apart o7 o13
          have ap8_13 := OI.apart o8 o13
          have ap1_14 := OI.apart o1 o14
          have ap2_14 := OI.apart o2 o14
          have ap7_14 := OI.apart o7 o14
          have ap8_14 := OI.apart o8 o14
          replace o1 := o1.below b21
          replace o2 := o2.below b21
          replace o7 := o7.below b21
          replace o8 := o8.below b21
          replace KA0 := KA0.belowAll b21
          replace KA1 := KA1.belowAll b21
          replace KW := KW.belowAll b21
          replace KX0 := KX0.belowAll b21
          replace KX1 := KX1.belowAll b21
          replace KG := KG.belowAll b21
          have cA00 : w21.cell? ⟨w.heap.size, 0, none⟩ = some (.slice A0 n0 c0) := KA0.cell 0
          have dA00 : ∀ o, (w21.alloc o).cell? ⟨w.heap.size, 0, none⟩ = some (.slice A0 n0 c0) := fun o => (KA0.alloc o).cell 0
          have cA01 : w21.cell? ⟨w.heap.size, 1, none⟩ = some (.slice Z0 m0 d0) := KA0.cell 1
          have dA01 : ∀ o, (w21.alloc o).cell? ⟨w.heap.size, 1, none⟩ = some (.slice Z0 m0 d0) := fun o => (KA0.alloc o).cell 1
          have cA10 : w21.cell? ⟨w.heap.size + 1, 0, none⟩ = some (.slice A1 n1 c1) := KA1.cell 0
          have dA10 : ∀ o, (w21.alloc o).cell? ⟨w.heap.size + 1, 0, none⟩ = some (.slice A1 n1 c1) := fun o => (KA1.alloc o).cell 0
          have cA11 : w21.cell? ⟨w.heap.size + 1, 1, none⟩ = some (.slice Z1 m1 d1) := KA1.cell 1
          have dA11 : ∀ o, (w21.alloc o).cell? ⟨w.heap.size + 1, 1, none⟩ = some (.slice Z1 m1 d1) := fun o => (KA1.alloc o).cell 1
          have cW0 : w21.cell? ⟨qW, 0, none⟩ = some (.slice A'1 p1 e1) := KW.cell 0
          have dW0 : ∀ o, (w21.alloc o).cell? ⟨qW, 0, none⟩ = some (.slice A'1 p1 e1) := fun o => (KW.alloc o).cell 0
          have cW1 : w21.cell? ⟨qW, 1, none⟩ = some (.slice A'2 p2 e2) := KW.cell 1
          have dW1 : ∀ o, (w21.alloc o).cell? ⟨qW, 1, none⟩ = some (.slice A'2 p2 e2) := fun o => (KW.alloc o).cell 1
          have cX00 : w21.cell? ⟨w5.heap.size, 0, none⟩ = some (.slice A'3 p3 e3) := KX0.cell 0
          have dX00 : ∀ o, (w21.alloc o).cell? ⟨w5.heap.size, 0, none⟩ = some (.slice A'3 p3 e3) := fun o => (KX0.alloc o).cell 0
          have cX01 : w21.cell? ⟨w5.heap.size, 1, none⟩ = some (.slice A'4 p4 e4) := KX0.cell 1
          have dX01 : ∀ o, (w21.alloc o).cell? ⟨w5.heap.size, 1, none⟩ = some (.slice A'4 p4 e4) := fun o => (KX0.alloc o).cell 1
          have cX10 : w21.cell? ⟨w7.heap.size, 0, none⟩ = some (.slice A'5 p5 e5) := KX1.cell 0
          have dX10 : ∀ o, (w21.alloc o).cell? ⟨w7.heap.size, 0, none⟩ = some (.slice A'5 p5 e5) := fun o => (KX1.alloc o).cell 0
          have cX11 : w21.cell? ⟨w7.heap.size, 1, none⟩ = some (.slice A'6 p6 e6) := KX1.cell 1
          have dX11 : ∀ o, (w21.alloc o).cell? ⟨w7.heap.size, 1, none⟩ = some (.slice A'6 p6 e6) := fun o => (KX1.alloc o).cell 1
          have cG0 : w21.cell? ⟨w9.heap.size, 0, none⟩ = some (.slice A'7 p7 e7) := KG.cell 0
          have dG0 : ∀ o, (w21.alloc o).cell? ⟨w9.heap.size, 0, none⟩ = some (.slice A'7 p7 e7) := fun o => (KG.alloc o).cell 0
          have cG1 : w21.cell? ⟨w9.heap.size, 1, none⟩ = some (.slice A'8 p8 e8) := KG.cell 1
          have dG1 : ∀ o, (w21.alloc o).cell? ⟨w9.heap.size, 1, none⟩ = some (.slice A'8 p8 e8) := fun o => (KG.alloc o).cell 1
          have cH0 : w21.cell? ⟨qH, 0, none⟩ = some (.slice A'13 p13 e13) := KH.cell 0
          have dH0 : ∀ o, (w21.alloc o).cell? ⟨qH, 0, none⟩ = some (.slice A'13 p13 e13) := fun o => (KH.alloc o).cell 0
          have cH1 : w21.cell? ⟨qH, 1, none⟩ = some (.slice A'14 p14 e14) := KH.cell 1
          have dH1 : ∀ o, (w21.alloc o).cell? ⟨qH, 1, none⟩ = some (.slice A'14 p14 e14) := fun o => (KH.alloc o).cell 1
          go_wp2_with fail
          refine (eqTally_c o13.si o14.si o1.si o2.si).mono ?_
          rintro e w22 ⟨rfl, b22⟩
          clear cA00 dA00 cA01 dA01 cA10 dA10 cA11 dA11 cW0 dW0 cW1 dW1 cX00 dX00 cX01 dX01 cX10 dX10 cX11 dX11 cG0 dG0 cG1 dG1 cH0 dH0 cH1 dH1
          have B22 := below_step B21 b22
          replace o1 := o1.below b22
          replace o2 := o2.below b22
          replace o7 := o7.below b22
          replace o8 := o8.below b22
          replace o13 := o13.below b22
          replace o14 := o14.below b22
          replace KA0 := KA0.belowAll b22
          replace KA1 := KA1.belowAll b22
          replace KW := KW.belowAll b22
          replace KX0 := KX0.belowAll b22
          replace KX1 := KX1.belowAll b22
          replace KG := KG.belowAll b22
          replace KH := KH.belowAll b22
          have cA00 : w22.cell? ⟨w.heap.size, 0, none⟩ = some (.slice A0 n0 c0) := KA0.cell 0
          have dA00 : ∀ o, (w22.alloc o).cell? ⟨w.heap.size, 0, none⟩ = some (.slice A0 n0 c0) := fun o => (KA0.alloc o).cell 0
          have cA01 : w22.cell? ⟨w.heap.size, 1, none⟩ = some (.slice Z0 m0 d0) := KA0.cell 1
          have dA01 : ∀ o, (w22.alloc o).cell? ⟨w.heap.size, 1, none⟩ = some (.slice Z0 m0 d0) := fun o => (KA0.alloc o).cell 1
          have cA10 : w22.cell? ⟨w.heap.size + 1, 0, none⟩ = some (.slice A1 n1 c1) := KA1.cell 0
          have dA10 : ∀ o, (w22.alloc o).cell? ⟨w.heap.size + 1, 0, none⟩ = some (.slice A1 n1 c1) := fun o => (KA1.alloc o).cell 0
          have cA11 : w22.cell? ⟨w.heap.size + 1, 1, none⟩ = some (.slice Z1 m1 d1) := KA1.cell 1
          have dA11 : ∀ o, (w22.alloc o).cell? ⟨w.heap.size + 1, 1, none⟩ = some (.slice Z1 m1 d1) := fun o => (KA1.alloc o).cell 1
          have cW0 : w22.cell? ⟨qW, 0, none⟩ = some (.slice A'1 p1 e1) := KW.cell 0
          have dW0 : ∀ o, (w22.alloc o).cell? ⟨qW, 0, none⟩ = some (.slice A'1 p1 e1) := fun o => (KW.alloc o).cell 0
          have cW1 : w22.cell? ⟨qW, 1, none⟩ = some (.slice A'2 p2 e2) := KW.cell 1
          have dW1 : ∀ o, (w22.alloc o).cell? ⟨qW, 1, none⟩ = some (.slice A'2 p2 e2) := fun o => (KW.alloc o).cell 1
          have cX00 : w22.cell? ⟨w5.heap.size, 0, none⟩ = some (.slice A'3 p3 e3) := KX0.cell 0
          have dX00 : ∀ o, (w22.alloc o).cell? ⟨w5.heap.size, 0, none⟩ = some (.slice A'3 p3 e3) := fun o => (KX0.alloc o).cell 0
          have cX01 : w22.cell? ⟨w5.heap.size, 1, none⟩ = some (.slice A'4 p4 e4) := KX0.cell 1
          have dX01 : ∀ o, (w22.alloc o).cell? ⟨w5.heap.size, 1, none⟩ = some (.slice A'4 p4 e4) := fun o => (KX0.alloc o).cell 1
          have cX10 : w22.cell? ⟨w7.heap.size, 0, none⟩ = some (.slice A'5 p5 e5) := KX1.cell 0
          have dX10 : ∀ o, (w22.alloc o).cell? ⟨w7.heap.size, 0, none⟩ = some (.slice A'5 p5 e5) := fun o => (KX1.alloc o).cell 0
          have cX11 : w22.cell? ⟨w7.heap.size, 1, none⟩ = some (.slice A'6 p6 e6) := KX1.cell 1
          have dX11 : ∀ o, (w22.alloc o).cell? ⟨w7.heap.size, 1, none⟩ = some (.slice A'6 p6 e6) := fun o => (KX1.alloc o).cell 1
          have cG0 : w22.cell? ⟨w9.heap.size, 0, none⟩ = some (.slice A'7 p7 e7) := KG.cell 0
          have dG0 : ∀ o, (w22.alloc o).cell? ⟨w9.heap.size, 0, none⟩ = some (.slice A'7 p7 e7) := fun o => (KG.alloc o).cell 0
          have cG1 : w22.cell? ⟨w9.heap.size, 1, none⟩ = some (.slice A'8 p8 e8) := KG.cell 1
          have dG1 : ∀ o, (w22.alloc o).cell? ⟨w9.heap.size, 1, none⟩ = some (.slice A'8 p8 e8) := fun o => (KG.alloc o).cell 1
          have cH0 : w22.cell? ⟨qH, 0, none⟩ = some (.slice A'13 p13 e13) := KH.cell 0
          have dH0 : ∀ o, (w22.alloc o).cell? ⟨qH, 0, none⟩ = some (.slice A'13 p13 e13) := fun o => (KH.alloc o).cell 0
          have cH1 : w22.cell? ⟨qH, 1, none⟩ = some (.slice A'14 p14 e14) := KH.cell 1
          have dH1 : ∀ o, (w22.alloc o).cell? ⟨qH, 1, none⟩ = some (.slice A'14 p14 e14) := fun o => (KH.alloc o).cell 1
          go_wp2_with fail
          refine (heldTally_c o7.si o8.si (by omega) (by omega)).mono ?_
          rintro e w23 ⟨rfl, b23⟩
          clear cA00 dA00 cA01 dA01 cA10 dA10 cA11 dA11 cW0 dW0 cW1 dW1 cX00 dX00 cX01 dX01 cX10 dX10 cX11 dX11 cG0 dG0 cG1 dG1 cH0 dH0 cH1 dH1
          have B23 := below_step B22 b23
          replace o1 := o1.below b23
          replace o2 := o2.below b23
          replace o7 := o7.below b23
          replace o8 := o8.below b23
          replace o13 := o13.below b23
          replace o14 := o14.below b23
          replace KA0 := KA0.belowAll b23
          replace KA1 := KA1.belowAll b23
          replace KW := KW.belowAll b23
          replace KX0 := KX0.belowAll b23
          replace KX1 := KX1.belowAll b23
          replace KG := KG.belowAll b23
          replace KH := KH.belowAll b23
          have cA00 : w23.cell? ⟨w.heap.size, 0, none⟩ = some (.slice A0 n0 c0) := KA0.cell 0
          have dA00 : ∀ o, (w23.alloc o).cell? ⟨w.heap.size, 0, none⟩ = some (.slice A0 n0 c0) := fun o => (KA0.alloc o).cell 0
          have cA01 : w23.cell? ⟨w.heap.size, 1, none⟩ = some (.slice Z0 m0 d0) := KA0.cell 1
          have dA01 : ∀ o, (w23.alloc o).cell? ⟨w.heap.size, 1, none⟩ = some (.slice Z0 m0 d0) := fun o => (KA0.alloc o).cell 1
          have cA10 : w23.cell? ⟨w.heap.size + 1, 0, none⟩ = some (.slice A1 n1 c1) := KA1.cell 0
          have dA10 : ∀ o, (w23.alloc o).cell? ⟨w.heap.size + 1, 0, none⟩ = some (.slice A1 n1 c1) := fun o => (KA1.alloc o).cell 0
          have cA11 : w23.cell? ⟨w.heap.size + 1, 1, none⟩ = some (.slice Z1 m1 d1) := KA1.cell 1
          have dA11 : ∀ o, (w23.alloc o).cell? ⟨w.heap.size + 1, 1, none⟩ = some (.slice Z1 m1 d1) := fun o => (KA1.alloc o).cell 1
          have cW0 : w23.cell? ⟨qW, 0, none⟩ = some (.slice A'1 p1 e1) := KW.cell 0
          have dW0 : ∀ o, (w23.alloc o).cell? ⟨qW, 0, none⟩ = some (.slice A'1 p1 e1) := fun o => (KW.alloc o).cell 0
          have cW1 : w23.cell? ⟨qW, 1, none⟩ = some (.slice A'2 p2 e2) := KW.cell 1
          have dW1 : ∀ o, (w23.alloc o).cell? ⟨qW, 1, none⟩ = some (.slice A'2 p2 e2) := fun o => (KW.alloc o).cell 1
          have cX00 : w23.cell? ⟨w5.heap.size, 0, none⟩ = some (.slice A'3 p3 e3) := KX0.cell 0
          have dX00 : ∀ o, (w23.alloc o).cell? ⟨w5.heap.size, 0, none⟩ = some (.slice A'3 p3 e3) := fun o => (KX0.alloc o).cell 0
          have cX01 : w23.cell? ⟨w5.heap.size, 1, none⟩ = some (.slice A'4 p4 e4) := KX0.cell 1
          have dX01 : ∀ o, (w23.alloc o).cell? ⟨w5.heap.size, 1, none⟩ = some (.slice A'4 p4 e4) := fun o => (KX0.alloc o).cell 1
          have cX10 : w23.cell? ⟨w7.heap.size, 0, none⟩ = some (.slice A'5 p5 e5) := KX1.cell 0
          have dX10 : ∀ o, (w23.alloc o).cell? ⟨w7.heap.size, 0, none⟩ = some (.slice A'5 p5 e5) := fun o => (KX1.alloc o).cell 0
          have cX11 : w23.cell? ⟨w7.heap.size, 1, none⟩ = some (.slice A'6 p6 e6) := KX1.cell 1
          have dX11 : ∀ o, (w23.alloc o).cell? ⟨w7.heap.size, 1, none⟩ = some (.slice A'6 p6 e6) := fun o => (KX1.alloc o).cell 1
          have cG0 : w23.cell? ⟨w9.heap.size, 0, none⟩ = some (.slice A'7 p7 e7) := KG.cell 0
          have dG0 : ∀ o, (w23.alloc o).cell? ⟨w9.heap.size, 0, none⟩ = some (.slice A'7 p7 e7) := fun o => (KG.alloc o).cell 0
          have cG1 : w23.cell? ⟨w9.heap.size, 1, none⟩ = some (.slice A'8 p8 e8) := KG.cell 1
          have dG1 : ∀ o, (w23.alloc o).cell? ⟨w9.heap.size, 1, none⟩ = some (.slice A'8 p8 e8) := fun o => (KG.alloc o).cell 1
          have cH0 : w23.cell? ⟨qH, 0, none⟩ = some (.slice A'13 p13 e13) := KH.cell 0
          have dH0 : ∀ o, (w23.alloc o).cell? ⟨qH, 0, none⟩ = some (.slice A'13 p13 e13) := fun o => (KH.alloc o).cell 0
          have cH1 : w23.cell? ⟨qH, 1, none⟩ = some (.slice A'14 p14 e14) := KH.cell 1
          have dH1 : ∀ o, (w23.alloc o).cell? ⟨qH, 1, none⟩ = some (.slice A'14 p14 e14) := fun o => (KH.alloc o).cell 1
          go_wp2_with fail
          go_ret
          exact ⟨rfl, B23⟩
    · clear hL1 a0
      have b1 : Below w.heap.size w ((w.alloc (.cells #[.slice A0 n0 c0, .slice Z0 m0 d0] 24)).alloc (.cells #[.slice A1 n1 c1, .slice Z1 m1 d1] 24)) := (((Below.refl _ _).alloc (by simp <;> omega) _).alloc (by simp <;> omega) _)
      have KA0 := (Blk.new w 24 #[(.slice A0 n0 c0), (.slice Z0 m0 d0)]).alloc (.cells #[.slice A1 n1 c1, .slice Z1 m1 d1] 24)
      have KA1 := Blk.new (w.alloc (.cells #[.slice A0 n0 c0, .slice Z0 m0 d0] 24)) 24 #[(.slice A1 n1 c1), (.slice Z1 m1 d1)]
      simp only [World.size_alloc] at KA1
      go_enter Try.func3, Try.ntmps3
      go_wp2_with fail
      generalize ((w.alloc (.cells #[.slice A0 n0 c0, .slice Z0 m0 d0] 24)).alloc (.cells #[.slice A1 n1 c1, .slice Z1 m1 d1] 24)) = w1 at *
      have B1 := b1
      have cA00 : w1.cell? ⟨w.heap.size, 0, none⟩ = some (.slice A0 n0 c0) := KA0.cell 0
      have dA00 : ∀ o, (w1.alloc o).cell? ⟨w.heap.size, 0, none⟩ = some (.slice A0 n0 c0) := fun o => (KA0.alloc o).cell 0
      have cA01 : w1.cell? ⟨w.heap.size, 1, none⟩ = some (.slice Z0 m0 d0) := KA0.cell 1
      have dA01 : ∀ o, (w1.alloc o).cell? ⟨w.heap.size, 1, none⟩ = some (.slice Z0 m0 d0) := fun o => (KA0.alloc o).cell 1
      have cA10 : w1.cell? ⟨w.heap.size + 1, 0, none⟩ = some (.slice A1 n1 c1) := KA1.cell 0
      have dA10 : ∀ o, (w1.alloc o).cell? ⟨w.heap.size + 1, 0, none⟩ = some (.slice A1 n1 c1) := fun o => (KA1.alloc o).cell 0
      have cA11 : w1.cell? ⟨w.heap.size + 1, 1, none⟩ = some (.slice Z1 m1 d1) := KA1.cell 1
      have dA11 : ∀ o, (w1.alloc o).cell? ⟨w.heap.size + 1, 1, none⟩ = some (.slice Z1 m1 d1) := fun o => (KA1.alloc o).cell 1
      refine (szTally_c (by omega) (by omega) (by omega) (by omega)).mono ?_
      rintro e w2 ⟨rfl, b2⟩
      clear cA00 dA00 cA01 dA01 cA10 dA10 cA11 dA11
      have B2 := below_step B1 b2
      replace KA0 := KA0.belowAll b2
      replace KA1 := KA1.belowAll b2
      have cA00 : w2.cell? ⟨w.heap.size, 0, none⟩ = some (.slice A0 n0 c0) := KA0.cell 0
      have dA00 : ∀ o, (w2.alloc o).cell? ⟨w.heap.size, 0, none⟩ = some (.slice A0 n0 c0) := fun o => (KA0.alloc o).cell 0
      have cA01 : w2.cell? ⟨w.heap.size, 1, none⟩ = some (.slice Z0 m0 d0) := KA0.cell 1
      have dA01 : ∀ o, (w2.alloc o).cell? ⟨w.heap.size, 1, none⟩ = some (.slice Z0 m0 d0) := fun o => (KA0.alloc o).cell 1
      have cA10 : w2.cell? ⟨w.heap.size + 1, 0, none⟩ = some (.slice A1 n1 c1) := KA1.cell 0
      have dA10 : ∀ o, (w2.alloc o).cell? ⟨w.heap.size + 1, 0, none⟩ = some (.slice A1 n1 c1) := fun o => (KA1.alloc o).cell 0
      have cA11 : w2.cell? ⟨w.heap.size + 1, 1, none⟩ = some (.slice Z1 m1 d1) := KA1.cell 1
      have dA11 : ∀ o, (w2.alloc o).cell? ⟨w.heap.size + 1, 1, none⟩ = some (.slice Z1 m1 d1) := fun o => (KA1.alloc o).cell 1
      rw [← HL0.out]
      go_wp2_with fail
      refine (szTally_c (by omega) (by omega) (by omega) (by omega)).mono ?_
      rintro e w3 ⟨rfl, b3⟩
      clear cA00 dA00 cA01 dA01 cA10 dA10 cA11 dA11
      have B3 := below_step B2 b3
      replace KA0 := KA0.belowAll b3
      replace KA1 := KA1.belowAll b3
      have cA00 : w3.cell? ⟨w.heap.size, 0, none⟩ = some (.slice A0 n0 c0) := KA0.cell 0
      have dA00 : ∀ o, (w3.alloc o).cell? ⟨w.heap.size, 0, none⟩ = some (.slice A0 n0 c0) := fun o => (KA0.alloc o).cell 0
      have cA01 : w3.cell? ⟨w.heap.size, 1, none⟩ = some (.slice Z0 m0 d0) := KA0.cell 1
      have dA01 : ∀ o, (w3.alloc o).cell? ⟨w.heap.size, 1, none⟩ = some (.slice Z0 m0 d0) := fun o => (KA0.alloc o).cell 1
      have cA10 : w3.cell? ⟨w.heap.size + 1, 0, none⟩ = some (.slice A1 n1 c1) := KA1.cell 0
      have dA10 : ∀ o, (w3.alloc o).cell? ⟨w.heap.size + 1, 0, none⟩ = some (.slice A1 n1 c1) := fun o => (KA1.alloc o).cell 0
      have cA11 : w3.cell? ⟨w.heap.size + 1, 1, none⟩ = some (.slice Z1 m1 d1) := KA1.cell 1
      have dA11 : ∀ o, (w3.alloc o).cell? ⟨w.heap.size + 1, 1, none⟩ = some (.slice Z1 m1 d1) := fun o => (KA1.alloc o).cell 1
      rw [← HL1.out]
      go_wp2_with fail
      go_ret
      exact ⟨rfl, B3⟩
  · clear hL0 a0
    have b1 : Below w.heap.size w ((w.alloc (.cells #[.slice A0 n0 c0, .slice Z0 m0 d0] 24)).alloc (.cells #[.slice A1 n1 c1, .slice Z1 m1 d1] 24)) := (((Below.refl _ _).alloc (by simp <;> omega) _).alloc (by simp <;> omega) _)
    have KA0 := (Blk.new w 24 #[(.slice A0 n0 c0), (.slice Z0 m0 d0)]).alloc (.cells #[.slice A1 n1 c1, .slice Z1 m1 d1] 24)
    have KA1 := Blk.new (w.alloc (.cells #[.slice A0 n0 c0, .slice Z0 m0 d0] 24)) 24 #[(.slice A1 n1 c1), (.slice Z1 m1 d1)]
    simp only [World.size_alloc] at KA1
    go_enter Try.func3, Try.ntmps3
    go_wp2_with fail
    generalize ((w.alloc (.cells #[.slice A0 n0 c0, .slice Z0 m0 d0] 24)).alloc (.cells #[.slice A1 n1 c1, .slice Z1 m1 d1] 24)) = w1 at *
    have B1 := b1
    have cA00 : w1.cell? ⟨w.heap.size, 0, none⟩ = some (.slice A0 n0 c0) := KA0.cell 0
    have dA00 : ∀ o, (w1.alloc o).cell? ⟨w.heap.size, 0, none⟩ = some (.slice A0 n0 c0) := fun o => (KA0.alloc o).cell 0
    have cA01 : w1.cell? ⟨w.heap.size, 1, none⟩ = some (.slice Z0 m0 d0) := KA0.cell 1
    have dA01 : ∀ o, (w1.alloc o).cell? ⟨w.heap.size, 1, none⟩ = some (.slice Z0 m0 d0) := fun o => (KA0.alloc o).cell 1
    have cA10 : w1.cell? ⟨w.heap.size + 1, 0, none⟩ = some (.slice A1 n1 c1) := KA1.cell 0
    have dA10 : ∀ o, (w1.alloc o).cell? ⟨w.heap.size + 1, 0, none⟩ = some (.slice A1 n1 c1) := fun o => (KA1.alloc o).cell 0
    have cA11 : w1.cell? ⟨w.heap.size + 1, 1, none⟩ = some (.slice Z1 m1 d1) := KA1.cell 1
    have dA11 : ∀ o, (w1.alloc o).cell? ⟨w.heap.size + 1, 1, none⟩ = some (.slice Z1 m1 d1) := fun o => (KA1.alloc o).cell 1
    refine (szTally_c (by omega) (by omega) (by omega) (by omega)).mono ?_
    rintro e w2 ⟨rfl, b2⟩
    clear cA00 dA00 cA01 dA01 cA10 dA10 cA11 dA11
    have B2 := below_step B1 b2
    replace KA0 := KA0.belowAll b2
    replace KA1 := KA1.belowAll b2
    have cA00 : w2.cell? ⟨w.heap.size, 0, none⟩ = some (.slice A0 n0 c0) := KA0.cell 0
    have dA00 : ∀ o, (w2.alloc o).cell? ⟨w.heap.size, 0, none⟩ = some (.slice A0 n0 c0) := fun o => (KA0.alloc o).cell 0
    have cA01 : w2.cell? ⟨w.heap.size, 1, none⟩ = some (.slice Z0 m0 d0) := KA0.cell 1
    have dA01 : ∀ o, (w2.alloc o).cell? ⟨w.heap.size, 1, none⟩ = some (.slice Z0 m0 d0) := fun o => (KA0.alloc o).cell 1
    have cA10 : w2.cell? ⟨w.heap.size + 1, 0, none⟩ = some (.slice A1 n1 c1) := KA1.cell 0
    have dA10 : ∀ o, (w2.alloc o).cell? ⟨w.heap.size + 1, 0, none⟩ = some (.slice A1 n1 c1) := fun o => (KA1.alloc o).cell 0
    have cA11 : w2.cell? ⟨w.heap.size + 1, 1, none⟩ = some (.slice Z1 m1 d1) := KA1.cell 1
    have dA11 : ∀ o, (w2.alloc o).cell? ⟨w.heap.size + 1, 1, none⟩ = some (.slice Z1 m1 d1) := fun o => (KA1.alloc o).cell 1
    rw [← HL0.out]
    go_wp2_with fail
    go_ret
    exact ⟨rfl, B2⟩

set_option maxRecDepth 100000 in
theorem lifted (os : Os) (started : os.Started) (H : Type) (enc : TypeId × Value → H) :
    ReturnsInHanded {} Try.checked os 3 .any (Rows.fnExactJoinTallySpec.pre6 enc Try.prog Try.f3 Rows.fnExactJoinTallyRow.domain false) (Rows.fnExactJoinTallySpec.post enc Try.prog Try.f3 false true false false) := by
  refine returnsInHanded_of_change (C := Try.checked) own started (by kernel_rfl) Try.func3
    (ChangeSpec.witness6 (enc := enc) (C := Try.checked) false ⟨#[], #[.agg #[.slice none 0 0, .slice none 0 0], .agg #[.slice none 0 0, .slice none 0 0]], []⟩ 8 (by kernel_rfl) (by kernel_rfl) (by kernel_rfl) (by kernel_rfl)) ?_
  intro W base args ds gs before hval0 hW hcnd _
  have hval : ∀ (j : Nat) t v, Try.f3.params[j]? = some t → args[j]? = some v → Value.okWide Try.prog W .any base t v := hval0
  have hW' := hW
  obtain ⟨p, q, hA0, hV, rfl, hfz, hnd⟩ := hW
  have hA : DataW.TrodAll enc Try.prog W 0 (fun _ => true) true Try.f3.params.toList args.toList ds p := hA0
  rw [Try.params3] at hA hval
  obtain ⟨v0, vs0, d0, ds0, p0, q0, hargs, rfl, rfl, h0, r0⟩ := trodAll_cons hA
  obtain ⟨v1, vs1, d1, ds1, p1, q1, rfl, rfl, rfl, h1, r1⟩ := trodAll_cons r0
  obtain ⟨rfl, rfl, rfl⟩ := trodAll_nil r1
  obtain rfl : args = #[v0, v1] := by cases args; simp_all
  obtain ⟨rfl, rfl⟩ := trodVars_none hV
  have k0 := h0
  have lt0 : ∀ x ∈ p0, x.block < W.heap.size := by obtain ⟨m, hm⟩ := k0; exact DataW.trod_lt m _ _ _ hm
  obtain ⟨A0, n0, c0, xs0, B0, m0, d0, ys0, rfl, ⟨hnc0, hmx0, R0⟩, ⟨gnc0, gmx0, T0⟩⟩ := open_TallyA (hval 0 24 v0 rfl rfl) h0
  have k1 := h1
  have lt1 : ∀ x ∈ p1, x.block < W.heap.size := by obtain ⟨m, hm⟩ := k1; exact DataW.trod_lt m _ _ _ hm
  obtain ⟨A1, n1, c1, xs1, B1, m1, d1, ys1, rfl, ⟨hnc1, hmx1, R1⟩, ⟨gnc1, gmx1, T1⟩⟩ := open_TallyA (hval 1 24 v1 rfl rfl) h1
  clear hA0 hval0
  refine (walk A0 n0 c0 xs0 B0 m0 d0 ys0 A1 n1 c1 xs1 B1 m1 d1 ys1 W hnc0 hmx0 R0 gnc0 gmx0 T0 hnc1 hmx1 R1 gnc1 gmx1 T1).mono fun e W' ⟨he, bel⟩ => ?_
  subst he
  exact ⟨_, rfl, _, _, _, [], _, [], hW', trodAll_mk1 (shut_bool Try.underlying4 _), (trodAll_cons_mk (Below.trod laidOut (by kernel_rfl) (of_decide_eq_true (by kernel_rfl)) k0 bel lt0) (trodAll_cons_mk (Below.trod laidOut (by kernel_rfl) (of_decide_eq_true (by kernel_rfl)) k1 bel lt1) trodAll_mk0)), rfl, bel.frame _, fun h => by cases h⟩

theorem proved : Rows.FnExactJoinTallySaid :=
  OpenClaim.holds_of_wide 3 Try.f3 rfl rfl rfl rfl rfl rfl rfl ⟨rfl, rfl, rfl, rfl, rfl⟩ rfl rfl rfl rfl rfl (by kernel_rfl) Try.func3 (by kernel_rfl)
    (of_decide_eq_true (by kernel_rfl)) (by unfold Func.isWrapper; first | (rw [if_pos (by decide +kernel)]; kernel_rfl) | (rw [if_neg (by decide +kernel)]; exact ⟨rfl, rfl⟩))
    (fun os started H enc _ => lifted os started H enc)
end Go.Proofs.Ytopjdidigfdhbaa.exactJoinTally
