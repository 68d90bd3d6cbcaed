/- FnCountEdges: edges counted by kinds are together the edges. The card ties the listed variables to the program's text; the law's road does not look into them. -/
import Derived.Test.YtopjdidigfdhbaaDoorOpenB
import Derived.Test.YtopjdidigfdhbaaDoorDrawE
import Derived.Test.YtopjdidigfdhbaaDoorSame
import Derived.Test.YtopjdidigfdhbaaDoorCountP
namespace Go.Proofs.YtopjdidigfdhbaaDoor.fnCountEdges
open Go.ChangeShapes Go.WideShapes Go.ChangeAt Go.RowKit

set_option maxRecDepth 100000 in
set_option maxHeartbeats 16000000 in
theorem walk (A : Option Addr) (n c : Nat) (w : World) (hnc : n ≤ c) (hmx : c ≤ maxLen) (hb : BY w w.heap.size A n) :
    Calls Tryd.prog 5 #[.slice A n c] w fun e w' => e = .returned (.bool true) ∧ Below w.heap.size w w' := by
  by_cases hn : n ≤ 1048576
  · go_enter Tryd.func5, Tryd.ntmps5
    go_wp2_with fail
    refine (DrawCountEdges_c hnc hmx hb).mono ?_
    rintro e w1 ⟨many, v1, k1, ts, rfl, o1, b1⟩
    obtain ⟨A1, c1, rfl⟩ := o1.shape
    replace o1 := o1.s3
    obtain ⟨p, hp⟩ : ∃ p, edgesB many ts = p := ⟨_, rfl⟩
    have P := hide hp; clear hp
    go_wp2_with fail
    refine (impl_CountEdges_c o1).mono ?_
    rintro e w2 ⟨v2, k2, rfl, o2, b2⟩
    replace o2 := o2.si
    obtain ⟨A2, c2, rfl⟩ := o2.shape
    have B2 := below_step b1 b2
    go_wp2_with fail
    refine (spec_CountEdges_c (o1.below b2)).mono ?_
    rintro e w3 ⟨v3, k3, rfl, o3, b3⟩
    replace o3 := o3.si
    go_wp2_with fail
    refine (sameInts_c (o2.below b3) o3).mono ?_
    rintro e w4 ⟨rfl, b4⟩
    rw [show decide (ceL many ts = ceL many ts) = true by simp]
    have B4 := below_step (below_step B2 b3) b4
    replace o2 := (o2.below b3).below b4
    replace o1 := ((o1.below b2).below b3).below b4
    clear o3
    go_wp2_with fail
    refine (spec_EdgesValid_c o1).mono ?_
    rintro e w5 ⟨rfl, b5⟩
    replace o1 := o1.below b5
    replace o2 := o2.below b5
    have B5 := below_step B4 b5
    rw [P.out]
    have hl2 := o2.len
    cases p
    · have hk : k2 = 0 := by rw [count_no P.out] at hl2; simpa using hl2.symm
      subst hk
      clear hl2
      go_wp2_with fail
      refine (alive_c).mono ?_
      rintro e w6 ⟨rfl, b6⟩
      go_wp2_with fail
      go_ret
      exact ⟨rfl, below_step B5 b6⟩
    · obtain ⟨h1, h2, h3⟩ := count_law P.out
      have hk : k2 = 4 := by omega
      subst hk
      have hl1 := o1.len
      rw [hl1] at h1
      have H1 := hide h1; have H3 := hide h3; have HL := hide hl2
      clear h1 h2 h3 hl1 hl2
      obtain ⟨_, _, e2, hnc2, _, R2⟩ := o2
      injection e2 with e2a _ e2c; subst e2a; subst e2c
      have hb1 := o1.bd
      go_wp2_with fail
      go_loop [6, 7] (fun s i => ∃ j : Nat, j ≤ 4 ∧ i = .int .i64 j ∧ s = .int .i64 ((ceL many ts).take j).sum) (fun _ i => 4 - (intOf i).toNat)
      case atStart => exact ⟨0, by omega, rfl, rfl⟩
      case round =>
        obtain ⟨j, hj, rfl, rfl⟩ := hrel
        obtain ⟨s, hs⟩ : ∃ s, ((ceL many ts).take j).sum = s := ⟨_, rfl⟩
        have hsb := sum_bd (ceL many ts) j H3.out
        rw [hs, HL.out] at hsb
        rw [hs]
        obtain ⟨s0, s1⟩ := hsb
        have HS := hide hs; clear hs
        by_cases hlt : j < 4
        · obtain ⟨b, off, x, rfl, hbb, hx, hc⟩ := R2.at_ hlt
          have hxb := H3.out x (List.mem_of_getElem? hx)
          obtain ⟨x0, x1⟩ := hxb
          have hstep := sum_snoc hx
          have HSt := hide hstep; clear hstep hx
          have j0 : (0 : Int) ≤ j := by omega
          have j2 : (j : Int) < 4 := by omega
          go_wp2_with fail
          go_round
          case rel => exact ⟨j + 1, by omega, by go_num, by rw [HSt.out, HS.out]⟩
          case measure => simp [intOf]; omega
        · obtain rfl : j = 4 := by omega
          have hfin : s = (k1 : Int) := by rw [← HS.out, ← H1.out, List.take_of_length_le (by rw [HL.out]; omega)]
          subst hfin
          clear HS
          go_wp2_with fail
          go_ret
          exact ⟨rfl, B5⟩
  · go_enter Tryd.func5, Tryd.ntmps5
    go_wp2_with fail
    go_ret
    exact ⟨rfl, Below.refl _ _⟩

theorem door_met (os : Os) (args : Array Value) : laidMetH Tryd.prog Rows.fnCountEdgesRow.laid ((World.doorLaid Tryd.prog 24 os).forCall (fun _ _ => 0) ⟨#[], args, []⟩).memory :=
  laidMetH_of_parts3 (fuel := 8) (laidMet_of_run' 8 (by kernel_rfl) (by kernel_rfl)) (by kernel_rfl) (by kernel_rfl)
set_option maxRecDepth 100000 in
theorem lifted (os : Os) (started : os.Started) (H : Type) (enc : TypeId × Value → H) :
    ReturnsInHanded {} Tryd.checked os 5 .any (fun w args => (Rows.fnCountEdgesSpec.pre enc Tryd.prog Tryd.f5 [] false w args ∧ laidMetH Tryd.prog Rows.fnCountEdgesRow.laid w) ∧ sizedMet enc Tryd.prog Tryd.f5 (OpenSpec.ofChange Rows.fnCountEdgesSpec) false w args)
      (Rows.fnCountEdgesSpec.post enc Tryd.prog Tryd.f5 false true false false) := by
  refine returnsInHanded_of_change_and (C := Tryd.checked) (X := fun w _ => laidMetH Tryd.prog Rows.fnCountEdgesRow.laid w) (fun _ _ _ hh h => h.of_heap hh) own started (by kernel_rfl) Tryd.func5
    (ChangeSpec.witness_shaped (enc := enc) (C := Tryd.checked) (os := os) (X := fun w _ => laidMetH Tryd.prog Rows.fnCountEdgesRow.laid w) false (World.doorLaid Tryd.prog 24 os) #[.slice none 0 0] 8 rfl (World.shaped_of_RefB (by kernel_rfl) (by kernel_rfl)) (by kernel_rfl) (by kernel_rfl) (by kernel_rfl) (door_met os _)) ?_
  intro W base args ds gs before hval0 hW _ _ _ _
  have hval : ∀ (j : Nat) t v, Tryd.f5.params[j]? = some t → args[j]? = some v → Value.okWide Tryd.prog W .any base t v := hval0
  have hW' := hW
  obtain ⟨p, q, hA0, hV, rfl, hfz, hnd⟩ := hW
  have hA : DataW.TrodAll enc Tryd.prog W 0 (fun _ => true) true Tryd.f5.params.toList args.toList ds p := hA0
  rw [Tryd.params5] at hA hval
  obtain ⟨v0, vs0, d0, ds0, p0, q0, hargs, rfl, rfl, h0, r0⟩ := trodAll_cons hA
  obtain ⟨rfl, rfl, rfl⟩ := trodAll_nil r0
  obtain rfl : args = #[v0] := by cases args; simp_all
  obtain ⟨rfl, rfl⟩ := trodVars_none hV
  have k0 := h0
  have lt0 : ∀ x ∈ p0, x.block < W.heap.size := by obtain ⟨m, hm⟩ := k0; exact DataW.trod_lt m _ _ _ hm
  obtain ⟨A0, n0, c0, rfl, hnc0, hmx0, R0⟩ := open_bytesA (hval 0 22 v0 rfl rfl) h0
  clear hA0 hval0
  refine (walk A0 n0 c0 W hnc0 hmx0 R0).mono fun e W' ⟨he, bel⟩ => ?_
  subst he
  exact ⟨_, rfl, _, _, _, [], _, [], hW', trodAll_mk1 (shut_bool Tryd.underlying4 _), (trodAll_cons_mk (Below.trod laidOut (by kernel_rfl) (of_decide_eq_true (by kernel_rfl)) k0 bel lt0) trodAll_mk0), rfl, bel.frame _, fun h => by cases h⟩
theorem row_holds : Rows.FnCountEdgesSaid :=
  OpenClaim.holds_of_wide 5 Tryd.f5 rfl rfl rfl rfl rfl rfl rfl ⟨rfl, rfl, rfl, rfl, rfl⟩ rfl rfl rfl rfl rfl (by kernel_rfl) Tryd.func5 (by kernel_rfl)
    (of_decide_eq_true (by kernel_rfl)) (by unfold Func.isWrapper; first | (rw [if_pos (by decide +kernel)]; kernel_rfl) | (rw [if_neg (by decide +kernel)]; exact ⟨rfl, rfl⟩))
    (fun os started H enc _ => lifted os started H enc)
theorem proved : Rows.FnCountEdgesCardSaid :=
  Claim7.holds_tied_plain_at .later [] [.data, .data, .data] true (true, "750ad089a0909c8e2fda4b82ce8af6d79673fc2283ed16af9c51f11c2587aea3") false
    row_holds (fun _ h => by cases h) (by kernel_rfl) (fun _ h => by cases h) fnCountEdges_row_tie rfl ⟨rfl, rfl⟩ (by kernel_rfl) rfl
    (fun f fn hf hfn => by
      obtain rfl : f = 5 := Option.some.inj ((show Tryd.prog.funcNamed "loop.example/historychecker/laws.FnCountEdges" = some 5 by kernel_rfl).symm.trans hf) |>.symm
      obtain rfl : fn = Tryd.f5 := (Option.some.inj (Tryd.func5.symm.trans hfn)).symm
      exact ⟨by kernel_rfl, fun j t ht => by
        rw [Tryd.params5] at ht
        have hm : t ∈ [22] := by simpa using Array.mem_of_getElem? ht
        have hall : ([22].all fun u => !Tryd.prog.wantsStandIn u) = true := by kernel_rfl
        exact (show Tryd.prog.wantsStandIn t = false by simpa using List.all_eq_true.1 hall t hm)⟩)
    (by kernel_rfl)
end Go.Proofs.YtopjdidigfdhbaaDoor.fnCountEdges
