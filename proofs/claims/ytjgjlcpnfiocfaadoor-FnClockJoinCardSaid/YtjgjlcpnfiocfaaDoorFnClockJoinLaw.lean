/- FnClockJoin: joined clocks are the least ones behind both; every count is that of one of both; the order does not matter. The card ties the listed variables to the program's text; the law's road does not look into them. -/
import Derived.Test.YtjgjlcpnfiocfaaDoorOpenD
import Derived.Test.YtjgjlcpnfiocfaaDoorDraws
import Derived.Test.YtjgjlcpnfiocfaaDoorSame
import Derived.Test.YtjgjlcpnfiocfaaDoorClockP
namespace Go.Proofs.YtjgjlcpnfiocfaaDoor.fnClockJoin
open Go.ChangeShapes Go.WideShapes Go.ChangeAt Go.RowKit

set_option maxRecDepth 100000 in
set_option maxHeartbeats 16000000 in
theorem walk (A : Option Addr) (n c : Nat) (w : World) (hnc : n ≤ c) (hmx : c ≤ maxLen) (hb : BY w w.heap.size A n) :
    Calls Tryd.prog 9 #[.slice A n c] w fun e w' => e = .returned (.bool true) ∧ Below w.heap.size w w' := by
  by_cases hn : n ≤ 1048576
  · go_enter Tryd.func9, Tryd.ntmps9
    go_wp2_with fail
    refine (DrawClockJoin_c hnc hmx hb).mono ?_
    rintro e w1 ⟨u, k, xs, v, m, ys, rfl, o1, o2, b1⟩
    have B1 := b1
    obtain ⟨p, hp⟩ : ∃ p, (clockB xs && clockB ys) = p := ⟨_, rfl⟩
    have hempty : p = false → joinL xs ys = [] := fun h => by rw [h] at hp; simp only [joinL, hp]; rfl
    have P := hide hp; have E := hide hempty; clear hp hempty
    go_wp2_with fail
    refine (impl_ClockJoin_c o1.si o2.si).mono ?_
    rintro e w2 ⟨r, q, rfl, o3, b2⟩
    have B2 := below_step B1 b2
    replace o1 := o1.below b2
    replace o2 := o2.below b2
    go_wp2_with fail
    refine (spec_ClockJoin_c o1.si o2.si).mono ?_
    rintro e w3 ⟨r', q', rfl, o4, b3⟩
    have B3 := below_step B2 b3
    replace o1 := o1.below b3
    replace o2 := o2.below b3
    replace o3 := o3.below b3
    go_wp2_with fail
    refine (sameInts_c o3.si o4.si).mono ?_
    rintro e w4 ⟨rfl, b4⟩
    have B4 := below_step B3 b4
    replace o1 := o1.below b4
    replace o2 := o2.below b4
    replace o3 := o3.below b4
    replace o4 := o4.below b4
    rw [decide_eq_true rfl]
    clear o4
    go_wp2_with fail
    refine (impl_ClockJoin_c o2.si o1.si).mono ?_
    rintro e w5 ⟨r'', q'', rfl, o5, b5⟩
    have B5 := below_step B4 b5
    replace o1 := o1.below b5
    replace o2 := o2.below b5
    replace o3 := o3.below b5
    go_wp2_with fail
    refine (sameInts_c o3.si o5.si).mono ?_
    rintro e w6 ⟨rfl, b6⟩
    have B6 := below_step B5 b6
    replace o1 := o1.below b6
    replace o2 := o2.below b6
    replace o3 := o3.below b6
    replace o5 := o5.below b6
    rw [decide_eq_true (join_comm ys xs)]
    clear o5
    cases p
    · have hq : q = 0 := by have := o3.len; rw [E.out rfl] at this; simpa using this.symm
      subst hq
      obtain ⟨A3, c3, rfl⟩ := o3.shape
      go_wp2_with fail
      refine (alive_c).mono ?_
      rintro e w7 ⟨rfl, b7⟩
      have B7 := below_step B6 b7
      replace o1 := o1.below b7
      replace o2 := o2.below b7
      replace o3 := o3.below b7
      go_wp2_with fail
      go_ret
      exact ⟨rfl, B7⟩
    · obtain ⟨j1, j2, j3, j4, l1, l2, l3, jk⟩ := join_law P.out
      have e1 : k = 4 := by rw [← o1.len, l1]
      have e2 : m = 4 := by rw [← o2.len, l2]
      have e3 : q = 4 := by rw [← o3.len, l3]
      subst e1; subst e2; subst e3
      have J1 := hide j1; have J2 := hide j2; have J3 := hide j3; have J4 := hide j4; have JK := hide jk; clear j1 j2 j3 j4 jk l1 l2 l3
      have s1 := o1.si
      have s2 := o2.si
      have s3 := o3.si
      obtain ⟨A1, c1, rfl, _, _, R1⟩ := s1
      obtain ⟨A2, c2, rfl, _, _, R2⟩ := s2
      obtain ⟨A3, c3, rfl, _, _, R3⟩ := s3
      go_wp2_with fail
      go_loopw [6] (fun i wr => ∃ k : Nat, k ≤ 4 ∧ i = .int .i64 k ∧ Below w6.heap.size w6 wr) (fun i _ => 4 - (intOf i).toNat)
      case atStart => exact ⟨0, Nat.zero_le _, rfl, Below.refl _ _⟩
      case round =>
        obtain ⟨k, hk, rfl, hbel⟩ := hrel
        by_cases hlt : k < 4
        · obtain ⟨a, b, z, ha, hb', hz, hor⟩ := JK.out k hlt
          obtain ⟨q1, f1, t1, rfl, hq1, ht1, hc1⟩ := R1.at_ hlt
          rw [ha] at ht1; injection ht1 with ht1; subst ht1
          have d1 := (hbel.cell (p := ⟨q1, f1 + k, none⟩) hq1).trans hc1
          clear hc1
          obtain ⟨q2, f2, t2, rfl, hq2, ht2, hc2⟩ := R2.at_ hlt
          rw [hb'] at ht2; injection ht2 with ht2; subst ht2
          have d2 := (hbel.cell (p := ⟨q2, f2 + k, none⟩) hq2).trans hc2
          clear hc2
          obtain ⟨q3, f3, t3, rfl, hq3, ht3, hc3⟩ := R3.at_ hlt
          rw [hz] at ht3; injection ht3 with ht3; subst ht3
          have d3 := (hbel.cell (p := ⟨q3, f3 + k, none⟩) hq3).trans hc3
          clear hc3
          clear ha hb' hz
          have k0 : (0 : Int) ≤ k := by omega
          have k4 : (k : Int) < 4 := by omega
          by_cases hza : z = a
          · subst hza
            clear hor
            go_wp2
            go_quiet (fail)
            go_wp2
            go_roundw
            case rel => exact ⟨k + 1, by omega, by go_num, below_drewN hbel _⟩
            case measure => simp [intOf]; omega
          · have hzb : z = b := by rcases hor with h | h; exact absurd h hza; exact h
            subst hzb
            have hn1 : (z != a) = true := by simpa using hza
            clear hor hza
            go_wp2
            go_quiet (fail)
            go_wp2
            go_roundw
            case rel => exact ⟨k + 1, by omega, by go_num, below_drewN hbel _⟩
            case measure => simp [intOf]; omega
        · clear R1 R2 R3
          obtain ⟨wo, rfl⟩ : ∃ wo : World, wo = wr := ⟨_, rfl⟩
          have B7 := below_step B6 hbel
          replace o1 := o1.below hbel
          replace o2 := o2.below hbel
          replace o3 := o3.below hbel
          go_wp2_with fail
          refine (impl_ClockBefore_c o1.si o3.si).mono ?_
          rintro e w8 ⟨rfl, b8⟩
          have B8 := below_step B7 b8
          replace o1 := o1.below b8
          replace o2 := o2.below b8
          replace o3 := o3.below b8
          rw [J2.out]
          go_wp2_with fail
          refine (impl_ClockBefore_c o2.si o3.si).mono ?_
          rintro e w9 ⟨rfl, b9⟩
          have B9 := below_step B8 b9
          replace o1 := o1.below b9
          replace o2 := o2.below b9
          replace o3 := o3.below b9
          rw [J3.out]
          go_wp2_with fail
          refine (impl_ClockJoin_c o3.si o1.si).mono ?_
          rintro e w10 ⟨r5, q5, rfl, o5, b10⟩
          have B10 := below_step B9 b10
          replace o1 := o1.below b10
          replace o2 := o2.below b10
          replace o3 := o3.below b10
          go_wp2_with fail
          refine (sameInts_c o5.si o3.si).mono ?_
          rintro e w11 ⟨rfl, b11⟩
          have B11 := below_step B10 b11
          replace o1 := o1.below b11
          replace o2 := o2.below b11
          replace o3 := o3.below b11
          replace o5 := o5.below b11
          rw [decide_eq_true J4.out]
          go_wp2_with fail
          refine (impl_ClockValid_c o3.si).mono ?_
          rintro e w12 ⟨rfl, b12⟩
          have B12 := below_step B11 b12
          replace o1 := o1.below b12
          replace o2 := o2.below b12
          replace o3 := o3.below b12
          replace o5 := o5.below b12
          rw [J1.out]
          go_wp2_with fail
          go_ret
          exact ⟨rfl, B12⟩
  · go_enter Tryd.func9, Tryd.ntmps9
    go_wp2_with fail
    go_ret
    exact ⟨rfl, Below.refl _ _⟩

theorem door_met (os : Os) (args : Array Value) : laidMetH Tryd.prog Rows.fnClockJoinRow.laid ((World.doorLaid Tryd.prog 24 os).forCall (fun _ _ => 0) ⟨#[], args, []⟩).memory :=
  laidMetH_of_parts3 (fuel := 8) (laidMet_of_run' 8 (by kernel_rfl) (by kernel_rfl)) (by kernel_rfl) (by kernel_rfl)
set_option maxRecDepth 100000 in
theorem lifted (os : Os) (started : os.Started) (H : Type) (enc : TypeId × Value → H) :
    ReturnsInHanded {} Tryd.checked os 9 .any (fun w args => (Rows.fnClockJoinSpec.pre enc Tryd.prog Tryd.f9 [] false w args ∧ laidMetH Tryd.prog Rows.fnClockJoinRow.laid w) ∧ sizedMet enc Tryd.prog Tryd.f9 (OpenSpec.ofChange Rows.fnClockJoinSpec) false w args)
      (Rows.fnClockJoinSpec.post enc Tryd.prog Tryd.f9 false true false false) := by
  refine returnsInHanded_of_change_and (C := Tryd.checked) (X := fun w _ => laidMetH Tryd.prog Rows.fnClockJoinRow.laid w) (fun _ _ _ hh h => h.of_heap hh) own started (by kernel_rfl) Tryd.func9
    (ChangeSpec.witness_shaped (enc := enc) (C := Tryd.checked) (os := os) (X := fun w _ => laidMetH Tryd.prog Rows.fnClockJoinRow.laid w) false (World.doorLaid Tryd.prog 24 os) #[.slice none 0 0] 8 rfl (World.shaped_of_RefB (by kernel_rfl) (by kernel_rfl)) (by kernel_rfl) (by kernel_rfl) (by kernel_rfl) (door_met os _)) ?_
  intro W base args ds gs before hval0 hW _ _ _ _
  have hval : ∀ (j : Nat) t v, Tryd.f9.params[j]? = some t → args[j]? = some v → Value.okWide Tryd.prog W .any base t v := hval0
  have hW' := hW
  obtain ⟨p, q, hA0, hV, rfl, hfz, hnd⟩ := hW
  have hA : DataW.TrodAll enc Tryd.prog W 0 (fun _ => true) true Tryd.f9.params.toList args.toList ds p := hA0
  rw [Tryd.params9] at hA hval
  obtain ⟨v0, vs0, d0, ds0, p0, q0, hargs, rfl, rfl, h0, r0⟩ := trodAll_cons hA
  obtain ⟨rfl, rfl, rfl⟩ := trodAll_nil r0
  obtain rfl : args = #[v0] := by cases args; simp_all
  obtain ⟨rfl, rfl⟩ := trodVars_none hV
  have k0 := h0
  have lt0 : ∀ x ∈ p0, x.block < W.heap.size := by obtain ⟨m, hm⟩ := k0; exact DataW.trod_lt m _ _ _ hm
  obtain ⟨A0, n0, c0, rfl, hnc0, hmx0, R0⟩ := open_bytesA (hval 0 22 v0 rfl rfl) h0
  clear hA0 hval0
  refine (walk A0 n0 c0 W hnc0 hmx0 R0).mono fun e W' ⟨he, bel⟩ => ?_
  subst he
  exact ⟨_, rfl, _, _, _, [], _, [], hW', trodAll_mk1 (shut_bool Tryd.underlying4 _), (trodAll_cons_mk (Below.trod laidOut (by kernel_rfl) (of_decide_eq_true (by kernel_rfl)) k0 bel lt0) trodAll_mk0), rfl, bel.frame _, fun h => by cases h⟩
theorem row_holds : Rows.FnClockJoinSaid :=
  OpenClaim.holds_of_wide 9 Tryd.f9 rfl rfl rfl rfl rfl rfl rfl ⟨rfl, rfl, rfl, rfl, rfl⟩ rfl rfl rfl rfl rfl (by kernel_rfl) Tryd.func9 (by kernel_rfl)
    (of_decide_eq_true (by kernel_rfl)) (by unfold Func.isWrapper; first | (rw [if_pos (by decide +kernel)]; kernel_rfl) | (rw [if_neg (by decide +kernel)]; exact ⟨rfl, rfl⟩))
    (fun os started H enc _ => lifted os started H enc)
theorem proved : Rows.FnClockJoinCardSaid :=
  Claim7.holds_tied_plain_at .later [] [.data, .data, .data] true (true, "f2c1c1767bf673cc075bf186ddbc47504e5f3e3506e78108f3e747c99c658025") false
    row_holds (fun _ h => by cases h) (by kernel_rfl) (fun _ h => by cases h) fnClockJoin_row_tie rfl ⟨rfl, rfl⟩ (by kernel_rfl) rfl
    (fun f fn hf hfn => by
      obtain rfl : f = 9 := Option.some.inj ((show Tryd.prog.funcNamed "loop.example/historychecker/laws.FnClockJoin" = some 9 by kernel_rfl).symm.trans hf) |>.symm
      obtain rfl : fn = Tryd.f9 := (Option.some.inj (Tryd.func9.symm.trans hfn)).symm
      exact ⟨by kernel_rfl, fun j t ht => by
        rw [Tryd.params9] at ht
        have hm : t ∈ [22] := by simpa using Array.mem_of_getElem? ht
        have hall : ([22].all fun u => !Tryd.prog.wantsStandIn u) = true := by kernel_rfl
        exact (show Tryd.prog.wantsStandIn t = false by simpa using List.all_eq_true.1 hall t hm)⟩)
    (by kernel_rfl)
end Go.Proofs.YtjgjlcpnfiocfaaDoor.fnClockJoin
