/- FnInShared: a shared set has as many numbers as are in it less those out, and they ascend. The library's table that the walk reads is tied to the program's text by the card. -/
import Derived.Test.YtcoienlblhbkpaaDoorOpenB
import Derived.Test.YtcoienlblhbkpaaDoorDraw9
import Derived.Test.YtcoienlblhbkpaaDoorSameS
import Derived.Test.YtcoienlblhbkpaaDoorShL
import Derived.Test.YtcoienlblhbkpaaDoorShIn
import Derived.Test.YtcoienlblhbkpaaDoorShI
import Derived.BigQuiet
namespace Go.Proofs.YtcoienlblhbkpaaDoor.fnInShared
open Go.ChangeShapes Go.WideShapes Go.ChangeAt Go.RowKit

set_option maxRecDepth 100000 in
set_option maxHeartbeats 16000000 in
theorem walk (A : Option Addr) (n c : Nat) (w : World) (hnc : n ≤ c) (hmx : c ≤ maxLen) (hb : BY w w.heap.size A n) (hT : Tab w) :
    Calls Tryd.prog 10 #[.slice A n c] w fun e w' => e = .returned (.bool true) ∧ Below w.heap.size w w' := by
  by_cases hn : n ≤ 1048576
  · go_enter Tryd.func10, Tryd.ntmps10
    go_wp2_with fail
    refine (DrawInShared_c hnc hmx hb).mono ?_
    rintro e w1 ⟨A1, k1, c1, xs, A2, k2, c2, ys, rfl, o1, o2, b1⟩
    obtain ⟨p, hp⟩ : ∃ p, sharedB xs ys = p := ⟨_, rfl⟩
    have P := hide hp; clear hp
    have K := Blk.new w1 27 #[.slice A1 k1 c1, .slice A2 k2 c2]
    have b2 := beB0 w1 (.cells #[.slice A1 k1 c1, .slice A2 k2 c2] 27)
    have B2 := below_step b1 b2
    replace o1 := (o1.below b2).si
    replace o2 := (o2.below b2).si
    clear b1 b2
    go_wp2_with fail
    generalize w1.alloc (.cells #[.slice A1 k1 c1, .slice A2 k2 c2] 27) = w2 at *
    refine (impl_InShared_c o1 o2 (hT.below B2)).mono ?_
    rintro e w3 ⟨v3, k3, rfl, o3, BZ⟩
    replace o3 := o3.si
    obtain ⟨A3, c3, rfl⟩ := o3.shape
    obtain ⟨c0, c1'⟩ := K.held2 BZ
    go_wp2_with fail
    refine (spec_InShared_c (o1.below BZ) (o2.below BZ)).mono ?_
    rintro e w4 ⟨v4, k4, rfl, o4, b4⟩
    replace o4 := o4.si
    replace o3 := o3.below b4
    replace BZ := below_step BZ b4
    clear c0 c1'
    go_wp2_with fail
    refine (sameInts_c o3 o4).mono ?_
    rintro e w5 ⟨rfl, b5⟩
    replace BZ := below_step BZ b5
    replace o3 := o3.below b5
    clear o4
    rw [show decide (inL xs ys = inL xs ys) = true by simp]
    obtain ⟨c0, c1'⟩ := K.held2 BZ
    go_wp2_with fail
    refine (impl_SharedValid_c (o1.below BZ) (o2.below BZ)).mono ?_
    rintro e w6 ⟨rfl, b6⟩
    replace BZ := below_step BZ b6
    replace o3 := o3.below b6
    rw [P.out]
    clear c0 c1'
    obtain ⟨c0, c1'⟩ := K.held2 BZ
    have hl3 := o3.len
    cases p
    · have hk : k3 = 0 := by rw [in_no P.out] at hl3; simpa using hl3.symm
      subst hk
      clear hl3
      go_wp2_with fail
      refine (alive_c).mono ?_
      rintro e w7 ⟨rfl, b7⟩
      go_wp2_with fail
      go_ret
      exact ⟨rfl, below_step B2 (below_step BZ b7)⟩
    · obtain ⟨_, hlen, hasc⟩ := in_law P.out
      have hl1 := o1.len; have hl2 := o2.len
      rw [hl3, hl1, hl2] at hlen
      have hd1 := o1.bd; have hd2 := o2.bd
      have hk3 : (k3 : Int) = (k1 : Int) - k2 := by omega
      have HK := hide hk3; have HA := hide hasc; have HL := hide hl3
      clear hlen hasc hl1 hl2 hl3 hk3
      have hk30 : k3 ≤ 1048576 := o3.bd
      obtain ⟨_, _, e3, hnc3, _, R3⟩ := o3
      injection e3 with e3a _ e3c; subst e3a; subst e3c
      have hwr : IntKind.i64.wrap ((k1 : Int) - k2) = (k3 : Int) := by rw [IntKind.wrap_i64, HK.out]; omega
      go_wp2_with fail
      go_loopw [5] (fun i wr => ∃ j : Nat, 1 ≤ j ∧ (j ≤ k3 ∨ j = 1) ∧ i = .int .i64 j ∧ Below w6.heap.size w6 wr) (fun i _ => k3 - (intOf i).toNat)
      case atStart => exact ⟨1, Nat.le_refl _, .inr rfl, rfl, Below.refl _ _⟩
      case round =>
        clear c0 c1'
        obtain ⟨j, hj1, hj, rfl, bw⟩ := hrel
        obtain ⟨c0, c1'⟩ := K.held2 (below_step BZ bw)
        by_cases hlt : j < k3
        · obtain ⟨b, off, x, rfl, hbb, hx, hc⟩ := R3.at_ hlt
          obtain ⟨b', off', y, e', _, hy, hd⟩ := R3.at_ (show j - 1 < k3 by omega)
          injection e' with e'; injection e' with e1 e2 _; subst e1; subst e2
          have hxy : y < x := asc_next _ _ (j - 1) y x HA.out hy (by rw [Nat.sub_add_cancel hj1]; exact hx)
          have g0 := (bw.cell (p := ⟨b, off + j, none⟩) hbb).trans hc
          have g1 := (bw.cell (p := ⟨b, off + (j - 1), none⟩) hbb).trans hd
          clear hx hy hc hd
          have j0 : (0 : Int) ≤ j := by omega
          have j2 : (j : Int) < k3 := by omega
          have j3 : (0 : Int) ≤ (j : Int) - 1 := by omega
          have j4 : (j : Int) - 1 < k3 := by omega
          have hnat : ((j : Int) - 1).toNat = j - 1 := by omega
          have hle : ¬ x ≤ y := by omega
          go_wp2_with fail
          go_quiet (fail)
          go_wp2_with fail
          go_roundw
          case rel => exact ⟨j + 1, by omega, by omega, by go_num, below_drewN bw _⟩
          case measure => simp [intOf]; omega
        · go_wp2_with fail
          go_ret
          exact ⟨rfl, below_step B2 (below_step BZ bw)⟩
  · go_enter Tryd.func10, Tryd.ntmps10
    go_wp2_with fail
    go_ret
    exact ⟨rfl, Below.refl _ _⟩

theorem door_met (os : Os) (args : Array Value) : laidMetH Tryd.prog Rows.fnInSharedRow.laid ((World.doorLaid Tryd.prog 24 os).forCall (fun _ _ => 0) ⟨#[], args, []⟩).memory :=
  laidMetH_of_parts3 (fuel := 8) (laidMet_of_run' 8 (by kernel_rfl) (by kernel_rfl)) (by kernel_rfl) (by kernel_rfl)
set_option maxRecDepth 100000 in
theorem lifted (os : Os) (started : os.Started) (H : Type) (enc : TypeId × Value → H) :
    ReturnsInHanded {} Tryd.checked os 10 .any (fun w args => (Rows.fnInSharedSpec.pre enc Tryd.prog Tryd.f10 [] false w args ∧ laidMetH Tryd.prog Rows.fnInSharedRow.laid w) ∧ sizedMet enc Tryd.prog Tryd.f10 (OpenSpec.ofChange Rows.fnInSharedSpec) false w args)
      (Rows.fnInSharedSpec.post enc Tryd.prog Tryd.f10 false true false false) := by
  refine returnsInHanded_of_change_and (C := Tryd.checked) (X := fun w _ => laidMetH Tryd.prog Rows.fnInSharedRow.laid w) (fun _ _ _ hh h => h.of_heap hh) own started (by kernel_rfl) Tryd.func10
    (ChangeSpec.witness_shaped (enc := enc) (C := Tryd.checked) (os := os) (X := fun w _ => laidMetH Tryd.prog Rows.fnInSharedRow.laid w) false (World.doorLaid Tryd.prog 24 os) #[.slice none 0 0] 8 rfl (World.shaped_of_RefB (by kernel_rfl) (by kernel_rfl)) (by kernel_rfl) (by kernel_rfl) (by kernel_rfl) (door_met os _)) ?_
  intro W base args ds gs before hval0 hW _ _ hL _
  have hval : ∀ (j : Nat) t v, Tryd.f10.params[j]? = some t → args[j]? = some v → Value.okWide Tryd.prog W .any base t v := hval0
  have hW' := hW
  obtain ⟨p, q, hA0, hV, rfl, hfz, hnd⟩ := hW
  have hA : DataW.TrodAll enc Tryd.prog W 0 (fun _ => true) true Tryd.f10.params.toList args.toList ds p := hA0
  rw [Tryd.params10] at hA hval
  obtain ⟨v0, vs0, d0, ds0, p0, q0, hargs, rfl, rfl, h0, r0⟩ := trodAll_cons hA
  obtain ⟨rfl, rfl, rfl⟩ := trodAll_nil r0
  obtain rfl : args = #[v0] := by cases args; simp_all
  obtain ⟨rfl, rfl⟩ := trodVars_none hV
  have k0 := h0
  have lt0 : ∀ x ∈ p0, x.block < W.heap.size := by obtain ⟨m, hm⟩ := k0; exact DataW.trod_lt m _ _ _ hm
  obtain ⟨A0, n0, c0, rfl, hnc0, hmx0, R0⟩ := open_bytesA (hval 0 38 v0 rfl rfl) h0
  clear hA0 hval0
  have hT : Tab W := tab_of_laidH hL (by kernel_rfl) rfl
  refine (walk A0 n0 c0 W hnc0 hmx0 R0 hT).mono fun e W' ⟨he, bel⟩ => ?_
  subst he
  exact ⟨_, rfl, _, _, _, [], _, [], hW', trodAll_mk1 (shut_bool Tryd.underlying4 _), (trodAll_cons_mk (Below.trod laidOut (by kernel_rfl) (of_decide_eq_true (by kernel_rfl)) k0 bel lt0) trodAll_mk0), rfl, bel.frame _, fun h => by cases h⟩
theorem row_holds : Rows.FnInSharedSaid :=
  OpenClaim.holds_of_wide 10 Tryd.f10 rfl rfl rfl rfl rfl rfl rfl ⟨rfl, rfl, rfl, rfl, rfl⟩ rfl rfl rfl rfl rfl (by kernel_rfl) Tryd.func10 (by kernel_rfl)
    (of_decide_eq_true (by kernel_rfl)) (by unfold Func.isWrapper; first | (rw [if_pos (by decide +kernel)]; kernel_rfl) | (rw [if_neg (by decide +kernel)]; exact ⟨rfl, rfl⟩))
    (fun os started H enc _ => lifted os started H enc)
theorem proved : Rows.FnInSharedCardSaid :=
  Claim7.holds_tied_plain_at .later [] [.data, .data, .data] true (true, "05a08bfe29a0c28e6e014570d56fa0359cf688acda83bdb85be7a3739bc03165") false
    row_holds (fun _ h => by cases h) (by kernel_rfl) (fun _ h => by cases h) fnInShared_row_tie rfl ⟨rfl, rfl⟩ (by kernel_rfl) rfl
    (fun f fn hf hfn => by
      obtain rfl : f = 10 := Option.some.inj ((show Tryd.prog.funcNamed "loop.example/historychecker/laws.FnInShared" = some 10 by kernel_rfl).symm.trans hf) |>.symm
      obtain rfl : fn = Tryd.f10 := (Option.some.inj (Tryd.func10.symm.trans hfn)).symm
      exact ⟨by kernel_rfl, fun j t ht => by
        rw [Tryd.params10] at ht
        have hm : t ∈ [38] := by simpa using Array.mem_of_getElem? ht
        have hall : ([38].all fun u => !Tryd.prog.wantsStandIn u) = true := by kernel_rfl
        exact (show Tryd.prog.wantsStandIn t = false by simpa using List.all_eq_true.1 hall t hm)⟩)
    (by kernel_rfl)
end Go.Proofs.YtcoienlblhbkpaaDoor.fnInShared
