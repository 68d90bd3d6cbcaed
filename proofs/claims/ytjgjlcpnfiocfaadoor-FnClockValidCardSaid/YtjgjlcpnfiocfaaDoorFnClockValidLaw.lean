/- FnClockValid: with a count more a valid clock is invalid; with zeros alone it is valid. The card ties the listed variables to the program's text; the law's road does not look into them. -/
import Derived.Test.YtjgjlcpnfiocfaaDoorOpenD
import Derived.Test.YtjgjlcpnfiocfaaDoorClock
import Derived.Test.YtjgjlcpnfiocfaaDoorAppG
namespace Go.Proofs.YtjgjlcpnfiocfaaDoor.fnClockValid
open Go.ChangeShapes Go.WideShapes Go.ChangeAt Go.RowKit

theorem draw_c {w : World} {A : Option Addr} {n c : Nat} (hnc : n ≤ c) (hmx : c ≤ maxLen) (hb : BY w w.heap.size A n) :
    Calls Tryd.prog 24 #[.slice A n c] w fun e w' => ∃ v k xs, e = .returned v ∧ OI w' w.heap.size v k xs ∧ k ≤ 5 ∧ Below w.heap.size w w' := by
  go_enter Tryd.func24, Tryd.ntmps24
  go_wp2_with fail
  refine (l20Open_c hnc hmx hb).mono ?_
  rintro e w1 ⟨rfl, r1, b1⟩
  go_wp2_with fail
  refine (l20Clock_c r1 (by omega) (by omega) (by omega)).mono ?_
  rintro e w2 ⟨v, k, xs, rfl, o2, hk, r2, g2⟩
  go_wp2_with fail
  go_ret
  exact ⟨_, k, xs, rfl, o2.mono b1.size, hk, b1.trans (below_grown g2 (Nat.le_refl _) b1.size)⟩

theorem make4 (w : World) : (Instr.makeSlice 34 (.int .i64 4) (.int .i64 4)).run Tryd.prog w = .ok (.slice (some ⟨w.heap.size, 0, none⟩) 4 4) (w.alloc (.cells #[.int .i64 0, .int .i64 0, .int .i64 0, .int .i64 0] 3)) := run_make_ints 4 (by omega) w
theorem own4 (w : World) : OI (w.alloc (.cells #[.int .i64 0, .int .i64 0, .int .i64 0, .int .i64 0] 3)) w.heap.size (.slice (some ⟨w.heap.size, 0, none⟩) 4 4) 4 [0, 0, 0, 0] := OI.of_blk (Blk.new w _ _) (Nat.le_refl _) rfl rfl (by omega)

set_option maxRecDepth 100000 in
set_option maxHeartbeats 8000000 in
theorem walk (A : Option Addr) (n c : Nat) (w : World) (hnc : n ≤ c) (hmx : c ≤ maxLen) (hb : BY w w.heap.size A n) :
    Calls Tryd.prog 6 #[.slice A n c] w fun e w' => e = .returned (.bool true) ∧ Below w.heap.size w w' := by
  by_cases hn : n ≤ 1048576
  · have hmk := make4
    go_enter Tryd.func6, Tryd.ntmps6
    go_wp2_with fail
    refine (draw_c hnc hmx hb).mono ?_
    rintro e w1 ⟨v, k, xs, rfl, o1, hk, b1⟩
    obtain ⟨ok, hok⟩ : ∃ ok, clockB xs = ok := ⟨_, rfl⟩
    have HK := hide hok; clear hok
    go_wp2_with fail
    refine (impl_ClockValid_c o1.si).mono ?_
    rintro e w2 ⟨rfl, b2⟩
    rw [HK.out]
    have B2 := below_step b1 b2
    have hs2 := B2.size
    replace o1 := o1.below b2
    go_wp2_with fail
    refine (spec_ClockValid_c o1.si).mono ?_
    rintro e w' ⟨rfl, rfl⟩
    rw [HK.out]
    cases ok
    · go_wp2_with fail
      refine (impl_ClockValid_c (own4 w2).si).mono ?_
      rintro e w3 ⟨rfl, b3⟩
      rw [show clockB [0, 0, 0, 0] = true from rfl]
      have B3 := below_step (B2.alloc hs2 (.cells #[.int .i64 0, .int .i64 0, .int .i64 0, .int .i64 0] 3)) b3
      go_wp2_with fail
      refine (alive_c).mono ?_
      rintro e w4 ⟨rfl, b4⟩
      go_wp2_with fail
      go_ret
      exact ⟨rfl, below_step B3 b4⟩
    · have hl := o1.len
      have h5 : clockB (([] ++ xs) ++ [0]) = false := by
        rw [← Bool.not_eq_true, clockB_iff]; rintro ⟨h, _⟩
        have := ((clockB_iff _).1 HK.out).1
        simp at h; omega
      have H5 := hide h5; clear h5
      go_wp2_with (first | (at_builtin; refine wpList_appG (by rfl) _ _ rfl (by rfl) (OI.empty w2) (by rfl) (o1.si.alloc _) (by omega) (by simp) ?_; intro v1 w3 h3 g3 a3) | (at_builtin; refine wpList_appG (by rfl) _ _ rfl (by rfl) (h3.alloc _) (by rfl) (SI.one _ _ _ (by omega)) (by omega) (by have := g3.size; simp at this ⊢; omega) ?_; intro v2 w4 h4 g4 a4))
      have B3 := below_app (B2.alloc hs2 (.cells #[] 3)) (OI.empty w2) hs2 g3
      have B4 := below_app (B3.alloc B3.size (.cells #[.int .i64 0] 3)) (h3.alloc _) hs2 g4
      refine (impl_ClockValid_c h4.si).mono ?_
      rintro e w5 ⟨rfl, b5⟩
      rw [H5.out]
      have B5 := below_step B4 b5
      go_wp2_with fail
      refine (impl_ClockValid_c (own4 w5).si).mono ?_
      rintro e w6 ⟨rfl, b6⟩
      rw [show clockB [0, 0, 0, 0] = true from rfl]
      have B6 := below_step (B5.alloc B5.size (.cells #[.int .i64 0, .int .i64 0, .int .i64 0, .int .i64 0] 3)) b6
      go_wp2_with fail
      refine (alive_c).mono ?_
      rintro e w7 ⟨rfl, b7⟩
      go_wp2_with fail
      go_ret
      exact ⟨rfl, below_step B6 b7⟩
  · go_enter Tryd.func6, Tryd.ntmps6
    go_wp2_with fail
    go_ret
    exact ⟨rfl, Below.refl _ _⟩

theorem door_met (os : Os) (args : Array Value) : laidMetH Tryd.prog Rows.fnClockValidRow.laid ((World.doorLaid Tryd.prog 24 os).forCall (fun _ _ => 0) ⟨#[], args, []⟩).memory :=
  laidMetH_of_parts3 (fuel := 8) (laidMet_of_run' 8 (by kernel_rfl) (by kernel_rfl)) (by kernel_rfl) (by kernel_rfl)
set_option maxRecDepth 100000 in
theorem lifted (os : Os) (started : os.Started) (H : Type) (enc : TypeId × Value → H) :
    ReturnsInHanded {} Tryd.checked os 6 .any (fun w args => (Rows.fnClockValidSpec.pre enc Tryd.prog Tryd.f6 [] false w args ∧ laidMetH Tryd.prog Rows.fnClockValidRow.laid w) ∧ sizedMet enc Tryd.prog Tryd.f6 (OpenSpec.ofChange Rows.fnClockValidSpec) false w args)
      (Rows.fnClockValidSpec.post enc Tryd.prog Tryd.f6 false true false false) := by
  refine returnsInHanded_of_change_and (C := Tryd.checked) (X := fun w _ => laidMetH Tryd.prog Rows.fnClockValidRow.laid w) (fun _ _ _ hh h => h.of_heap hh) own started (by kernel_rfl) Tryd.func6
    (ChangeSpec.witness_shaped (enc := enc) (C := Tryd.checked) (os := os) (X := fun w _ => laidMetH Tryd.prog Rows.fnClockValidRow.laid w) false (World.doorLaid Tryd.prog 24 os) #[.slice none 0 0] 8 rfl (World.shaped_of_RefB (by kernel_rfl) (by kernel_rfl)) (by kernel_rfl) (by kernel_rfl) (by kernel_rfl) (door_met os _)) ?_
  intro W base args ds gs before hval0 hW _ _ _ _
  have hval : ∀ (j : Nat) t v, Tryd.f6.params[j]? = some t → args[j]? = some v → Value.okWide Tryd.prog W .any base t v := hval0
  have hW' := hW
  obtain ⟨p, q, hA0, hV, rfl, hfz, hnd⟩ := hW
  have hA : DataW.TrodAll enc Tryd.prog W 0 (fun _ => true) true Tryd.f6.params.toList args.toList ds p := hA0
  rw [Tryd.params6] at hA hval
  obtain ⟨v0, vs0, d0, ds0, p0, q0, hargs, rfl, rfl, h0, r0⟩ := trodAll_cons hA
  obtain ⟨rfl, rfl, rfl⟩ := trodAll_nil r0
  obtain rfl : args = #[v0] := by cases args; simp_all
  obtain ⟨rfl, rfl⟩ := trodVars_none hV
  have k0 := h0
  have lt0 : ∀ x ∈ p0, x.block < W.heap.size := by obtain ⟨m, hm⟩ := k0; exact DataW.trod_lt m _ _ _ hm
  obtain ⟨A0, n0, c0, rfl, hnc0, hmx0, R0⟩ := open_bytesA (hval 0 22 v0 rfl rfl) h0
  clear hA0 hval0
  refine (walk A0 n0 c0 W hnc0 hmx0 R0).mono fun e W' ⟨he, bel⟩ => ?_
  subst he
  exact ⟨_, rfl, _, _, _, [], _, [], hW', trodAll_mk1 (shut_bool Tryd.underlying4 _), (trodAll_cons_mk (Below.trod laidOut (by kernel_rfl) (of_decide_eq_true (by kernel_rfl)) k0 bel lt0) trodAll_mk0), rfl, bel.frame _, fun h => by cases h⟩
theorem row_holds : Rows.FnClockValidSaid :=
  OpenClaim.holds_of_wide 6 Tryd.f6 rfl rfl rfl rfl rfl rfl rfl ⟨rfl, rfl, rfl, rfl, rfl⟩ rfl rfl rfl rfl rfl (by kernel_rfl) Tryd.func6 (by kernel_rfl)
    (of_decide_eq_true (by kernel_rfl)) (by unfold Func.isWrapper; first | (rw [if_pos (by decide +kernel)]; kernel_rfl) | (rw [if_neg (by decide +kernel)]; exact ⟨rfl, rfl⟩))
    (fun os started H enc _ => lifted os started H enc)
theorem proved : Rows.FnClockValidCardSaid :=
  Claim7.holds_tied_plain_at .later [] [.data, .data, .data] true (true, "f2c1c1767bf673cc075bf186ddbc47504e5f3e3506e78108f3e747c99c658025") false
    row_holds (fun _ h => by cases h) (by kernel_rfl) (fun _ h => by cases h) fnClockValid_row_tie rfl ⟨rfl, rfl⟩ (by kernel_rfl) rfl
    (fun f fn hf hfn => by
      obtain rfl : f = 6 := Option.some.inj ((show Tryd.prog.funcNamed "loop.example/historychecker/laws.FnClockValid" = some 6 by kernel_rfl).symm.trans hf) |>.symm
      obtain rfl : fn = Tryd.f6 := (Option.some.inj (Tryd.func6.symm.trans hfn)).symm
      exact ⟨by kernel_rfl, fun j t ht => by
        rw [Tryd.params6] at ht
        have hm : t ∈ [22] := by simpa using Array.mem_of_getElem? ht
        have hall : ([22].all fun u => !Tryd.prog.wantsStandIn u) = true := by kernel_rfl
        exact (show Tryd.prog.wantsStandIn t = false by simpa using List.all_eq_true.1 hall t hm)⟩)
    (by kernel_rfl)
end Go.Proofs.YtjgjlcpnfiocfaaDoor.fnClockValid
