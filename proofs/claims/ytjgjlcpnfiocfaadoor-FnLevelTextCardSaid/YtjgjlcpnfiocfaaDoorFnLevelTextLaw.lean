/- FnLevelText: different levels have different names. The card ties the listed variables to the program's text; the law's road does not look into them. -/
import Derived.Test.YtjgjlcpnfiocfaaDoorOpenD
import Derived.Test.YtjgjlcpnfiocfaaDoorDraws
import Derived.Test.YtjgjlcpnfiocfaaDoorLevel
namespace Go.Proofs.YtjgjlcpnfiocfaaDoor.fnLevelText
open Go.ChangeShapes Go.WideShapes Go.ChangeAt Go.RowKit

set_option maxRecDepth 100000 in
set_option maxHeartbeats 16000000 in
theorem walk (A : Option Addr) (n c : Nat) (w : World) (hnc : n ≤ c) (hmx : c ≤ maxLen) (hb : BY w w.heap.size A n) :
    Calls Tryd.prog 3 #[.slice A n c] w fun e w' => e = .returned (.bool true) ∧ Below w.heap.size w w' := by
  by_cases hn : n ≤ 1048576
  · go_enter Tryd.func3, Tryd.ntmps3
    go_wp2_with fail
    refine (DrawLevelText_c hnc hmx hb).mono ?_
    rintro e w1 ⟨⟨x, rfl, x0, x1⟩, b1⟩
    have B1 := b1
    have hx : x = -1 ∨ x = 0 ∨ x = 1 ∨ x = 2 ∨ x = 3 ∨ x = 4 ∨ x = 5 := by omega
    clear x0 x1
    rcases hx with rfl | rfl | rfl | rfl | rfl | rfl | rfl
    · go_wp2_with fail
      refine (impl_LevelText_c (n := (-1))).mono ?_
      rintro e w2 ⟨rfl, b2⟩
      have B2 := below_step B1 b2
      rw [show levelV (-1) = (.string ⟨#[]⟩ : Value) from rfl]
      go_wp2_with fail
      refine (spec_LevelText_c (n := (-1))).mono ?_
      rintro e w3 ⟨rfl, b3⟩
      have B3 := below_step B2 b3
      rw [show levelV (-1) = (.string ⟨#[]⟩ : Value) from rfl]
      go_wp2_with fail
      refine (alive_c).mono ?_
      rintro e w4 ⟨rfl, b4⟩
      have B4 := below_step B3 b4
      go_wp2_with fail
      go_ret
      exact ⟨rfl, B4⟩
    · go_wp2_with fail
      refine (impl_LevelText_c (n := 0)).mono ?_
      rintro e w2 ⟨rfl, b2⟩
      have B2 := below_step B1 b2
      rw [show levelV 0 = (.string ⟨#[110, 111, 110, 101]⟩ : Value) from rfl]
      go_wp2_with fail
      refine (spec_LevelText_c (n := 0)).mono ?_
      rintro e w3 ⟨rfl, b3⟩
      have B3 := below_step B2 b3
      rw [show levelV 0 = (.string ⟨#[110, 111, 110, 101]⟩ : Value) from rfl]
      go_wp2_with fail
      refine (impl_LevelText_c (n := 1)).mono ?_
      rintro e w4 ⟨rfl, b4⟩
      have B4 := below_step B3 b4
      rw [show levelV 1 = (.string ⟨#[119, 114, 105, 116, 101, 115]⟩ : Value) from rfl]
      go_wp2_with fail
      go_ret
      exact ⟨rfl, B4⟩
    · go_wp2_with fail
      refine (impl_LevelText_c (n := 1)).mono ?_
      rintro e w2 ⟨rfl, b2⟩
      have B2 := below_step B1 b2
      rw [show levelV 1 = (.string ⟨#[119, 114, 105, 116, 101, 115]⟩ : Value) from rfl]
      go_wp2_with fail
      refine (spec_LevelText_c (n := 1)).mono ?_
      rintro e w3 ⟨rfl, b3⟩
      have B3 := below_step B2 b3
      rw [show levelV 1 = (.string ⟨#[119, 114, 105, 116, 101, 115]⟩ : Value) from rfl]
      go_wp2_with fail
      refine (impl_LevelText_c (n := 2)).mono ?_
      rintro e w4 ⟨rfl, b4⟩
      have B4 := below_step B3 b4
      rw [show levelV 2 = (.string ⟨#[102, 108, 111, 119, 115]⟩ : Value) from rfl]
      go_wp2_with fail
      go_ret
      exact ⟨rfl, B4⟩
    · go_wp2_with fail
      refine (impl_LevelText_c (n := 2)).mono ?_
      rintro e w2 ⟨rfl, b2⟩
      have B2 := below_step B1 b2
      rw [show levelV 2 = (.string ⟨#[102, 108, 111, 119, 115]⟩ : Value) from rfl]
      go_wp2_with fail
      refine (spec_LevelText_c (n := 2)).mono ?_
      rintro e w3 ⟨rfl, b3⟩
      have B3 := below_step B2 b3
      rw [show levelV 2 = (.string ⟨#[102, 108, 111, 119, 115]⟩ : Value) from rfl]
      go_wp2_with fail
      refine (impl_LevelText_c (n := 3)).mono ?_
      rintro e w4 ⟨rfl, b4⟩
      have B4 := below_step B3 b4
      rw [show levelV 3 = (.string ⟨#[115, 105, 110, 103, 108, 101, 115]⟩ : Value) from rfl]
      go_wp2_with fail
      go_ret
      exact ⟨rfl, B4⟩
    · go_wp2_with fail
      refine (impl_LevelText_c (n := 3)).mono ?_
      rintro e w2 ⟨rfl, b2⟩
      have B2 := below_step B1 b2
      rw [show levelV 3 = (.string ⟨#[115, 105, 110, 103, 108, 101, 115]⟩ : Value) from rfl]
      go_wp2_with fail
      refine (spec_LevelText_c (n := 3)).mono ?_
      rintro e w3 ⟨rfl, b3⟩
      have B3 := below_step B2 b3
      rw [show levelV 3 = (.string ⟨#[115, 105, 110, 103, 108, 101, 115]⟩ : Value) from rfl]
      go_wp2_with fail
      refine (impl_LevelText_c (n := 4)).mono ?_
      rintro e w4 ⟨rfl, b4⟩
      have B4 := below_step B3 b4
      rw [show levelV 4 = (.string ⟨#[97, 108, 108]⟩ : Value) from rfl]
      go_wp2_with fail
      go_ret
      exact ⟨rfl, B4⟩
    · go_wp2_with fail
      refine (impl_LevelText_c (n := 4)).mono ?_
      rintro e w2 ⟨rfl, b2⟩
      have B2 := below_step B1 b2
      rw [show levelV 4 = (.string ⟨#[97, 108, 108]⟩ : Value) from rfl]
      go_wp2_with fail
      refine (spec_LevelText_c (n := 4)).mono ?_
      rintro e w3 ⟨rfl, b3⟩
      have B3 := below_step B2 b3
      rw [show levelV 4 = (.string ⟨#[97, 108, 108]⟩ : Value) from rfl]
      go_wp2_with fail
      refine (impl_LevelText_c (n := 5)).mono ?_
      rintro e w4 ⟨rfl, b4⟩
      have B4 := below_step B3 b4
      rw [show levelV 5 = (.string ⟨#[]⟩ : Value) from rfl]
      go_wp2_with fail
      go_ret
      exact ⟨rfl, B4⟩
    · go_wp2_with fail
      refine (impl_LevelText_c (n := 5)).mono ?_
      rintro e w2 ⟨rfl, b2⟩
      have B2 := below_step B1 b2
      rw [show levelV 5 = (.string ⟨#[]⟩ : Value) from rfl]
      go_wp2_with fail
      refine (spec_LevelText_c (n := 5)).mono ?_
      rintro e w3 ⟨rfl, b3⟩
      have B3 := below_step B2 b3
      rw [show levelV 5 = (.string ⟨#[]⟩ : Value) from rfl]
      go_wp2_with fail
      refine (alive_c).mono ?_
      rintro e w4 ⟨rfl, b4⟩
      have B4 := below_step B3 b4
      go_wp2_with fail
      go_ret
      exact ⟨rfl, B4⟩
  · go_enter Tryd.func3, Tryd.ntmps3
    go_wp2_with fail
    go_ret
    exact ⟨rfl, Below.refl _ _⟩

theorem door_met (os : Os) (args : Array Value) : laidMetH Tryd.prog Rows.fnLevelTextRow.laid ((World.doorLaid Tryd.prog 24 os).forCall (fun _ _ => 0) ⟨#[], args, []⟩).memory :=
  laidMetH_of_parts3 (fuel := 8) (laidMet_of_run' 8 (by kernel_rfl) (by kernel_rfl)) (by kernel_rfl) (by kernel_rfl)
set_option maxRecDepth 100000 in
theorem lifted (os : Os) (started : os.Started) (H : Type) (enc : TypeId × Value → H) :
    ReturnsInHanded {} Tryd.checked os 3 .any (fun w args => (Rows.fnLevelTextSpec.pre enc Tryd.prog Tryd.f3 [] false w args ∧ laidMetH Tryd.prog Rows.fnLevelTextRow.laid w) ∧ sizedMet enc Tryd.prog Tryd.f3 (OpenSpec.ofChange Rows.fnLevelTextSpec) false w args)
      (Rows.fnLevelTextSpec.post enc Tryd.prog Tryd.f3 false true false false) := by
  refine returnsInHanded_of_change_and (C := Tryd.checked) (X := fun w _ => laidMetH Tryd.prog Rows.fnLevelTextRow.laid w) (fun _ _ _ hh h => h.of_heap hh) own started (by kernel_rfl) Tryd.func3
    (ChangeSpec.witness_shaped (enc := enc) (C := Tryd.checked) (os := os) (X := fun w _ => laidMetH Tryd.prog Rows.fnLevelTextRow.laid w) false (World.doorLaid Tryd.prog 24 os) #[.slice none 0 0] 8 rfl (World.shaped_of_RefB (by kernel_rfl) (by kernel_rfl)) (by kernel_rfl) (by kernel_rfl) (by kernel_rfl) (door_met os _)) ?_
  intro W base args ds gs before hval0 hW _ _ _ _
  have hval : ∀ (j : Nat) t v, Tryd.f3.params[j]? = some t → args[j]? = some v → Value.okWide Tryd.prog W .any base t v := hval0
  have hW' := hW
  obtain ⟨p, q, hA0, hV, rfl, hfz, hnd⟩ := hW
  have hA : DataW.TrodAll enc Tryd.prog W 0 (fun _ => true) true Tryd.f3.params.toList args.toList ds p := hA0
  rw [Tryd.params3] at hA hval
  obtain ⟨v0, vs0, d0, ds0, p0, q0, hargs, rfl, rfl, h0, r0⟩ := trodAll_cons hA
  obtain ⟨rfl, rfl, rfl⟩ := trodAll_nil r0
  obtain rfl : args = #[v0] := by cases args; simp_all
  obtain ⟨rfl, rfl⟩ := trodVars_none hV
  have k0 := h0
  have lt0 : ∀ x ∈ p0, x.block < W.heap.size := by obtain ⟨m, hm⟩ := k0; exact DataW.trod_lt m _ _ _ hm
  obtain ⟨A0, n0, c0, rfl, hnc0, hmx0, R0⟩ := open_bytesA (hval 0 22 v0 rfl rfl) h0
  clear hA0 hval0
  refine (walk A0 n0 c0 W hnc0 hmx0 R0).mono fun e W' ⟨he, bel⟩ => ?_
  subst he
  exact ⟨_, rfl, _, _, _, [], _, [], hW', trodAll_mk1 (shut_bool Tryd.underlying4 _), (trodAll_cons_mk (Below.trod laidOut (by kernel_rfl) (of_decide_eq_true (by kernel_rfl)) k0 bel lt0) trodAll_mk0), rfl, bel.frame _, fun h => by cases h⟩
theorem row_holds : Rows.FnLevelTextSaid :=
  OpenClaim.holds_of_wide 3 Tryd.f3 rfl rfl rfl rfl rfl rfl rfl ⟨rfl, rfl, rfl, rfl, rfl⟩ rfl rfl rfl rfl rfl (by kernel_rfl) Tryd.func3 (by kernel_rfl)
    (of_decide_eq_true (by kernel_rfl)) (by unfold Func.isWrapper; first | (rw [if_pos (by decide +kernel)]; kernel_rfl) | (rw [if_neg (by decide +kernel)]; exact ⟨rfl, rfl⟩))
    (fun os started H enc _ => lifted os started H enc)
theorem proved : Rows.FnLevelTextCardSaid :=
  Claim7.holds_tied_plain_at .later [] [.data, .data, .data] true (true, "f2c1c1767bf673cc075bf186ddbc47504e5f3e3506e78108f3e747c99c658025") false
    row_holds (fun _ h => by cases h) (by kernel_rfl) (fun _ h => by cases h) fnLevelText_row_tie rfl ⟨rfl, rfl⟩ (by kernel_rfl) rfl
    (fun f fn hf hfn => by
      obtain rfl : f = 3 := Option.some.inj ((show Tryd.prog.funcNamed "loop.example/historychecker/laws.FnLevelText" = some 3 by kernel_rfl).symm.trans hf) |>.symm
      obtain rfl : fn = Tryd.f3 := (Option.some.inj (Tryd.func3.symm.trans hfn)).symm
      exact ⟨by kernel_rfl, fun j t ht => by
        rw [Tryd.params3] at ht
        have hm : t ∈ [22] := by simpa using Array.mem_of_getElem? ht
        have hall : ([22].all fun u => !Tryd.prog.wantsStandIn u) = true := by kernel_rfl
        exact (show Tryd.prog.wantsStandIn t = false by simpa using List.all_eq_true.1 hall t hm)⟩)
    (by kernel_rfl)
end Go.Proofs.YtjgjlcpnfiocfaaDoor.fnLevelText
