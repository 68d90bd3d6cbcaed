/- FnExactNumbersText: for all arguments the program's NumbersText returns what the reference's returns, and leaves its argument as it is. The card ties the listed variables to the program's text. -/
import Derived.Test.YtkppbcejhojpiaaDoorCards
import Derived.Test.YtkppbcejhojpiaaDoorTie
import Derived.Test.YtkppbcejhojpiaaDoorNumS
import Derived.Test.YtkppbcejhojpiaaDoorTabN
import Derived.Test.YtkppbcejhojpiaaDoorOpen
import Derived.LaidMore
import Derived.Stop.Joined
import Derived.SevenTiedAt
namespace Go.Proofs.YtkppbcejhojpiaaDoor.exactNumbersText
open Go.ChangeShapes Go.WideShapes Go.ChangeAt Go.RowKit

set_option maxRecDepth 100000 in
set_option maxHeartbeats 4000000 in
theorem walk (A0 : Option Addr) (n0 c0 : Nat) (xs0 : List Int) (w : World) (hnc0 : n0 ≤ c0) (_hmx0 : c0 ≤ maxLen) (R0 : RI w A0 n0 xs0) (hT : Tab w) :
    Calls Tryd.prog 3 #[.slice A0 n0 c0] w fun e w' => e = .returned (.bool true) ∧ Below w.heap.size w w' := by
  by_cases hn : n0 ≤ 1048576
  · have s0 : SI w (.slice A0 n0 c0) n0 xs0 := ⟨A0, c0, rfl, hnc0, hn, R0⟩
    have HT := hide hT; clear hT
    go_enter Tryd.func3, Tryd.ntmps3
    go_wp2_with fail
    refine (toIntS_c s0).mono ?_
    rintro e w1 ⟨v1, rfl, o1, b1⟩
    go_wp2_with fail
    refine (spec_NumbersText_c o1.si).mono ?_
    rintro e w2 ⟨rfl, b2⟩
    have B2 := below_step b1 b2
    clear b1 b2 o1
    go_wp2_with fail
    refine (toIntS_c (s0.below B2)).mono ?_
    rintro e w3 ⟨v3, rfl, o3, b3⟩
    have B3 := below_step B2 b3
    clear B2 b3
    go_wp2_with fail
    refine (impl_NumbersText_c o3.si (HT.out.below B3)).mono ?_
    rintro e w4 ⟨rfl, b4⟩
    have B4 := below_step B3 b4
    have s4 := o3.si.below b4
    clear B3 b4 o3
    go_wp2_with fail
    refine (toIntS_c (s0.below B4)).mono ?_
    rintro e w5 ⟨v5, rfl, o5, b5⟩
    have B5 := below_step B4 b5
    have s5 := s4.below b5
    clear B4 b5 s4
    go_wp2_with fail
    refine (eqIntS_c s5 o5.si).mono ?_
    rintro e w6 ⟨rfl, b6⟩
    simp only [decide_true]
    have B6 := below_step B5 b6
    go_wp2_with fail
    go_ret
    exact ⟨rfl, B6⟩
  · go_enter Tryd.func3, Tryd.ntmps3
    go_wp2_with fail
    go_ret
    exact ⟨rfl, Below.refl _ _⟩

theorem door_met (os : Os) (args : Array Value) : laidMetH Tryd.prog Rows.fnExactNumbersTextRow.laid ((World.doorLaid Tryd.prog 24 os).forCall (fun _ _ => 0) ⟨#[], args, []⟩).memory :=
  laidMetH_of_parts3 (fuel := 8) (laidMet_of_run' 8 (by kernel_rfl) (by kernel_rfl)) (by kernel_rfl) (by kernel_rfl)
set_option maxRecDepth 100000 in
theorem lifted (os : Os) (started : os.Started) (H : Type) (enc : TypeId × Value → H) :
    ReturnsInHanded {} Tryd.checked os 3 .any (fun w args => (Rows.fnExactNumbersTextSpec.pre enc Tryd.prog Tryd.f3 [] false w args ∧ laidMetH Tryd.prog Rows.fnExactNumbersTextRow.laid w) ∧ sizedMet enc Tryd.prog Tryd.f3 (OpenSpec.ofChange Rows.fnExactNumbersTextSpec) false w args)
      (Rows.fnExactNumbersTextSpec.post enc Tryd.prog Tryd.f3 false true false false) := by
  refine returnsInHanded_of_change_and (C := Tryd.checked) (X := fun w _ => laidMetH Tryd.prog Rows.fnExactNumbersTextRow.laid w) (fun _ _ _ hh h => h.of_heap hh) own started (by kernel_rfl) Tryd.func3
    (ChangeSpec.witness_shaped (enc := enc) (C := Tryd.checked) (os := os) (X := fun w _ => laidMetH Tryd.prog Rows.fnExactNumbersTextRow.laid w) false (World.doorLaid Tryd.prog 24 os) #[.slice none 0 0] 8 rfl (World.shaped_of_RefB (by kernel_rfl) (by kernel_rfl)) (by kernel_rfl) (by kernel_rfl) (by kernel_rfl) (door_met os _)) ?_
  intro W base args ds gs before hval0 hW _ _ hL _
  have hval : ∀ (j : Nat) t v, Tryd.f3.params[j]? = some t → args[j]? = some v → Value.okWide Tryd.prog W .any base t v := hval0
  have hW' := hW
  obtain ⟨p, q, hA0, hV, rfl, hfz, hnd⟩ := hW
  have hA : DataW.TrodAll enc Tryd.prog W 0 (fun _ => true) true Tryd.f3.params.toList args.toList ds p := hA0
  rw [Tryd.params3] at hA hval
  obtain ⟨v0, vs0, d0, ds0, p0, q0, hargs, rfl, rfl, h0, r0⟩ := trodAll_cons hA
  obtain ⟨rfl, rfl, rfl⟩ := trodAll_nil r0
  obtain rfl : args = #[v0] := by cases args; simp_all
  obtain ⟨rfl, rfl⟩ := trodVars_none hV
  have k0 := h0
  have lt0 : ∀ x ∈ p0, x.block < W.heap.size := by obtain ⟨m, hm⟩ := k0; exact DataW.trod_lt m _ _ _ hm
  obtain ⟨A0, n0, c0, xs0, rfl, hnc0, hmx0, R0⟩ := open_intsA (hval 0 22 v0 rfl rfl) h0
  clear hA0 hval0
  have hT : Tab W := tab_of_laidH hL (by kernel_rfl) rfl
  refine (walk A0 n0 c0 xs0 W hnc0 hmx0 R0 hT).mono fun e W' ⟨he, bel⟩ => ?_
  subst he
  exact ⟨_, rfl, _, _, _, [], _, [], hW', trodAll_mk1 (shut_bool Tryd.underlying4 _), (trodAll_cons_mk (Below.trod laidOut (by kernel_rfl) (of_decide_eq_true (by kernel_rfl)) k0 bel lt0) trodAll_mk0), rfl, bel.frame _, fun h => by cases h⟩
theorem row_holds : Rows.FnExactNumbersTextSaid :=
  OpenClaim.holds_of_wide 3 Tryd.f3 rfl rfl rfl rfl rfl rfl rfl ⟨rfl, rfl, rfl, rfl, rfl⟩ rfl rfl rfl rfl rfl (by kernel_rfl) Tryd.func3 (by kernel_rfl)
    (of_decide_eq_true (by kernel_rfl)) (by unfold Func.isWrapper; first | (rw [if_pos (by decide +kernel)]; kernel_rfl) | (rw [if_neg (by decide +kernel)]; exact ⟨rfl, rfl⟩))
    (fun os started H enc _ => lifted os started H enc)
theorem proved : Rows.FnExactNumbersTextCardSaid :=
  Claim7.holds_tied_plain_at .later [] [.data, .data, .data] true (true, "1dff20485dd9a25b366bc48a10f76cda73420e74273dbb118ba332ff977af7a0") false
    row_holds (fun _ h => by cases h) (by kernel_rfl) (fun _ h => by cases h) fnExactNumbersText_row_tie rfl ⟨rfl, rfl⟩ (by kernel_rfl) rfl
    (fun f fn hf hfn => by
      obtain rfl : f = 3 := Option.some.inj ((show Tryd.prog.funcNamed "loop.example/historychecker/laws.FnExactNumbersText" = some 3 by kernel_rfl).symm.trans hf) |>.symm
      obtain rfl : fn = Tryd.f3 := (Option.some.inj (Tryd.func3.symm.trans hfn)).symm
      exact ⟨by kernel_rfl, fun j t ht => by
        rw [Tryd.params3] at ht
        have hm : t ∈ [22] := by simpa using Array.mem_of_getElem? ht
        have hall : ([22].all fun u => !Tryd.prog.wantsStandIn u) = true := by kernel_rfl
        exact (show Tryd.prog.wantsStandIn t = false by simpa using List.all_eq_true.1 hall t hm)⟩)
    (by kernel_rfl)

end Go.Proofs.YtkppbcejhojpiaaDoor.exactNumbersText
