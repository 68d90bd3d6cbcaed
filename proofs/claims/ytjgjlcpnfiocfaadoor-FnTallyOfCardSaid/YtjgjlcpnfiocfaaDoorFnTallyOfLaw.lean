/- FnTallyOf: with Up and Down exchanged a tally is the number with the other sign. The card ties the listed variables to the program's text; the law's road does not look into them. -/
import Derived.Test.YtjgjlcpnfiocfaaDoorOpenD
import Derived.Test.YtjgjlcpnfiocfaaDoorDraws
import Derived.Test.YtjgjlcpnfiocfaaDoorTally2
namespace Go.Proofs.YtjgjlcpnfiocfaaDoor.fnTallyOf
open Go.ChangeShapes Go.WideShapes Go.ChangeAt Go.RowKit

theorem tally_comm (xs ys : List Int) : tallyB ys xs = tallyB xs ys := by unfold tallyB; exact Bool.and_comm _ _
theorem tsum_swap : ∀ xs ys : List Int, tsum ys xs = -tsum xs ys := by
  intro xs; induction xs with
  | nil => intro ys; cases ys <;> rfl
  | cons a xs ih => intro ys; cases ys with
    | nil => rfl
    | cons b ys => simp only [tsum]; rw [ih]; omega
theorem tallyN_swap (xs ys : List Int) : tallyN ys xs = -tallyN xs ys := by
  unfold tallyN; rw [tally_comm]; split
  · exact tsum_swap xs ys
  · rfl
theorem tsum_le : ∀ (n : Nat) (xs ys : List Int), xs.length ≤ n → (∀ x ∈ xs, 0 ≤ x ∧ x ≤ 1000) → (∀ y ∈ ys, 0 ≤ y ∧ y ≤ 1000) → -1000 * (n : Int) ≤ tsum xs ys ∧ tsum xs ys ≤ 1000 * n := by
  intro n; induction n with
  | zero => intro xs ys h _ _; cases xs with
    | nil => simp [tsum]
    | cons a xs => simp at h
  | succ n ih => intro xs ys h hx hy; cases xs with
    | nil => simp [tsum]; omega
    | cons a xs => cases ys with
      | nil => simp [tsum]; omega
      | cons b ys =>
        simp only [tsum]
        have := ih xs ys (by simpa using h) (fun x h => hx x (by simp [h])) (fun x h => hy x (by simp [h]))
        have h1 := hx a (by simp); have h2 := hy b (by simp)
        omega
theorem tallyN_bd (xs ys : List Int) : -4000 ≤ tallyN xs ys ∧ tallyN xs ys ≤ 4000 := by
  unfold tallyN
  split
  · rename_i h
    unfold tallyB at h
    simp only [Bool.and_eq_true] at h
    have hx := (clockB_iff _).1 h.1; have hy := (clockB_iff _).1 h.2
    have := tsum_le 4 xs ys (by omega) (fun x h => (inB_iff _ _ _).1 (hx.2 x h)) (fun x h => (inB_iff _ _ _).1 (hy.2 x h))
    omega
  · omega
theorem tallyN_zero {xs ys : List Int} (h : tallyB xs ys = false) : tallyN xs ys = 0 := by simp [tallyN, h]

set_option maxRecDepth 100000 in
set_option maxHeartbeats 16000000 in
theorem walk (A : Option Addr) (n c : Nat) (w : World) (hnc : n ≤ c) (hmx : c ≤ maxLen) (hb : BY w w.heap.size A n) :
    Calls Tryd.prog 11 #[.slice A n c] w fun e w' => e = .returned (.bool true) ∧ Below w.heap.size w w' := by
  by_cases hn : n ≤ 1048576
  · go_enter Tryd.func11, Tryd.ntmps11
    go_wp2_with fail
    refine (DrawTallyOf_c hnc hmx hb).mono ?_
    rintro e w1 ⟨A1, k, c1, xs, A2, m, c2, ys, rfl, o1, o2, b1⟩
    have B1 := b1
    obtain ⟨p, hp⟩ : ∃ p, tallyB xs ys = p := ⟨_, rfl⟩
    obtain ⟨z, hz⟩ : ∃ z, tallyN xs ys = z := ⟨_, rfl⟩
    have zb := tallyN_bd xs ys
    rw [hz] at zb
    obtain ⟨z0, z1⟩ := zb
    have hz0 : p = false → z = 0 := fun h => by rw [← hz]; exact tallyN_zero (hp.trans h)
    have P := hide hp; have Z := hide hz; have Z0 := hide hz0; clear hp hz hz0
    have Kt := Blk.new w1 46 #[.slice A1 k c1, .slice A2 m c2]
    have b2 := beB0 w1 (.cells #[.slice A1 k c1, .slice A2 m c2] 46)
    have B2 := below_step B1 b2
    replace o1 := o1.below b2
    replace o2 := o2.below b2
    go_wp2_with fail
    refine (impl_TallyOf_c o1.si o2.si).mono ?_
    rintro e w3 ⟨rfl, b3⟩
    have B3 := below_step B2 b3
    replace o1 := o1.below b3
    replace o2 := o2.below b3
    replace Kt := Kt.belowAll b3
    rw [Z.out]
    have c0 : w3.cell? ⟨w1.heap.size, 0, none⟩ = some (.slice A1 k c1) := Kt.cell 0
    have c1' : w3.cell? ⟨w1.heap.size, 1, none⟩ = some (.slice A2 m c2) := Kt.cell 1
    go_wp2_with fail
    refine (spec_TallyOf_c o1.si o2.si).mono ?_
    rintro e w4 ⟨rfl, b4⟩
    have B4 := below_step B3 b4
    replace o1 := o1.below b4
    replace o2 := o2.below b4
    replace Kt := Kt.belowAll b4
    rw [Z.out]
    clear c0 c1'
    have c0 : w4.cell? ⟨w1.heap.size, 0, none⟩ = some (.slice A1 k c1) := Kt.cell 0
    have c1' : w4.cell? ⟨w1.heap.size, 1, none⟩ = some (.slice A2 m c2) := Kt.cell 1
    go_wp2_with fail
    refine (impl_TallyOf_c o2.si o1.si).mono ?_
    rintro e w5 ⟨rfl, b5⟩
    have B5 := below_step B4 b5
    replace o1 := o1.below b5
    replace o2 := o2.below b5
    replace Kt := Kt.belowAll b5
    rw [tallyN_swap, Z.out]
    clear c0 c1'
    have c0 : w5.cell? ⟨w1.heap.size, 0, none⟩ = some (.slice A1 k c1) := Kt.cell 0
    have c1' : w5.cell? ⟨w1.heap.size, 1, none⟩ = some (.slice A2 m c2) := Kt.cell 1
    cases p
    · have e0 := Z0.out rfl
      subst e0
      go_wp2_with fail
      refine (impl_TallyValid_c o1.si o2.si).mono ?_
      rintro e w6 ⟨rfl, b6⟩
      have B6 := below_step B5 b6
      replace o1 := o1.below b6
      replace o2 := o2.below b6
      replace Kt := Kt.belowAll b6
      rw [P.out]
      go_wp2_with fail
      refine (alive_c).mono ?_
      rintro e w7 ⟨rfl, b7⟩
      have B7 := below_step B6 b7
      replace o1 := o1.below b7
      replace o2 := o2.below b7
      replace Kt := Kt.belowAll b7
      go_wp2_with fail
      go_ret
      exact ⟨rfl, B7⟩
    · go_wp2_with fail
      refine (impl_TallyValid_c o1.si o2.si).mono ?_
      rintro e w6 ⟨rfl, b6⟩
      have B6 := below_step B5 b6
      replace o1 := o1.below b6
      replace o2 := o2.below b6
      replace Kt := Kt.belowAll b6
      rw [P.out]
      go_wp2_with fail
      refine (alive_c).mono ?_
      rintro e w7 ⟨rfl, b7⟩
      have B7 := below_step B6 b7
      replace o1 := o1.below b7
      replace o2 := o2.below b7
      replace Kt := Kt.belowAll b7
      go_wp2_with fail
      go_ret
      exact ⟨rfl, B7⟩
  · go_enter Tryd.func11, Tryd.ntmps11
    go_wp2_with fail
    go_ret
    exact ⟨rfl, Below.refl _ _⟩

theorem door_met (os : Os) (args : Array Value) : laidMetH Tryd.prog Rows.fnTallyOfRow.laid ((World.doorLaid Tryd.prog 24 os).forCall (fun _ _ => 0) ⟨#[], args, []⟩).memory :=
  laidMetH_of_parts3 (fuel := 8) (laidMet_of_run' 8 (by kernel_rfl) (by kernel_rfl)) (by kernel_rfl) (by kernel_rfl)
set_option maxRecDepth 100000 in
theorem lifted (os : Os) (started : os.Started) (H : Type) (enc : TypeId × Value → H) :
    ReturnsInHanded {} Tryd.checked os 11 .any (fun w args => (Rows.fnTallyOfSpec.pre enc Tryd.prog Tryd.f11 [] false w args ∧ laidMetH Tryd.prog Rows.fnTallyOfRow.laid w) ∧ sizedMet enc Tryd.prog Tryd.f11 (OpenSpec.ofChange Rows.fnTallyOfSpec) false w args)
      (Rows.fnTallyOfSpec.post enc Tryd.prog Tryd.f11 false true false false) := by
  refine returnsInHanded_of_change_and (C := Tryd.checked) (X := fun w _ => laidMetH Tryd.prog Rows.fnTallyOfRow.laid w) (fun _ _ _ hh h => h.of_heap hh) own started (by kernel_rfl) Tryd.func11
    (ChangeSpec.witness_shaped (enc := enc) (C := Tryd.checked) (os := os) (X := fun w _ => laidMetH Tryd.prog Rows.fnTallyOfRow.laid w) false (World.doorLaid Tryd.prog 24 os) #[.slice none 0 0] 8 rfl (World.shaped_of_RefB (by kernel_rfl) (by kernel_rfl)) (by kernel_rfl) (by kernel_rfl) (by kernel_rfl) (door_met os _)) ?_
  intro W base args ds gs before hval0 hW _ _ _ _
  have hval : ∀ (j : Nat) t v, Tryd.f11.params[j]? = some t → args[j]? = some v → Value.okWide Tryd.prog W .any base t v := hval0
  have hW' := hW
  obtain ⟨p, q, hA0, hV, rfl, hfz, hnd⟩ := hW
  have hA : DataW.TrodAll enc Tryd.prog W 0 (fun _ => true) true Tryd.f11.params.toList args.toList ds p := hA0
  rw [Tryd.params11] at hA hval
  obtain ⟨v0, vs0, d0, ds0, p0, q0, hargs, rfl, rfl, h0, r0⟩ := trodAll_cons hA
  obtain ⟨rfl, rfl, rfl⟩ := trodAll_nil r0
  obtain rfl : args = #[v0] := by cases args; simp_all
  obtain ⟨rfl, rfl⟩ := trodVars_none hV
  have k0 := h0
  have lt0 : ∀ x ∈ p0, x.block < W.heap.size := by obtain ⟨m, hm⟩ := k0; exact DataW.trod_lt m _ _ _ hm
  obtain ⟨A0, n0, c0, rfl, hnc0, hmx0, R0⟩ := open_bytesA (hval 0 22 v0 rfl rfl) h0
  clear hA0 hval0
  refine (walk A0 n0 c0 W hnc0 hmx0 R0).mono fun e W' ⟨he, bel⟩ => ?_
  subst he
  exact ⟨_, rfl, _, _, _, [], _, [], hW', trodAll_mk1 (shut_bool Tryd.underlying4 _), (trodAll_cons_mk (Below.trod laidOut (by kernel_rfl) (of_decide_eq_true (by kernel_rfl)) k0 bel lt0) trodAll_mk0), rfl, bel.frame _, fun h => by cases h⟩
theorem row_holds : Rows.FnTallyOfSaid :=
  OpenClaim.holds_of_wide 11 Tryd.f11 rfl rfl rfl rfl rfl rfl rfl ⟨rfl, rfl, rfl, rfl, rfl⟩ rfl rfl rfl rfl rfl (by kernel_rfl) Tryd.func11 (by kernel_rfl)
    (of_decide_eq_true (by kernel_rfl)) (by unfold Func.isWrapper; first | (rw [if_pos (by decide +kernel)]; kernel_rfl) | (rw [if_neg (by decide +kernel)]; exact ⟨rfl, rfl⟩))
    (fun os started H enc _ => lifted os started H enc)
theorem proved : Rows.FnTallyOfCardSaid :=
  Claim7.holds_tied_plain_at .later [] [.data, .data, .data] true (true, "f2c1c1767bf673cc075bf186ddbc47504e5f3e3506e78108f3e747c99c658025") false
    row_holds (fun _ h => by cases h) (by kernel_rfl) (fun _ h => by cases h) fnTallyOf_row_tie rfl ⟨rfl, rfl⟩ (by kernel_rfl) rfl
    (fun f fn hf hfn => by
      obtain rfl : f = 11 := Option.some.inj ((show Tryd.prog.funcNamed "loop.example/historychecker/laws.FnTallyOf" = some 11 by kernel_rfl).symm.trans hf) |>.symm
      obtain rfl : fn = Tryd.f11 := (Option.some.inj (Tryd.func11.symm.trans hfn)).symm
      exact ⟨by kernel_rfl, fun j t ht => by
        rw [Tryd.params11] at ht
        have hm : t ∈ [22] := by simpa using Array.mem_of_getElem? ht
        have hall : ([22].all fun u => !Tryd.prog.wantsStandIn u) = true := by kernel_rfl
        exact (show Tryd.prog.wantsStandIn t = false by simpa using List.all_eq_true.1 hall t hm)⟩)
    (by kernel_rfl)
end Go.Proofs.YtjgjlcpnfiocfaaDoor.fnTallyOf
