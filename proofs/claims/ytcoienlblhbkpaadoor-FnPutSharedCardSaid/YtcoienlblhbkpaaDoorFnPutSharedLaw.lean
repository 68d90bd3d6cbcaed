/- FnPutShared: putting a number again changes nothing; what was out stays out. The library's table that the walk reads is tied to the program's text by the card. -/
import Derived.Test.YtcoienlblhbkpaaDoorOpenB
import Derived.Test.YtcoienlblhbkpaaDoorDraw10
import Derived.Test.YtcoienlblhbkpaaDoorSameS
import Derived.Test.YtcoienlblhbkpaaDoorShL
import Derived.Test.YtcoienlblhbkpaaDoorShI2
import Derived.Deep.RegionHeld3
namespace Go.Proofs.YtcoienlblhbkpaaDoor.fnPutShared
open Go.ChangeShapes Go.WideShapes Go.ChangeAt Go.RowKit

theorem any_snoc {xs : List Int} {n x : Int} {k : Nat} (h : xs[k]? = some x) : hasB (xs.take (k + 1)) n = (hasB (xs.take k) n || x == n) := by
  unfold hasB; rw [List.take_add_one, h, List.any_append]; simp
theorem any_step {xs : List Int} {n x : Int} {k : Nat} {f : Bool} (h : xs[k]? = some x) (hf : hasB (xs.take k) n = f) : hasB (xs.take (k + 1)) n = (if f then true else x == n) := by
  rw [any_snoc h, hf]; cases f <;> rfl

set_option maxRecDepth 100000 in
set_option maxHeartbeats 16000000 in
theorem walk (A : Option Addr) (n c : Nat) (w : World) (hnc : n ≤ c) (hmx : c ≤ maxLen) (hb : BY w w.heap.size A n) (hT : Tab w) :
    Calls Tryd.prog 9 #[.slice A n c] w fun e w' => e = .returned (.bool true) ∧ Below w.heap.size w w' := by
  by_cases hn : n ≤ 1048576
  · go_enter Tryd.func9, Tryd.ntmps9
    go_wp2_with fail
    refine (DrawPutShared_c hnc hmx hb).mono ?_
    rintro e w1 ⟨A1, k1, c1, xs, A2, k2, c2, ys, x, rfl, o1, o2, x0, x1, b1⟩
    obtain ⟨p, hp⟩ : ∃ p, sharedB xs ys = p := ⟨_, rfl⟩
    obtain ⟨q, hq⟩ : ∃ q, inB x 0 30 = q := ⟨_, rfl⟩
    have P := hide hp; have Q := hide hq; clear hp hq
    have K := Blk.new w1 27 #[.slice A1 k1 c1, .slice A2 k2 c2]
    have b2 := beB0 w1 (.cells #[.slice A1 k1 c1, .slice A2 k2 c2] 27)
    have B2 := below_step b1 b2
    replace o1 := (o1.below b2).si
    replace o2 := (o2.below b2).si
    clear b1 b2
    go_wp2_with fail
    generalize w1.alloc (.cells #[.slice A1 k1 c1, .slice A2 k2 c2] 27) = w2 at *
    refine (impl_PutShared_c (x := x) o1 o2 (hT.below B2)).mono ?_
    rintro e w3 ⟨A3, k3, c3, A4, k4, c4, rfl, o3, o4, _, b3⟩
    have B3 := below_step B2 b3
    have KX := Blk.new w3 27 #[.slice A3 k3 c3, .slice A4 k4 c4]
    have b4 := beB0 w3 (.cells #[.slice A3 k3 c3, .slice A4 k4 c4] 27)
    have B4 := below_step B3 b4
    replace o1 := (o1.below b3).below b4
    replace o2 := (o2.below b3).below b4
    replace o3 := (o3.below b4).si
    replace o4 := (o4.below b4).si
    replace K := (K.belowAll b3).belowAll b4
    clear b3 b4
    have h5 : w3.heap.size = w3.heap.size := rfl
    go_wp2_with fail
    generalize w3.alloc (.cells #[.slice A3 k3 c3, .slice A4 k4 c4] 27) = w4 at *
    have BZ : Below w4.heap.size w4 w4.drew := (Below.refl _ _).drew
    have hc : ∀ W, Below w4.heap.size w4 W → W.cell? ⟨w3.heap.size, 0, none⟩ = some (.slice A3 k3 c3) ∧ W.cell? ⟨w3.heap.size, 1, none⟩ = some (.slice A4 k4 c4) ∧ W.cell? ⟨w1.heap.size, 0, none⟩ = some (.slice A1 k1 c1) ∧ W.cell? ⟨w1.heap.size, 1, none⟩ = some (.slice A2 k2 c2) := fun W h => ⟨(KX.held2 h).1, (KX.held2 h).2, (K.held2 h).1, (K.held2 h).2⟩
    obtain ⟨kx0, kx1⟩ := KX.held2 (Below.refl _ _)
    obtain ⟨kk0, kk1⟩ := K.held2 (Below.refl _ _)
    go_region_held3 (fun W => W.cell? ⟨w3.heap.size, 0, none⟩ = some (.slice A3 k3 c3) ∧ W.cell? ⟨w3.heap.size, 1, none⟩ = some (.slice A4 k4 c4) ∧ W.cell? ⟨w1.heap.size, 0, none⟩ = some (.slice A1 k1 c1) ∧ W.cell? ⟨w1.heap.size, 1, none⟩ = some (.slice A2 k2 c2))
      (first | exact hc _ BZ)
      (first | (go_at_call 21; refine (spec_PutShared_c (x := x) (o1.below BZ) (o2.below BZ)).mono ?_; rintro e w5 ⟨A5, k5, c5, A6, k6, c6, rfl, o5, o6, _, b5⟩; replace BZ := below_step BZ b5) | (go_at_call 38; refine (sameShared_c (o3.below BZ) (o4.below BZ) o5.si o6.si).mono ?_; rintro e w6 ⟨rfl, b6⟩; replace BZ := below_step BZ b6; rw [same2]))
    obtain ⟨c0, c1', d0, d1⟩ := hc _ BZ
    clear kx0 kx1 kk0 kk1 o5 o6 b6
    go_wp2_with fail
    refine (impl_SharedValid_c (o1.below BZ) (o2.below BZ)).mono ?_
    rintro e w7 ⟨rfl, b7⟩
    replace BZ := below_step BZ b7
    rw [P.out]
    clear c0 c1' d0 d1
    obtain ⟨c0, c1', d0, d1⟩ := hc _ BZ
    by_cases hpq : p = true ∧ q = true
    · obtain ⟨rfl, rfl⟩ := hpq
      obtain ⟨q0, q1⟩ := (inB_iff x 0 30).1 Q.out
      have q0' : ¬ x < 0 := by omega
      have q1' : ¬ 30 < x := by omega
      obtain ⟨l1, l2, l3, l4, l5, l6⟩ := put_law P.out Q.out
      rw [l1] at o3
      rw [l2] at o4
      have hl3 := hide o3.len
      have L3 := hide l3; have L4 := hide l4; have L5 := hide l5; have L6 := hide l6
      clear l1 l2 l3 l4 l5 l6
      go_wp2_with fail
      have R3 : RI w4 A3 k3 (putL x xs) := by obtain ⟨_, _, e3, _, _, R3⟩ := o3; injection e3 with e3a e3b e3c; subst e3a; exact R3
      have hk30 : k3 ≤ 1048576 := o3.bd
      go_loop [6, 7] (fun f i => ∃ (j : Nat) (b : Bool), j ≤ k3 ∧ i = .int .i64 j ∧ f = .bool b ∧ hasB ((putL x xs).take j) x = b) (fun _ i => k3 - (intOf i).toNat)
      case atStart => exact ⟨0, false, Nat.zero_le _, rfl, rfl, rfl⟩
      case round =>
        obtain ⟨j, f, hj, rfl, rfl, hf⟩ := hrel
        have HF := hide hf; clear hf
        by_cases hlt : j < k3
        · obtain ⟨b, off, y, rfl, hbb, hy, hcy⟩ := R3.at_ hlt
          have hd := (BZ.cell (p := ⟨b, off + j, none⟩) hbb).trans hcy
          have st := any_step hy HF.out
          have ST := hide st
          clear hy hcy st
          have j0 : (0 : Int) ≤ j := by omega
          have j2 : (j : Int) < k3 := by omega
          cases f
          · go_wp2_with fail
            go_round
            case rel => exact ⟨j + 1, (y == x), by omega, by go_num, by simp, by rw [ST.out]; rfl⟩
            case measure => simp [intOf]; omega
          · go_wp2_with fail
            go_round
            case rel => exact ⟨j + 1, true, by omega, by go_num, by simp, by rw [ST.out]; rfl⟩
            case measure => simp [intOf]; omega
        · obtain rfl : j = k3 := by omega
          have hfull : (putL x xs).take j = putL x xs := List.take_of_length_le (by rw [hl3.out]; omega)
          have hft : f = true := by rw [← HF.out, hfull]; exact has_mem.2 L4.out
          subst hft
          clear hfull HF R3
          go_wp2_with fail
          replace BZ : Below w4.heap.size w4 w7.drew := BZ.drew
          go_region_held3 (fun W => W.cell? ⟨w3.heap.size, 0, none⟩ = some (.slice A3 j c3) ∧ W.cell? ⟨w3.heap.size, 1, none⟩ = some (.slice A4 k4 c4) ∧ W.cell? ⟨w1.heap.size, 0, none⟩ = some (.slice A1 k1 c1) ∧ W.cell? ⟨w1.heap.size, 1, none⟩ = some (.slice A2 k2 c2))
            (first | exact hc _ BZ)
            (first | (go_at_call 29; refine (impl_SharedValid_c (o3.below BZ) (o4.below BZ)).mono ?_; rintro e w8 ⟨rfl, b8⟩; replace BZ := below_step BZ b8; rw [L3.out]) | (go_at_call 39; refine (sameInts_c (o4.below BZ) (o2.below BZ)).mono ?_; rintro e w9 ⟨rfl, b9⟩; replace BZ := below_step BZ b9; rw [show decide (ys = ys) = true by simp]) | (go_at_call 22; refine (impl_PutShared_c (x := x) (o3.below BZ) (o4.below BZ) (hT.below (below_step B4 BZ))).mono ?_; rintro e w10 ⟨A5, k5, c5, A6, k6, c6, rfl, o5, o6, _, b10⟩; rw [L5.out] at o5; rw [L6.out] at o6; replace BZ := below_step BZ b10) | (go_at_call 38; refine (sameShared_c o5.si o6.si (o3.below BZ) (o4.below BZ)).mono ?_; rintro e w11 ⟨rfl, b11⟩; replace BZ := below_step BZ b11; rw [same2]))
          go_wp2_with fail
          go_ret
          exact ⟨rfl, below_step B4 BZ⟩
    · have hpq' : (sharedB xs ys && inB x 0 30) = false := by
        rw [P.out, Q.out]; cases p <;> cases q <;> simp_all
      obtain ⟨e1, e2⟩ := put_no hpq'
      have hk3 : k3 = 0 := by have := o3.len; rw [e1] at this; simpa using this.symm
      have hk4 : k4 = 0 := by have := o4.len; rw [e2] at this; simpa using this.symm
      subst hk3; subst hk4
      clear e1 e2 hpq'
      cases p
      · go_wp2_with fail
        refine (alive_c).mono ?_
        rintro e w8 ⟨rfl, b8⟩
        go_wp2_with fail
        go_ret
        exact ⟨rfl, below_step B4 (below_step BZ b8)⟩
      · have hq : q = false := by cases q <;> simp_all
        subst hq
        have hx : x < 0 ∨ 30 < x := (inB_not x 0 30).1 Q.out
        rcases hx with hx | hx
        · go_wp2_with fail
          refine (alive_c).mono ?_
          rintro e w8 ⟨rfl, b8⟩
          go_wp2_with fail
          go_ret
          exact ⟨rfl, below_step B4 (below_step BZ b8)⟩
        · have hx' : ¬ x < 0 := by omega
          go_wp2_with fail
          refine (alive_c).mono ?_
          rintro e w8 ⟨rfl, b8⟩
          go_wp2_with fail
          go_ret
          exact ⟨rfl, below_step B4 (below_step BZ b8)⟩
  · go_enter Tryd.func9, Tryd.ntmps9
    go_wp2_with fail
    go_ret
    exact ⟨rfl, Below.refl _ _⟩

theorem door_met (os : Os) (args : Array Value) : laidMetH Tryd.prog Rows.fnPutSharedRow.laid ((World.doorLaid Tryd.prog 24 os).forCall (fun _ _ => 0) ⟨#[], args, []⟩).memory :=
  laidMetH_of_parts3 (fuel := 8) (laidMet_of_run' 8 (by kernel_rfl) (by kernel_rfl)) (by kernel_rfl) (by kernel_rfl)
set_option maxRecDepth 100000 in
theorem lifted (os : Os) (started : os.Started) (H : Type) (enc : TypeId × Value → H) :
    ReturnsInHanded {} Tryd.checked os 9 .any (fun w args => (Rows.fnPutSharedSpec.pre enc Tryd.prog Tryd.f9 [] false w args ∧ laidMetH Tryd.prog Rows.fnPutSharedRow.laid w) ∧ sizedMet enc Tryd.prog Tryd.f9 (OpenSpec.ofChange Rows.fnPutSharedSpec) false w args)
      (Rows.fnPutSharedSpec.post enc Tryd.prog Tryd.f9 false true false false) := by
  refine returnsInHanded_of_change_and (C := Tryd.checked) (X := fun w _ => laidMetH Tryd.prog Rows.fnPutSharedRow.laid w) (fun _ _ _ hh h => h.of_heap hh) own started (by kernel_rfl) Tryd.func9
    (ChangeSpec.witness_shaped (enc := enc) (C := Tryd.checked) (os := os) (X := fun w _ => laidMetH Tryd.prog Rows.fnPutSharedRow.laid w) false (World.doorLaid Tryd.prog 24 os) #[.slice none 0 0] 8 rfl (World.shaped_of_RefB (by kernel_rfl) (by kernel_rfl)) (by kernel_rfl) (by kernel_rfl) (by kernel_rfl) (door_met os _)) ?_
  intro W base args ds gs before hval0 hW _ _ hL _
  have hval : ∀ (j : Nat) t v, Tryd.f9.params[j]? = some t → args[j]? = some v → Value.okWide Tryd.prog W .any base t v := hval0
  have hW' := hW
  obtain ⟨p, q, hA0, hV, rfl, hfz, hnd⟩ := hW
  have hA : DataW.TrodAll enc Tryd.prog W 0 (fun _ => true) true Tryd.f9.params.toList args.toList ds p := hA0
  rw [Tryd.params9] at hA hval
  obtain ⟨v0, vs0, d0, ds0, p0, q0, hargs, rfl, rfl, h0, r0⟩ := trodAll_cons hA
  obtain ⟨rfl, rfl, rfl⟩ := trodAll_nil r0
  obtain rfl : args = #[v0] := by cases args; simp_all
  obtain ⟨rfl, rfl⟩ := trodVars_none hV
  have k0 := h0
  have lt0 : ∀ x ∈ p0, x.block < W.heap.size := by obtain ⟨m, hm⟩ := k0; exact DataW.trod_lt m _ _ _ hm
  obtain ⟨A0, n0, c0, rfl, hnc0, hmx0, R0⟩ := open_bytesA (hval 0 38 v0 rfl rfl) h0
  clear hA0 hval0
  have hT : Tab W := tab_of_laidH hL (by kernel_rfl) rfl
  refine (walk A0 n0 c0 W hnc0 hmx0 R0 hT).mono fun e W' ⟨he, bel⟩ => ?_
  subst he
  exact ⟨_, rfl, _, _, _, [], _, [], hW', trodAll_mk1 (shut_bool Tryd.underlying4 _), (trodAll_cons_mk (Below.trod laidOut (by kernel_rfl) (of_decide_eq_true (by kernel_rfl)) k0 bel lt0) trodAll_mk0), rfl, bel.frame _, fun h => by cases h⟩
theorem row_holds : Rows.FnPutSharedSaid :=
  OpenClaim.holds_of_wide 9 Tryd.f9 rfl rfl rfl rfl rfl rfl rfl ⟨rfl, rfl, rfl, rfl, rfl⟩ rfl rfl rfl rfl rfl (by kernel_rfl) Tryd.func9 (by kernel_rfl)
    (of_decide_eq_true (by kernel_rfl)) (by unfold Func.isWrapper; first | (rw [if_pos (by decide +kernel)]; kernel_rfl) | (rw [if_neg (by decide +kernel)]; exact ⟨rfl, rfl⟩))
    (fun os started H enc _ => lifted os started H enc)
theorem proved : Rows.FnPutSharedCardSaid :=
  Claim7.holds_tied_plain_at .later [] [.data, .data, .data] true (true, "05a08bfe29a0c28e6e014570d56fa0359cf688acda83bdb85be7a3739bc03165") false
    row_holds (fun _ h => by cases h) (by kernel_rfl) (fun _ h => by cases h) fnPutShared_row_tie rfl ⟨rfl, rfl⟩ (by kernel_rfl) rfl
    (fun f fn hf hfn => by
      obtain rfl : f = 9 := Option.some.inj ((show Tryd.prog.funcNamed "loop.example/historychecker/laws.FnPutShared" = some 9 by kernel_rfl).symm.trans hf) |>.symm
      obtain rfl : fn = Tryd.f9 := (Option.some.inj (Tryd.func9.symm.trans hfn)).symm
      exact ⟨by kernel_rfl, fun j t ht => by
        rw [Tryd.params9] at ht
        have hm : t ∈ [38] := by simpa using Array.mem_of_getElem? ht
        have hall : ([38].all fun u => !Tryd.prog.wantsStandIn u) = true := by kernel_rfl
        exact (show Tryd.prog.wantsStandIn t = false by simpa using List.all_eq_true.1 hall t hm)⟩)
    (by kernel_rfl)
end Go.Proofs.YtcoienlblhbkpaaDoor.fnPutShared
