/- FnMessagesValid: messages are counted by their senders; with the first one twice messages are invalid, without it valid ones are valid. The card ties the listed variables to the program's text; the law's road does not look into them. -/
import Derived.Test.YtopjdidigfdhbaaDoorOpenB
import Derived.Test.YtopjdidigfdhbaaDoorDrawMv
import Derived.Test.YtopjdidigfdhbaaDoorMsgsI
import Derived.Test.YtopjdidigfdhbaaDoorMsgsS
namespace Go.Proofs.YtopjdidigfdhbaaDoor.fnMessagesValid
open Go.ChangeShapes Go.WideShapes Go.ChangeAt Go.RowKit

theorem mv_dup (m : Int × List Int) (ms : Ms) : mvB (m :: m :: ms) = false := mvB_twice (k := 1) (j := 0) (by simp) (by omega) rfl
theorem mv_tail {m : Int × List Int} {ms : Ms} (h : mvB (m :: ms) = true) : mvB ms = true := by
  unfold mvB at h ⊢
  simp only [Bool.and_eq_true, decide_eq_true_eq, List.length_cons] at h ⊢
  obtain ⟨h1, h2⟩ := h
  have ha : ∀ i, atM (m :: ms) (i + 1) = atM ms i := fun i => by simp [atM]
  refine ⟨fun i hi => ?_, by omega⟩
  obtain ⟨h3, h4⟩ := h1 (i + 1) (by omega)
  rw [ha] at h3
  refine ⟨h3, fun j hj => ?_⟩
  have := h4 (j + 1) (by omega)
  rw [ha, ha] at this
  exact this

set_option maxRecDepth 100000 in
set_option maxHeartbeats 16000000 in
theorem walk (A : Option Addr) (n c : Nat) (w : World) (hnc : n ≤ c) (hmx : c ≤ maxLen) (hb : BY w w.heap.size A n) :
    Calls Tryd.prog 7 #[.slice A n c] w fun e w' => e = .returned (.bool true) ∧ Below w.heap.size w w' := by
  by_cases hn : n ≤ 1048576
  · go_enter Tryd.func7, Tryd.ntmps7
    go_wp2_with fail
    refine (DrawMessagesValid_c hnc hmx hb).mono ?_
    rintro e w1 ⟨v, m, rfl, hM, hm9, b1⟩
    obtain ⟨b0, off0, c0, rfl, hnc0, hcm0, hlb, hbs⟩ := hM.shape
    obtain ⟨A0, c0', cs, hv, _, _, hRd, hC⟩ := hM.rd
    obtain ⟨rfl, rfl⟩ : (some ⟨b0, off0, none⟩ : Option Addr) = A0 ∧ c0 = c0' := by simpa using hv
    obtain ⟨ms, hRM, hsm⟩ := RM.of_rd hRd hC
    have HSM := hide hsm
    have h1c := hC.cell1
    have hRM1 := hRM
    have hRd1 := hRd
    clear hv hM hC
    go_wp2_with fail
    refine (impl_MessagesValid_c hRM (by omega) HSM.out).mono ?_
    rintro e w2 ⟨rfl, b2⟩
    have B2 := below_step b1 b2
    have hRM2 := hRM.below b2
    go_wp2_with fail
    refine (spec_MessagesValid_c hRM2 (by omega) HSM.out).mono ?_
    rintro e w3 ⟨rfl, b3⟩
    have B3 := below_step B2 b3
    have hRM3 := hRM2.below b3
    have hRd3 := RdM.below hRd (b2.trans (b3.mono b2.size))
    clear hRM hRM2 hRd B2 b2 b3
    cases hv : mvB ms
    · have HV := hide hv; clear hv
      go_wp2_with fail
      refine (alive_c).mono ?_
      rintro e w4 ⟨rfl, b4⟩
      go_wp2_with fail
      go_ret
      exact ⟨rfl, below_step B3 b4⟩
    · by_cases hm0 : m = 0
      · subst hm0
        have HV := hide hv; clear hv
        go_wp2_with fail
        refine (alive_c).mono ?_
        rintro e w4 ⟨rfl, b4⟩
        go_wp2_with fail
        go_ret
        exact ⟨rfl, below_step B3 b4⟩
      · obtain ⟨k, rfl⟩ : ∃ k, m = k + 1 := ⟨m - 1, by omega⟩
        obtain ⟨c1, rfl⟩ : ∃ q, c0 = q + 1 := ⟨c0 - 1, by omega⟩
        obtain ⟨m0, mt, rfl⟩ : ∃ a b, ms = a :: b := by
          cases ms with
          | nil => have := hRM3.1; simp at this
          | cons a b => exact ⟨a, b, rfl⟩
        have htl := mv_tail hv
        have hsl := sliceM_one (b := b0) (off := off0) (n := k) (c := c1) (by omega)
        have hRT : RM w3 (some ⟨b0, off0 + (if c1 = 0 then 0 else 2), none⟩) k mt := hRM3.tail (fun h => by rw [if_neg (by omega)])
        obtain ⟨off1, ho1⟩ : ∃ q, off0 + (if c1 = 0 then 0 else 2) = q := ⟨_, rfl⟩
        rw [ho1] at hsl hRT
        have hsmt : Small mt := fun x hx => HSM.out x (List.mem_cons_of_mem _ hx)
        have HT := hide htl; have HV := hide hv; have HSMT := hide hsmt
        clear ho1 htl hv hsmt
        obtain ⟨bq, oq, f, ys, B, kk, d, hAq, hbq, hx, p0, p1, hkd, hdm, hri⟩ := hRM3.at_ (show 0 < k + 1 by omega)
        injection hAq with hAq; injection hAq with e1 e2; subst e1; subst e2
        obtain rfl : m0 = (f, ys) := by simpa using hx
        rw [Nat.zero_mul, Nat.add_zero] at p0 p1
        go_wp2_with fail
        refine (impl_MessagesValid_c hRT (by omega) HSMT.out).mono ?_
        rintro e w4 ⟨rfl, b4⟩
        rw [HT.out]
        have B4 := below_step B3 b4
        have hRM4 := hRM3.below b4
        have hRd4 := RdM.below hRd3 b4
        have hri4 := hri.below b4
        have a0 := (b4.cell (p := ⟨b0, off0, none⟩) hbq).trans p0
        have a1 := (b4.cell (p := ⟨b0, off0 + 1, none⟩) hbq).trans p1
        have hkl := hri.len
        have K5 := Blk.new w4 55 #[.int .i64 f, .slice B kk d]
        have b5 : Below w4.heap.size w4 (w4.alloc (.cells #[.int .i64 f, .slice B kk d] 55)) := (Below.refl _ _).alloc (Nat.le_refl _) _
        have O5 : (w4.alloc (.cells #[.int .i64 f, .slice B kk d] 55)).ownsRow w4.heap.size 55 2 (.slice (some ⟨w4.heap.size, 0, none⟩) 1 1) 1 [.int .i64 f, .slice B kk d] :=
          ⟨rfl, .inr ⟨w4.heap.size, 1, _, rfl, Nat.le_refl _, K5, Nat.le_refl _, by simp [maxLen], rfl, rfl⟩⟩
        have hRd5 := RdM.below hRd4 b5
        have hsm2 : Small ((f, ys) :: (f, ys) :: mt) := fun x hx => by
          rcases List.mem_cons.1 hx with rfl | hx
          · exact HSM.out _ (List.mem_cons_self ..)
          · exact HSM.out x hx
        have hdup := mv_dup (f, ys) mt
        have HS2 := hide hsm2; have HD := hide hdup
        have HM4 := hide hRM4; have HRD4 := hide hRd4; have HRI4 := hide hri4
        clear hsm2 hdup p0 p1 hri hRM3 hRd3 hRT hx K5 b4 hRM4 hRd4 hri4 hRM1 hRd1
        go_wp2_with (at_builtin; refine wpList_appMG (by rfl) _ _ rfl (by rfl) O5 (by rfl) hRd5 h1c (by omega) (by simp) ?_; intro v6 w6 h6 hg6 hat6; have B6 := below_appM b5 O5 (Nat.le_refl _) hg6; obtain ⟨A6, c6, hv6, hnc6, hcm6, hR6⟩ := own_rd h6 (by omega); subst hv6; rw [Nat.add_comm 1 (k + 1)] at hR6; have hM6 := RM.front HM4.out HRD4.out HRI4.out hkd hdm B6 hR6)
        rw [show 1 + (k + 1) = k + 1 + 1 by omega]
        refine (impl_MessagesValid_c hM6 (by omega) HS2.out).mono ?_
        rintro e w7 ⟨rfl, b7⟩
        rw [HD.out]
        go_wp2_with fail
        go_ret
        exact ⟨rfl, below_step (below_step B4 B6) b7⟩
  · go_enter Tryd.func7, Tryd.ntmps7
    go_wp2_with fail
    go_ret
    exact ⟨rfl, Below.refl _ _⟩

theorem door_met (os : Os) (args : Array Value) : laidMetH Tryd.prog Rows.fnMessagesValidRow.laid ((World.doorLaid Tryd.prog 24 os).forCall (fun _ _ => 0) ⟨#[], args, []⟩).memory :=
  laidMetH_of_parts3 (fuel := 8) (laidMet_of_run' 8 (by kernel_rfl) (by kernel_rfl)) (by kernel_rfl) (by kernel_rfl)
set_option maxRecDepth 100000 in
theorem lifted (os : Os) (started : os.Started) (H : Type) (enc : TypeId × Value → H) :
    ReturnsInHanded {} Tryd.checked os 7 .any (fun w args => (Rows.fnMessagesValidSpec.pre enc Tryd.prog Tryd.f7 [] false w args ∧ laidMetH Tryd.prog Rows.fnMessagesValidRow.laid w) ∧ sizedMet enc Tryd.prog Tryd.f7 (OpenSpec.ofChange Rows.fnMessagesValidSpec) false w args)
      (Rows.fnMessagesValidSpec.post enc Tryd.prog Tryd.f7 false true false false) := by
  refine returnsInHanded_of_change_and (C := Tryd.checked) (X := fun w _ => laidMetH Tryd.prog Rows.fnMessagesValidRow.laid w) (fun _ _ _ hh h => h.of_heap hh) own started (by kernel_rfl) Tryd.func7
    (ChangeSpec.witness_shaped (enc := enc) (C := Tryd.checked) (os := os) (X := fun w _ => laidMetH Tryd.prog Rows.fnMessagesValidRow.laid w) false (World.doorLaid Tryd.prog 24 os) #[.slice none 0 0] 8 rfl (World.shaped_of_RefB (by kernel_rfl) (by kernel_rfl)) (by kernel_rfl) (by kernel_rfl) (by kernel_rfl) (door_met os _)) ?_
  intro W base args ds gs before hval0 hW _ _ _ _
  have hval : ∀ (j : Nat) t v, Tryd.f7.params[j]? = some t → args[j]? = some v → Value.okWide Tryd.prog W .any base t v := hval0
  have hW' := hW
  obtain ⟨p, q, hA0, hV, rfl, hfz, hnd⟩ := hW
  have hA : DataW.TrodAll enc Tryd.prog W 0 (fun _ => true) true Tryd.f7.params.toList args.toList ds p := hA0
  rw [Tryd.params7] at hA hval
  obtain ⟨v0, vs0, d0, ds0, p0, q0, hargs, rfl, rfl, h0, r0⟩ := trodAll_cons hA
  obtain ⟨rfl, rfl, rfl⟩ := trodAll_nil r0
  obtain rfl : args = #[v0] := by cases args; simp_all
  obtain ⟨rfl, rfl⟩ := trodVars_none hV
  have k0 := h0
  have lt0 : ∀ x ∈ p0, x.block < W.heap.size := by obtain ⟨m, hm⟩ := k0; exact DataW.trod_lt m _ _ _ hm
  obtain ⟨A0, n0, c0, rfl, hnc0, hmx0, R0⟩ := open_bytesA (hval 0 22 v0 rfl rfl) h0
  clear hA0 hval0
  refine (walk A0 n0 c0 W hnc0 hmx0 R0).mono fun e W' ⟨he, bel⟩ => ?_
  subst he
  exact ⟨_, rfl, _, _, _, [], _, [], hW', trodAll_mk1 (shut_bool Tryd.underlying4 _), (trodAll_cons_mk (Below.trod laidOut (by kernel_rfl) (of_decide_eq_true (by kernel_rfl)) k0 bel lt0) trodAll_mk0), rfl, bel.frame _, fun h => by cases h⟩
theorem row_holds : Rows.FnMessagesValidSaid :=
  OpenClaim.holds_of_wide 7 Tryd.f7 rfl rfl rfl rfl rfl rfl rfl ⟨rfl, rfl, rfl, rfl, rfl⟩ rfl rfl rfl rfl rfl (by kernel_rfl) Tryd.func7 (by kernel_rfl)
    (of_decide_eq_true (by kernel_rfl)) (by unfold Func.isWrapper; first | (rw [if_pos (by decide +kernel)]; kernel_rfl) | (rw [if_neg (by decide +kernel)]; exact ⟨rfl, rfl⟩))
    (fun os started H enc _ => lifted os started H enc)
theorem proved : Rows.FnMessagesValidCardSaid :=
  Claim7.holds_tied_plain_at .later [] [.data, .data, .data] true (true, "750ad089a0909c8e2fda4b82ce8af6d79673fc2283ed16af9c51f11c2587aea3") false
    row_holds (fun _ h => by cases h) (by kernel_rfl) (fun _ h => by cases h) fnMessagesValid_row_tie rfl ⟨rfl, rfl⟩ (by kernel_rfl) rfl
    (fun f fn hf hfn => by
      obtain rfl : f = 7 := Option.some.inj ((show Tryd.prog.funcNamed "loop.example/historychecker/laws.FnMessagesValid" = some 7 by kernel_rfl).symm.trans hf) |>.symm
      obtain rfl : fn = Tryd.f7 := (Option.some.inj (Tryd.func7.symm.trans hfn)).symm
      exact ⟨by kernel_rfl, fun j t ht => by
        rw [Tryd.params7] at ht
        have hm : t ∈ [22] := by simpa using Array.mem_of_getElem? ht
        have hall : ([22].all fun u => !Tryd.prog.wantsStandIn u) = true := by kernel_rfl
        exact (show Tryd.prog.wantsStandIn t = false by simpa using List.all_eq_true.1 hall t hm)⟩)
    (by kernel_rfl)
end Go.Proofs.YtopjdidigfdhbaaDoor.fnMessagesValid
