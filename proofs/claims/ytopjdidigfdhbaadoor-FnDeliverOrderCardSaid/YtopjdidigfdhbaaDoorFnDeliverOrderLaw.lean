/- FnDeliverOrder: no message comes before what its sender knew; every delivered message is behind all messages whose clocks are before its clock, and none comes twice. The card ties the listed variables to the program's text; the law's road does not look into them. -/
import Derived.Test.YtopjdidigfdhbaaDoorOpenB
import Derived.Test.YtopjdidigfdhbaaDoorDrawMv
import Derived.Test.YtopjdidigfdhbaaDoorSame
import Derived.Test.YtopjdidigfdhbaaDoorDeliverI
import Derived.Test.YtopjdidigfdhbaaDoorDeliverS
import Derived.Test.YtopjdidigfdhbaaDoorDeliverC
import Derived.Test.YtopjdidigfdhbaaDoorClockB
import Derived.BigQuiet
namespace Go.Proofs.YtopjdidigfdhbaaDoor.fnDeliverOrder
open Go.ChangeShapes Go.WideShapes Go.ChangeAt Go.RowKit

theorem runD_len (ms : Ms) : ∀ (f : Nat) (os : List Nat), (runD ms f os).length ≤ os.length + f
  | 0, os => by simp [runD]
  | f + 1, os => by
    rw [runD]
    cases nextD ms os with
    | none => simp
    | some k => have := runD_len ms f (os ++ [k]); simp at this ⊢; omega
theorem dlv_len (ms : Ms) : (dlvL ms).length ≤ ms.length := by
  unfold dlvL
  split
  · have := runD_len ms ms.length []; simpa using this
  · simp
theorem has_snoc {os : List Nat} {i j m : Nat} (h : os[i]? = some m) : (os.take (i + 1)).contains j = ((os.take i).contains j || (m == j)) := by
  rw [List.take_add_one, h]
  by_cases e : m = j
  · subst e; simp
  · have : ¬ j = m := fun h => e h.symm
    simp [e, this]

set_option maxRecDepth 100000 in
set_option maxHeartbeats 16000000 in
theorem walk (A : Option Addr) (n c : Nat) (w : World) (hnc : n ≤ c) (hmx : c ≤ maxLen) (hb : BY w w.heap.size A n) :
    Calls Tryd.prog 8 #[.slice A n c] w fun e w' => e = .returned (.bool true) ∧ Below w.heap.size w w' := by
  by_cases hn : n ≤ 1048576
  · go_enter Tryd.func8, Tryd.ntmps8
    go_wp2_with fail
    refine (DrawDeliverOrder_c hnc hmx hb).mono ?_
    rintro e w1 ⟨v, m, rfl, hM, hm9, b1⟩
    obtain ⟨b0, off0, c0, rfl, hnc0, hcm0, hlb, hbs⟩ := hM.shape
    obtain ⟨A0, c0', cs, hv, _, _, hRd, hC⟩ := hM.rd
    obtain ⟨rfl, rfl⟩ : (some ⟨b0, off0, none⟩ : Option Addr) = A0 ∧ c0 = c0' := by simpa using hv
    obtain ⟨ms, hRM, hsm⟩ := RM.of_rd hRd hC
    have HSM := hide hsm
    clear hv hM hC hRd hsm
    go_wp2_with fail
    refine (impl_DeliverOrder_c hRM (by omega) HSM.out).mono ?_
    rintro e w2 ⟨r2, k2, rfl, o2, b2⟩
    have B2 := below_step b1 b2
    have hRM2 := hRM.below b2
    go_wp2_with fail
    refine (spec_DeliverOrder_c hRM2 (by omega) HSM.out).mono ?_
    rintro e w3 ⟨r3, k3, rfl, o3, b3⟩
    have B3 := below_step B2 b3
    have s2 := o2.si.below b3
    go_wp2_with fail
    refine (sameInts_c s2 o3.si).mono ?_
    rintro e w4 ⟨rfl, b4⟩
    simp only [decide_true]
    have B4 := below_step B3 b4
    have s4 := s2.below b4
    have hRM4 := hRM2.below (b3.trans (b4.mono b3.size))
    obtain ⟨Ax, cx, rfl, hkx, hk20, hri⟩ := s4
    clear hRM hRM2 o2 o3 s2 B2 B3 b1 b2 b3 b4
    go_wp2_with fail
    refine (impl_MessagesValid_c hRM4 (by omega) HSM.out).mono ?_
    rintro e w5 ⟨rfl, b5⟩
    have B5 := below_step B4 b5
    have HRM := hide (hRM4.below b5)
    have HRI := hide (hri.below b5)
    have hkl := hri.len
    clear B4 hRM4 hri b5
    cases hv : mvB ms
    · have hz : dlvL ms = [] := by simp [dlvL, hv]
      obtain rfl : k2 = 0 := by rw [← hkl, hz]; rfl
      clear hv hz hkl
      go_wp2_with fail
      refine (alive_c).mono ?_
      rintro e w6 ⟨rfl, b6⟩
      go_wp2_with fail
      go_ret
      exact ⟨rfl, below_step B5 b6⟩
    · have HV := hide hv; have BB := hide B5
      have hos : (dlvL ms).length = k2 := by rw [← hkl]; simp [natsI]
      have HOS := hide hos
      have hmsl := HRM.out.1
      have hlen := dlv_len ms
      clear hv B5 hkl
      go_wp2_with fail
      go_loopw [5] (fun i wr => ∃ k : Nat, i = .int .i64 k ∧ k ≤ k2 ∧ Below w5.heap.size w5 wr) (fun i _ => k2 - (intOf i).toNat)
      case atStart => exact ⟨0, rfl, Nat.zero_le _, Below.refl _ _⟩
      case round =>
        obtain ⟨k, rfl, hk, bw⟩ := hrel
        have BW := hide bw; clear bw
        by_cases hkk : k < k2
        · obtain ⟨bx, ox, x, rfl, hbx, hx, hcx⟩ := HRI.out.at_ hkk
          obtain ⟨mk, hmk⟩ : ∃ q, (dlvL ms)[k]? = some q := ⟨_, List.getElem?_eq_getElem (by omega)⟩
          have hxm : x = (mk : Int) := by
            have h1 : (natsI (dlvL ms))[k]? = some (mk : Int) := by simp [natsI, hmk]
            rw [hx] at h1; injection h1
          subst hxm
          obtain ⟨_, hmlt, _⟩ := (dlv_ok (ms := ms)).at_ hmk
          have hnew := dlv_new (dlv_ok (ms := ms)) hmk
          have HMK := hide hmk; have HNW := hide hnew; have HCX := hide hcx
          have k0 : (0 : Int) ≤ k := by omega
          have k1 : (k : Int) < k2 := by omega
          clear hx hmk hnew hcx
          go_wp2_with fail
          go_loopw [6] (fun i wr => ∃ j : Nat, i = .int .i64 j ∧ j ≤ m ∧ Below w5.heap.size w5 wr) (fun i _ => m - (intOf i).toNat)
          case atStart => exact ⟨0, rfl, Nat.zero_le _, BW.out⟩
          case round =>
            clear BW
            obtain ⟨j, rfl, hj, bw⟩ := hrel
            have BW := hide bw; clear bw
            by_cases hjm : j < m
            · go_wp2_with fail
              go_loopw [7, 8] (fun bv i wr => ∃ i2 : Nat, i = .int .i64 i2 ∧ i2 ≤ k ∧ bv = .bool (((dlvL ms).take i2).contains j) ∧ Below w5.heap.size w5 wr) (fun _ i _ => k - (intOf i).toNat)
              case atStart => exact ⟨0, rfl, Nat.zero_le _, by simp, BW.out⟩
              case round =>
                clear BW
                obtain ⟨i2, rfl, hi2, rfl, bw⟩ := hrel
                have BW := hide bw; clear bw
                by_cases hik : i2 < k
                · obtain ⟨bx', ox', y, hA2, hby, hy, hcy⟩ := HRI.out.at_ (show i2 < k2 by omega)
                  injection hA2 with hA2; injection hA2 with e1 e2; subst e1; subst e2
                  obtain ⟨mi, hmi⟩ : ∃ q, (dlvL ms)[i2]? = some q := ⟨_, List.getElem?_eq_getElem (by omega)⟩
                  have hym : y = (mi : Int) := by
                    have h1 : (natsI (dlvL ms))[i2]? = some (mi : Int) := by simp [natsI, hmi]
                    rw [hy] at h1; injection h1
                  subst hym
                  have c1 := (BW.out.cell (p := ⟨bx, ox + i2, none⟩) hby).trans hcy
                  have hsn := has_snoc (j := j) hmi
                  have HSN := hide hsn
                  have i0 : (0 : Int) ≤ i2 := by omega
                  have i1 : (i2 : Int) < k2 := by omega
                  clear hy hcy hmi hsn
                  cases hb : ((dlvL ms).take i2).contains j
                  · rw [hb] at HSN
                    have HB := hide hb; clear hb
                    go_wp2_with fail
                    go_roundw
                    case rel => exact ⟨i2 + 1, by go_num, by omega, by rw [HSN.out, Bool.false_or]; congr 1; rw [Bool.eq_iff_iff, beq_iff_eq, beq_iff_eq]; omega, BW.out⟩
                    case measure => simp [intOf]; omega
                  · rw [hb] at HSN
                    have HB := hide hb; clear hb
                    go_wp2_with fail
                    go_roundw
                    case rel => exact ⟨i2 + 1, by go_num, by omega, by rw [HSN.out]; rfl, BW.out⟩
                    case measure => simp [intOf]; omega
                · obtain rfl : i2 = k := by omega
                  have cxk := (BW.out.cell (p := ⟨bx, ox + i2, none⟩) hbx).trans HCX.out
                  have j0 : (0 : Int) ≤ j := by omega
                  have j1 : (j : Int) < m := by omega
                  cases hb : ((dlvL ms).take i2).contains j
                  · by_cases hjm2 : j = mk
                    · subst hjm2
                      have HB := hide hb; clear hb
                      have g1 : ((j : Int) != j) = false := by simp
                      go_wp2_with fail
                      go_big_quiet (fail)
                      go_wp2_with fail
                      go_roundw
                      case rel => exact ⟨j + 1, by go_num, by omega, below_drewN BW.out _⟩
                      case measure => simp [intOf]; omega
                    · have hnb : j ∉ (dlvL ms).take i2 := by simpa using hb
                      have hle : leAll (atM ms j).2 (atM ms mk).2 = false := by
                        cases h : leAll (atM ms j).2 (atM ms mk).2 with
                        | false => rfl
                        | true => exact absurd (causal HV.out (dlv_ok (ms := ms)) HMK.out (by omega) hjm2 hnb h) (fun h => h)
                      obtain ⟨b3, o3, f3, y3, B3, q3, d3, hA3, hb3, hx3, p30, p31, hkd3, hdm3, hri3⟩ := HRM.out.at_ hjm
                      injection hA3 with hA3; injection hA3 with e1 e2; subst e1; subst e2
                      obtain ⟨b4, o4, f4, y4, B4, q4, d4, hA4, hb4, hx4, p40, p41, hkd4, hdm4, hri4⟩ := HRM.out.at_ (show mk < m by omega)
                      injection hA4 with hA4; injection hA4 with e1 e2; subst e1; subst e2
                      rw [atM_get hx3, atM_get hx4] at hle
                      have hbe : beforeB y3 y4 = false := by unfold beforeB; dsimp only at hle; rw [hle]; simp
                      have HBE := hide hbe; have HB := hide hb
                      have hs3 := HSM.out _ (List.mem_of_getElem? hx3)
                      have hs4 := HSM.out _ (List.mem_of_getElem? hx4)
                      have l3 := hri3.len; have l4 := hri4.len
                      have s3 : SI w5 (.slice B3 q3 d3) q3 y3 := SI.of_args hkd3 (by dsimp only at hs3; omega) hri3
                      have s4 : SI w5 (.slice B4 q4 d4) q4 y4 := SI.of_args hkd4 (by dsimp only at hs4; omega) hri4
                      have BZ := BW.out.drew
                      have hc : ∀ W, Below w5.heap.size w5 W → W.cell? ⟨bx, ox + i2, none⟩ = some (.int .i64 (mk : Int)) ∧ W.cell? ⟨b0, off0 + j * 2 + 1, none⟩ = some (.slice B3 q3 d3) ∧ W.cell? ⟨b0, off0 + mk * 2 + 1, none⟩ = some (.slice B4 q4 d4) := fun W h =>
                        ⟨(h.cell (p := ⟨bx, ox + i2, none⟩) hbx).trans HCX.out, (h.cell (p := ⟨b0, off0 + j * 2 + 1, none⟩) hb3).trans p31, (h.cell (p := ⟨b0, off0 + mk * 2 + 1, none⟩) hb3).trans p41⟩
                      have g1 : ((j : Int) != (mk : Int)) = true := by simp; omega
                      have m0 : (0 : Int) ≤ mk := by omega
                      have m1 : (mk : Int) < m := by omega
                      clear hb hle hnb hbe hx3 hx4 hs3 hs4 hri3 hri4 p30 p40 l3 l4
                      go_wp2_with fail
                      go_region_held3 (fun W => W.cell? ⟨bx, ox + i2, none⟩ = some (.int .i64 (mk : Int)) ∧ W.cell? ⟨b0, off0 + j * 2 + 1, none⟩ = some (.slice B3 q3 d3) ∧ W.cell? ⟨b0, off0 + mk * 2 + 1, none⟩ = some (.slice B4 q4 d4))
                        (first | exact hc _ BZ)
                        (first | (go_at_call 34; refine (impl_ClockBefore_c (s3.below BZ) (s4.below BZ)).mono ?_; rintro e w7 ⟨rfl, b7⟩; rw [HBE.out]; have BY := below_step BZ b7; clear BZ; have BZ := BY; clear BY))
                      go_wp2_with fail
                      go_roundw
                      case rel => exact ⟨j + 1, by go_num, by omega, BZ⟩
                      case measure => simp [intOf]; omega
                  · have hne : j ≠ mk := fun e => by
                      subst e
                      exact HNW.out (by simpa using hb)
                    have HB := hide hb; clear hb
                    have g1 : ((j : Int) != (mk : Int)) = true := by simp; omega
                    have g2 : ((mk : Int) == (j : Int)) = false := by rw [beq_eq_false_iff_ne]; omega
                    clear hne
                    go_wp2_with fail
                    go_big_quiet (fail)
                    go_wp2_with fail
                    go_roundw
                    case rel => exact ⟨j + 1, by go_num, by omega, below_drewN BW.out _⟩
                    case measure => simp [intOf]; omega
            · obtain rfl : j = m := by omega
              go_wp2_with fail
              go_roundw
              case rel => exact ⟨k + 1, by go_num, by omega, BW.out⟩
              case measure => simp [intOf]; omega
        · obtain rfl : k = k2 := by omega
          have hfin : decide ((k : Int) ≤ (m : Int)) = true := by simp; omega
          go_wp2_with fail
          go_ret
          exact ⟨by simp; omega, below_step BB.out BW.out⟩
  · go_enter Tryd.func8, Tryd.ntmps8
    go_wp2_with fail
    go_ret
    exact ⟨rfl, Below.refl _ _⟩

theorem door_met (os : Os) (args : Array Value) : laidMetH Tryd.prog Rows.fnDeliverOrderRow.laid ((World.doorLaid Tryd.prog 24 os).forCall (fun _ _ => 0) ⟨#[], args, []⟩).memory :=
  laidMetH_of_parts3 (fuel := 8) (laidMet_of_run' 8 (by kernel_rfl) (by kernel_rfl)) (by kernel_rfl) (by kernel_rfl)
set_option maxRecDepth 100000 in
theorem lifted (os : Os) (started : os.Started) (H : Type) (enc : TypeId × Value → H) :
    ReturnsInHanded {} Tryd.checked os 8 .any (fun w args => (Rows.fnDeliverOrderSpec.pre enc Tryd.prog Tryd.f8 [] false w args ∧ laidMetH Tryd.prog Rows.fnDeliverOrderRow.laid w) ∧ sizedMet enc Tryd.prog Tryd.f8 (OpenSpec.ofChange Rows.fnDeliverOrderSpec) false w args)
      (Rows.fnDeliverOrderSpec.post enc Tryd.prog Tryd.f8 false true false false) := by
  refine returnsInHanded_of_change_and (C := Tryd.checked) (X := fun w _ => laidMetH Tryd.prog Rows.fnDeliverOrderRow.laid w) (fun _ _ _ hh h => h.of_heap hh) own started (by kernel_rfl) Tryd.func8
    (ChangeSpec.witness_shaped (enc := enc) (C := Tryd.checked) (os := os) (X := fun w _ => laidMetH Tryd.prog Rows.fnDeliverOrderRow.laid w) false (World.doorLaid Tryd.prog 24 os) #[.slice none 0 0] 8 rfl (World.shaped_of_RefB (by kernel_rfl) (by kernel_rfl)) (by kernel_rfl) (by kernel_rfl) (by kernel_rfl) (door_met os _)) ?_
  intro W base args ds gs before hval0 hW _ _ _ _
  have hval : ∀ (j : Nat) t v, Tryd.f8.params[j]? = some t → args[j]? = some v → Value.okWide Tryd.prog W .any base t v := hval0
  have hW' := hW
  obtain ⟨p, q, hA0, hV, rfl, hfz, hnd⟩ := hW
  have hA : DataW.TrodAll enc Tryd.prog W 0 (fun _ => true) true Tryd.f8.params.toList args.toList ds p := hA0
  rw [Tryd.params8] at hA hval
  obtain ⟨v0, vs0, d0, ds0, p0, q0, hargs, rfl, rfl, h0, r0⟩ := trodAll_cons hA
  obtain ⟨rfl, rfl, rfl⟩ := trodAll_nil r0
  obtain rfl : args = #[v0] := by cases args; simp_all
  obtain ⟨rfl, rfl⟩ := trodVars_none hV
  have k0 := h0
  have lt0 : ∀ x ∈ p0, x.block < W.heap.size := by obtain ⟨m, hm⟩ := k0; exact DataW.trod_lt m _ _ _ hm
  obtain ⟨A0, n0, c0, rfl, hnc0, hmx0, R0⟩ := open_bytesA (hval 0 22 v0 rfl rfl) h0
  clear hA0 hval0
  refine (walk A0 n0 c0 W hnc0 hmx0 R0).mono fun e W' ⟨he, bel⟩ => ?_
  subst he
  exact ⟨_, rfl, _, _, _, [], _, [], hW', trodAll_mk1 (shut_bool Tryd.underlying4 _), (trodAll_cons_mk (Below.trod laidOut (by kernel_rfl) (of_decide_eq_true (by kernel_rfl)) k0 bel lt0) trodAll_mk0), rfl, bel.frame _, fun h => by cases h⟩
theorem row_holds : Rows.FnDeliverOrderSaid :=
  OpenClaim.holds_of_wide 8 Tryd.f8 rfl rfl rfl rfl rfl rfl rfl ⟨rfl, rfl, rfl, rfl, rfl⟩ rfl rfl rfl rfl rfl (by kernel_rfl) Tryd.func8 (by kernel_rfl)
    (of_decide_eq_true (by kernel_rfl)) (by unfold Func.isWrapper; first | (rw [if_pos (by decide +kernel)]; kernel_rfl) | (rw [if_neg (by decide +kernel)]; exact ⟨rfl, rfl⟩))
    (fun os started H enc _ => lifted os started H enc)
theorem proved : Rows.FnDeliverOrderCardSaid :=
  Claim7.holds_tied_plain_at .later [] [.data, .data, .data] true (true, "750ad089a0909c8e2fda4b82ce8af6d79673fc2283ed16af9c51f11c2587aea3") false
    row_holds (fun _ h => by cases h) (by kernel_rfl) (fun _ h => by cases h) fnDeliverOrder_row_tie rfl ⟨rfl, rfl⟩ (by kernel_rfl) rfl
    (fun f fn hf hfn => by
      obtain rfl : f = 8 := Option.some.inj ((show Tryd.prog.funcNamed "loop.example/historychecker/laws.FnDeliverOrder" = some 8 by kernel_rfl).symm.trans hf) |>.symm
      obtain rfl : fn = Tryd.f8 := (Option.some.inj (Tryd.func8.symm.trans hfn)).symm
      exact ⟨by kernel_rfl, fun j t ht => by
        rw [Tryd.params8] at ht
        have hm : t ∈ [22] := by simpa using Array.mem_of_getElem? ht
        have hall : ([22].all fun u => !Tryd.prog.wantsStandIn u) = true := by kernel_rfl
        exact (show Tryd.prog.wantsStandIn t = false by simpa using List.all_eq_true.1 hall t hm)⟩)
    (by kernel_rfl)
end Go.Proofs.YtopjdidigfdhbaaDoor.fnDeliverOrder
