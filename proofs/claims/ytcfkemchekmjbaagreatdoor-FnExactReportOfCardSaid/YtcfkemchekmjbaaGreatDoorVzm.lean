/- Merged (what the law reaches): AllS. -/
import Derived.Test.YtcfkemchekmjbaaGreatDoorVzl
import Derived.Deep.RegionHeld3
namespace Go.Proofs.YtcfkemchekmjbaaGreatDoor
open Go.RowKit
theorem LQ.grownLow {w w' : World} {lo g : Nat} {v : Value} {ls : Ls} (h : LQ w lo v ls) (hg : w.grownBy w' (some g)) (hl : g < lo) : LQ w' lo v ls := by
  obtain ⟨cs, a, b⟩ := h
  refine ⟨cs, a.kept hg ?_, fun k xs hk => ?_⟩
  · cases hv : v.ownBlock with
    | none => exact .inl rfl
    | some q => right; intro e; injection e with e; have := (World.ownsRow.lt a q hv).1; omega
  · obtain ⟨u, m, e, o⟩ := b k xs hk
    refine ⟨u, m, e, o.grown hg ?_⟩
    cases hv : u.ownBlock with
    | none => exact .inl rfl
    | some q => right; intro e; injection e with e; have := (o.lt q hv).1; omega
set_option maxRecDepth 100000 in
set_option maxHeartbeats 4000000 in
theorem spec_AllOrders_no {A : Option Addr} {n c : Nat} {ts : List Tx} {w : World} (hr : RTs w A n ts) (hn : n ≤ 1048576) (hsum : (allOps ts).length ≤ 1048576) (hsm : SmallT ts) (hh : histB ts = false) :
    Calls Tryz.prog 63 #[.slice A n c] w (AllR w (allV ts)) := by
  have hv : allV ts = [] := by unfold allV; rw [if_neg (by rw [hh]; simp)]
  have HV := hide hv; have HH := hide hh
  clear hv hh
  go_enter Tryz.func63, Tryz.ntmps63
  go_wp2_with fail
  refine (l1OwnTxnList_c hr hn hsm).mono ?_
  rintro e w2 ⟨A2, c2, rfl, hr2, b2⟩
  go_wp2_with fail
  refine (spec_HistoryValid_c hr2 (by omega) hsum hsm).mono ?_
  rintro e w3 ⟨rfl, b3⟩
  rw [HH.out]
  have B3 := below_step b2 b3
  go_wp2_with fail
  go_ret
  exact ⟨_, 0, 0, rfl, Nat.le_refl _, by omega, by rw [HV.out]; exact ⟨rfl, fun h => absurd h (by omega)⟩, B3.alloc B3.size _⟩
set_option maxRecDepth 100000 in
set_option maxHeartbeats 16000000 in
theorem spec_AllOrders_c {A : Option Addr} {n c : Nat} {ts : List Tx} {w : World} (hr : RTs w A n ts) (hh : histB ts = true) (hsum : (allOps ts).length ≤ 1048576) (hsm : SmallT ts) :
    Calls Tryz.prog 63 #[.slice A n c] w (AllR w (allV ts)) := by
  have HH := hide hh
  have hn6 : n ≤ 6 := by rw [← hr.1]; exact (histB_parts hh).1
  clear hh
  go_enter Tryz.func63, Tryz.ntmps63
  go_wp2_with fail
  refine (l1OwnTxnList_c hr (by omega) hsm).mono ?_
  rintro e w1 ⟨A1, c1, rfl, hr1, b1⟩
  have B1 := hide b1
  clear b1 hr
  go_wp2_with fail
  refine (spec_HistoryValid_c hr1 (by omega) hsum hsm).mono ?_
  rintro e w2 ⟨rfl, b2⟩
  rw [HH.out]
  have B2 := hide (below_step B1.out b2)
  have hr2 := hr1.below b2
  clear b2 hr1 B1
  go_wp2_with fail
  go_loopw [3, 4] (fun q i W => ∃ k : Nat, q = .int .i64 (prodTo ts k : Nat) ∧ i = .int .i64 k ∧ k ≤ 3 ∧ Below w2.heap.size w2 W) (fun _ i _ => 3 - (intOf i).toNat)
  case atStart => exact ⟨0, rfl, rfl, Nat.zero_le _, Below.refl _ _⟩
  case round =>
    obtain ⟨k, rfl, rfl, hk, bw⟩ := hrel
    rename World => wr
    have BW := hide bw; clear bw
    by_cases hk3 : k < 3
    · have k2 : (k : Int) ≤ 2 := by omega
      have h6 := inst_le6 HH.out (k : Int)
      have HPK := hide (show prodTo ts k * facN (inst ts (k : Int)).length = prodTo ts (k + 1) from rfl)
      generalize hln : (inst ts (k : Int)).length = ln at h6 HPK
      have HLN := hide hln
      clear hln
      go_wp2_with fail
      go_loopw [3, 5] (fun q i W => ∃ j : Nat, q = .int .i64 (prodTo ts k * facN (j + 1) : Nat) ∧ i = .int .i64 ((j : Int) + 2) ∧ (j = 0 ∨ j + 1 ≤ ln) ∧ Below w2.heap.size w2 W) (fun _ i _ => 8 - (intOf i).toNat)
      case atStart => exact ⟨0, by show _ = Value.int .i64 ((prodTo ts k * 1 : Nat) : Int); rw [Nat.mul_one], rfl, .inl rfl, BW.out⟩
      case round =>
        clear BW
        obtain ⟨j, rfl, rfl, hj, bw⟩ := hrel
        rename World => w3
        have BW := hide bw; clear bw
        go_wp2_with fail
        refine (spec_Installed_c (hr2.below BW.out) HH.out hsum hsm hk3).mono ?_
        rintro e w4 ⟨r4, m4, rfl, o4, b4⟩
        obtain rfl : m4 = ln := by rw [← HLN.out]; exact o4.len.symm
        obtain ⟨A4, c4, rfl⟩ := o4.shape
        have B4 := hide (below_step BW.out b4)
        clear o4 b4
        by_cases hjk : j + 2 ≤ m4
        · have j2 : (j : Int) + 2 ≤ m4 := by omega
          have hm : prodTo ts k * facN (j + 1 + 1) ≤ 373248000 := by
            have h1 := facN_le (show j + 1 + 1 ≤ 6 by omega)
            have h2 := prodTo_pw HH.out k
            have h3 : (720 : Nat) ^ k ≤ 720 ^ 2 := Nat.pow_le_pow_right (by decide) (by omega)
            have h4 := Nat.mul_le_mul (Nat.le_trans h2 h3) h1
            exact Nat.le_trans h4 (by decide)
          have hmm : prodTo ts k * facN (j + 1 + 1) = (prodTo ts k * facN (j + 1)) * (j + 2) := by rw [facN_succ (j + 1), Nat.mul_comm (j + 1 + 1), Nat.mul_assoc]
          generalize hM : prodTo ts k * facN (j + 1) = M at hmm
          rw [hmm] at hm
          have hmi : ((M * (j + 2) : Nat) : Int) = (M : Int) * ((j : Int) + 2) := by push_cast; rfl
          have hw1 : wrap64 ((M : Int) * ((j : Int) + 2)) = ((M * (j + 2) : Nat) : Int) := by rw [hmi]; unfold wrap64; rw [← hmi]; omega
          have HW := hide hw1; have HMM := hide hmm
          clear hw1 hmm hmi hm hM
          go_wp2_with fail
          go_roundw
          case rel => exact ⟨j + 1, by rw [HMM.out, ← HW.out], by go_num, .inr (by omega), B4.out⟩
          case measure => simp [intOf]; omega
        · have j2 : ¬ (j : Int) + 2 ≤ m4 := by omega
          have hfin := hide (show prodTo ts k * facN (j + 1) = prodTo ts (k + 1) by
            rw [← HPK.out]
            congr 1
            rcases hj with h | h
            · subst h
              have : m4 = 0 ∨ m4 = 1 := by omega
              rcases this with h | h <;> rw [h] <;> rfl
            · rw [show j + 1 = m4 by omega])
          go_wp2_with fail
          go_roundw
          case rel => exact ⟨k + 1, by rw [← hfin.out, Int.natCast_mul], by go_num, by omega, B4.out⟩
          case measure => simp [intOf]; omega
    · have k2 : ¬ (k : Int) ≤ 2 := by omega
      have HK := hide (show k = 3 by omega)
      by_cases hp : prodTo ts 3 ≤ 200
      · have hv : allV ts = outTo ts 3 := by unfold allV; rw [if_pos ⟨HH.out, hp⟩]
        have HV := hide hv; have HP := hide hp
        have p2 : ¬ (prodTo ts k : Int) > 200 := by rw [HK.out]; omega
        have hr3 := hr2.below BW.out
        have B3 := hide (below_step B2.out BW.out)
        have L0 := hide (LLQ.one wr)
        have B0 := hide (((Below.refl wr.heap.size wr).alloc (Nat.le_refl _) (.cells #[] 24)).alloc (by simp) (.cells #[.slice (some ⟨wr.heap.size, 0, none⟩) 0 0] 37))
        generalize prodTo ts k = pk at p2
        clear hv hp hk3 hk hr2 BW B2
        go_wp2_with fail
        clear p2
        go_loopw [6, 7] (fun q i W => ∃ k : Nat, i = .int .i64 k ∧ k ≤ 3 ∧ LLQ W wr.heap.size q (outTo ts k) ∧ Below wr.heap.size wr W) (fun _ i _ => 3 - (intOf i).toNat)
        case atStart => exact ⟨0, rfl, Nat.zero_le _, L0.out, B0.out⟩
        case round =>
          clear L0 B0
          obtain ⟨key, rfl, hkey, hout, bw⟩ := hrel
          rename World => w3
          have HO := hide hout; have BW := hide bw
          obtain ⟨Aq, cq, rfl⟩ := hout.shape
          clear hout bw
          by_cases hk3 : key < 3
          · have k2 : (key : Int) ≤ 2 := by omega
            go_wp2_with fail
            refine (spec_Installed_c (hr3.below BW.out) HH.out hsum hsm hk3).mono ?_
            rintro e w4 ⟨r4, m4, rfl, o4, b4⟩
            have h6 := inst_le6 HH.out (key : Int)
            have hm6 : m4 ≤ 6 := by rw [← o4.len]; exact h6
            obtain ⟨A4, c4, rfl⟩ := o4.shape
            have B4 := hide (below_step BW.out b4)
            have O4 := hide (HO.out.below b4)
            have s4 := hide o4.si
            clear o4 b4 HO BW
            go_wp2_with fail
            refine (l7Orders_c m4 _ _ w4 hm6 s4.out).mono ?_
            rintro e w5 ⟨v5, rfl, l5, b5⟩
            obtain ⟨A5, c5, rfl⟩ := l5.shape
            have o200 := outTo_200 HH.out HP.out (Nat.le_of_lt hk3)
            have hpl := prms_bd HH.out (key : Int)
            have b6 : Below w5.heap.size w5 (w5.alloc (.cells #[] 37)) := (Below.refl _ _).alloc (Nat.le_refl _) _
            have B6 := hide (below_step (below_step B4.out b5) b6)
            have N6 := hide ((LLQ.empty w5).mono (lo' := wr.heap.size) (below_step B4.out b5).size)
            have O6 := hide ((O4.out.below b5).below b6)
            have M6 := hide ((l5.lq.mono (lo' := wr.heap.size) B4.out.size).below b6)
            have AP6 := hide (show (Value.slice Aq (outTo ts key).length cq).ownBlock = none ∨ (Value.slice Aq (outTo ts key).length cq).ownBlock ≠ (Value.slice (some ⟨w5.heap.size, 0, none⟩) 0 0).ownBlock by
              obtain ⟨cs, o, _⟩ := O4.out.below b5
              cases hb : (Value.slice Aq (outTo ts key).length cq).ownBlock with
              | none => exact .inl rfl
              | some q => right; intro e; injection e with e; have e' : q = w5.heap.size := e; have := (World.ownsRow.lt o q hb).2; omega)
            have HNX := hide (fun m j (hm : m < (outTo ts key).length) => stepU_200 HH.out HP.out (j := j) hk3 hm)
            have hrows := hide (show ∀ b ∈ outTo ts key, b.length ≤ 3 from fun b hb => by rw [outTo_rows key b hb]; omega)
            have hstep := hide (show outTo ts (key + 1) = stepO (outTo ts key) (inst ts (key : Int)) from rfl)
            generalize hps : permsF (inst ts (key : Int)).length (inst ts (key : Int)) = ps at M6 hpl
            have HPS := hide hps
            have hps720 : ps.length ≤ 720 := by rw [← hps]; exact hpl
            generalize hxs : inst ts (key : Int) = xs at HNX hstep HPS
            generalize hou : outTo ts key = ou at O6 AP6 HNX hrows hstep o200
            clear l5 b5 b6 O4 s4 hps hxs hou B4
            go_wp2_with fail
            go_loopw [9, 10] (fun q i W => ∃ m : Nat, i = .int .i64 m ∧ m ≤ ou.length ∧ LLQ W wr.heap.size q (stepU ou xs m 0) ∧ LLQ W wr.heap.size (.slice Aq ou.length cq) ou ∧ ((Value.slice Aq ou.length cq).ownBlock = none ∨ (Value.slice Aq ou.length cq).ownBlock ≠ q.ownBlock) ∧ LQ W wr.heap.size (.slice A5 ps.length c5) ps ∧ Below wr.heap.size wr W) (fun _ i _ => ou.length - (intOf i).toNat)
            case atStart => exact ⟨0, rfl, Nat.zero_le _, by rw [stepU_zero]; exact N6.out, O6.out, AP6.out, M6.out, B6.out⟩
            case round =>
              clear B6 N6 O6 AP6 M6
              obtain ⟨m, rfl, hm, hnx, hout, hap, hmo, bw⟩ := hrel
              rename World => w4
              have HN := hide hnx; have HO := hide hout; have BW := hide bw; have HAP := hide hap; have HMO := hide hmo
              obtain ⟨An, cn, rfl⟩ := hnx.shape
              clear hnx bw hap hmo
              by_cases hmou : m < ou.length
              · have hm2 : (m : Int) < ou.length := by omega
                clear hout
                go_wp2_with fail
                go_loopw [9, 11] (fun q i W => ∃ j : Nat, i = .int .i64 j ∧ j ≤ ps.length ∧ LLQ W wr.heap.size q (stepU ou xs m j) ∧ LLQ W wr.heap.size (.slice Aq ou.length cq) ou ∧ ((Value.slice Aq ou.length cq).ownBlock = none ∨ (Value.slice Aq ou.length cq).ownBlock ≠ q.ownBlock) ∧ LQ W wr.heap.size (.slice A5 ps.length c5) ps ∧ Below wr.heap.size wr W) (fun _ i _ => ps.length - (intOf i).toNat)
                case atStart => exact ⟨0, rfl, Nat.zero_le _, HN.out, HO.out, HAP.out, HMO.out, BW.out⟩
                case round =>
                  clear HN HO HAP HMO BW
                  obtain ⟨j, rfl, hj, hnx, hout, hap, hmo, bw⟩ := hrel
                  rename World => w6
                  have HN := hide hnx; have HO := hide hout; have HAP := hide hap; have HMO := hide hmo; have BW := hide bw
                  obtain ⟨An, cn, rfl⟩ := hnx.shape
                  clear hnx hap bw
                  by_cases hjp : j < ps.length
                  · have j2 : (j : Int) < ps.length := by omega
                    obtain ⟨bo, ub, e1, hbo, hlb, hcb⟩ := hout.at_ hmou
                    subst e1
                    have hb : ou[m]? = some (ou.getD m []) := by rw [List.getD_eq_getElem?_getD, List.getElem?_eq_getElem hmou]; rfl
                    generalize hbd : ou.getD m [] = b at hlb hb
                    have HBD := hide hbd
                    have hb3 : b.length ≤ 3 := hrows.out b (List.mem_of_getElem? hb)
                    obtain ⟨A', c', hsh⟩ := hlb.shape
                    subst hsh
                    have HRB := hide hlb
                    obtain ⟨bp, u5, mu, e5, hbp, wu, cu⟩ := hmo.at_ hjp
                    subst e5
                    obtain ⟨A6, c6, rfl, _, _, _, _⟩ := wu.form
                    have HWU := hide wu
                    have hpj : (prms xs)[j]? = some (ps.getD j []) := by unfold prms; rw [HPS.out, List.getD_eq_getElem?_getD, List.getElem?_eq_getElem hjp]; rfl
                    have HST := hide (stepU_step (out := ou) (k := m) hpj)
                    have hn200 := HNX.out m j hmou
                    have BX : Below w6.heap.size w6 w6.drew := (Below.refl _ _).drew
                    have hc2 : ∀ W : World, W.heap[bo]? = w6.heap[bo]? → W.heap[bp]? = w6.heap[bp]? → (W.cell? ⟨bo, m, none⟩ = some (.slice A' b.length c') ∧ W.cell? ⟨bp, j, none⟩ = some (.slice A6 mu c6)) := fun W h1 h2 => ⟨(World.cell?_of_block h1).trans hcb, (World.cell?_of_block h2).trans cu⟩
                    have HC2 := hide hc2
                    have hkeep := fun (W : World) (h : Below w6.heap.size w6 W) => HC2.out W (h.block _ hbo) (h.block _ hbp)
                    clear hbd hb hlb hout hmo wu hpj hcb cu hc2
                    go_upto_region 26 with fail
                    refine wp_region_held_drew (S := (fun W => W.cell? ⟨bo, m, none⟩ = some (.slice A' b.length c') ∧ W.cell? ⟨bp, j, none⟩ = some (.slice A6 mu c6))) (by kernel_rfl) ?_ (fun hHeld => ?_)
                    · first | exact hkeep _ BX | exact hkeep15
                    refine wpAnyH_take (i := 0) (v := ?vv1_0) (by rw [List.getElem?_toArray]; exact rfl) (by kernel_rfl) (by kernel_rfl) (by kernel_rfl) (by intro _ _ _ h; exact h) (Or.inl ⟨by rfl, ?hy1_0⟩) hHeld ?rest1_0
                    case' hy1_0 => (intro w hSw; (try dsimp only at hSw); go_simp; try (with_reducible rfl))
                    (try simp only [Act.put, List.setIfInBounds_toArray, List.set_cons_zero, List.set_cons_succ])
                    refine wpAnyH_take (i := 1) (v := ?vv1_1) (by rw [List.getElem?_toArray]; exact rfl) (by kernel_rfl) (by kernel_rfl) (by kernel_rfl) (by intro _ _ _ h; exact h) (Or.inl ⟨by rfl, ?hy1_1⟩) hHeld ?rest1_1
                    case' hy1_1 => (intro w hSw; (try dsimp only at hSw); go_simp; try (with_reducible rfl))
                    (try simp only [Act.put, List.setIfInBounds_toArray, List.set_cons_zero, List.set_cons_succ])
                    refine wpAnyH_take (i := 2) (v := ?vv1_2) (by rw [List.getElem?_toArray]; exact rfl) (by kernel_rfl) (by kernel_rfl) (by kernel_rfl) (by intro _ _ _ h; exact h) (Or.inl ⟨by rfl, ?hy1_2⟩) hHeld ?rest1_2
                    case' hy1_2 => (intro w hSw; (try dsimp only at hSw); go_simp; try (with_reducible rfl))
                    (try simp only [Act.put, List.setIfInBounds_toArray, List.set_cons_zero, List.set_cons_succ])
                    refine wpAnyH_take (i := 3) (v := ?vv1_3) (by rw [List.getElem?_toArray]; exact rfl) (by kernel_rfl) (by kernel_rfl) (by kernel_rfl) (by intro _ _ _ h; exact h) (Or.inl ⟨by rfl, ?hy1_3⟩) hHeld ?rest1_3
                    case' hy1_3 => (intro w hSw; (try dsimp only at hSw); go_simp; try (with_reducible rfl))
                    (try simp only [Act.put, List.setIfInBounds_toArray, List.set_cons_zero, List.set_cons_succ])
                    refine wpAnyH_take (i := 4) (v := ?vv1_4) (by rw [List.getElem?_toArray]; exact rfl) (by kernel_rfl) (by kernel_rfl) (by kernel_rfl) (by intro _ _ _ h; exact h) (Or.inl ⟨by rfl, ?hy1_4⟩) hHeld ?rest1_4
                    case' hy1_4 => (intro w hSw; (try dsimp only at hSw); go_simp; try (with_reducible rfl))
                    (try simp only [Act.put, List.setIfInBounds_toArray, List.set_cons_zero, List.set_cons_succ])
                    refine wpAnyH_take (i := 7) (v := ?vv1_7) (by rw [List.getElem?_toArray]; exact rfl) (by kernel_rfl) (by kernel_rfl) (by kernel_rfl) (by intro _ _ _ h; exact h) (Or.inl ⟨by rfl, ?hy1_7⟩) hHeld ?rest1_7
                    case' hy1_7 => (intro w hSw; (try dsimp only at hSw); go_simp; try (with_reducible rfl))
                    (try simp only [Act.put, List.setIfInBounds_toArray, List.set_cons_zero, List.set_cons_succ])
                    refine wpAnyH_take (i := 8) (v := ?vv1_8) (by rw [List.getElem?_toArray]; exact rfl) (by kernel_rfl) (by kernel_rfl) (by kernel_rfl) (by intro _ _ _ h; exact h) (Or.inl ⟨by rfl, ?hy1_8⟩) hHeld ?rest1_8
                    case' hy1_8 => (intro w hSw; (try dsimp only at hSw); go_simp; try (with_reducible rfl))
                    (try simp only [Act.put, List.setIfInBounds_toArray, List.set_cons_zero, List.set_cons_succ])
                    refine wpAnyH_take (i := 9) (v := ?vv1_9) (by rw [List.getElem?_toArray]; exact rfl) (by kernel_rfl) (by kernel_rfl) (by kernel_rfl) (by intro _ _ _ h; exact h) (Or.inl ⟨by rfl, ?hy1_9⟩) hHeld ?rest1_9
                    case' hy1_9 => (intro w hSw; (try dsimp only at hSw); go_simp; try (with_reducible rfl))
                    (try simp only [Act.put, List.setIfInBounds_toArray, List.set_cons_zero, List.set_cons_succ])
                    refine wpAnyH_take (i := 10) (v := ?vv1_10) (by rw [List.getElem?_toArray]; exact rfl) (by kernel_rfl) (by kernel_rfl) (by kernel_rfl) (by intro _ _ _ h; exact h) (Or.inl ⟨by rfl, ?hy1_10⟩) hHeld ?rest1_10
                    case' hy1_10 => (intro w hSw; (try dsimp only at hSw); go_simp; try (with_reducible rfl))
                    (try simp only [Act.put, List.setIfInBounds_toArray, List.set_cons_zero, List.set_cons_succ])
                    refine wpAnyH_ready (rs := [5, 6]) (by kernel_rfl) (by simp) ?_
                    refine AllReadyH.cons (by rw [List.getElem?_toArray]; exact rfl) (fun K hK => ?_) (AllReadyH.cons (by rw [List.getElem?_toArray]; exact rfl) (fun K hK => ?_) AllReadyH.nil)
                    · go_simp
                      go_at_call 121
                      refine (l1OwnRowsInt_c (HRB.out.rl.2.2.below BX) (by omega)).mono ?_
                      rintro e w7 ⟨v7, rfl, l7, b7⟩
                      have l7' := l7.lq.mono (lo' := w6.heap.size) BX.size
                      have hsh7 := l7.lq.shape
                      replace BX := below_step BX b7
                      clear b7 l7
                      refine hK.out _ _ ?_ (fun hHeld => ?_)
                      · first | exact hkeep _ BX | exact hkeep15
                      clear hK K
                      (try simp only [Act.put, List.setIfInBounds_toArray, List.set_cons_zero, List.set_cons_succ])
                      refine wpAnyH_ready (rs := [6]) (by kernel_rfl) (by simp) ?_
                      refine AllReadyH.cons (by rw [List.getElem?_toArray]; exact rfl) (fun K hK => ?_) AllReadyH.nil
                      go_simp
                      obtain ⟨W, hW⟩ : ∃ W, w7.alloc (.cells #[] 3) = W := ⟨_, rfl⟩
                      obtain ⟨g0, hg0⟩ : ∃ g0, w7.heap.size = g0 := ⟨_, rfl⟩
                      have bW : Below w7.heap.size w7 W := by rw [← hW]; exact (Below.refl _ _).alloc (Nat.le_refl _) _
                      have oE : OI W w6.heap.size (.slice (some ⟨g0, 0, none⟩) 0 0) 0 [] := by rw [← hW, ← hg0]; exact (OI.empty w7).mono BX.size
                      have hGrow := hide (fun (wA : World) (hg : W.grownBy wA (some g0)) => l7'.below (bW.grown hg bW.size (fun q hq => by injection hq with hq; omega)))
                      replace BX := below_step BX bW
                      rw [hW]
                      (try rw [hg0])
                      clear bW hW l7' hg0
                      refine hK.out _ _ ?_ (fun hHeld => ?_)
                      · first | exact hkeep _ BX | exact hkeep15
                      clear hK K
                      (try simp only [Act.put, List.setIfInBounds_toArray, List.set_cons_zero, List.set_cons_succ])
                      refine wpAnyH_ready (rs := [11]) (by kernel_rfl) (by simp) ?_
                      refine AllReadyH.cons (by rw [List.getElem?_toArray]; exact rfl) (fun K hK => ?_) AllReadyH.nil
                      have sU := ((HWU.out.below BX).ri)
                      obtain ⟨vA, wA, hrun, oA, gA⟩ := runI 24 oE (SI.of_args sU.2 HWU.out.small sU.1) (by have := HWU.out.small; omega) BX.size
                      have BA := below_of_grown BX gA BX.size (oE.grown_le (Nat.le_refl _))
                      have lA := hGrow.out wA gA
                      clear BX hGrow sU
                      have BX := BA
                      clear BA gA oE
                      rw [Nat.zero_add, List.nil_append] at oA
                      obtain ⟨AA, cA, hsA⟩ := oA.shape
                      subst hsA
                      refine wp_append_stepO rfl _ _ rfl rfl rfl hrun ?_
                      clear hrun
                      refine hK.out _ _ ?_ (fun hHeld => ?_)
                      · first | exact hkeep _ BX | exact hkeep15
                      clear hK K
                      (try simp only [Act.put, List.setIfInBounds_toArray, List.set_cons_zero, List.set_cons_succ])
                      refine wpAnyH_ready (rs := [12]) (by kernel_rfl) (by simp) ?_
                      refine AllReadyH.cons (by rw [List.getElem?_toArray]; exact rfl) (fun K hK => ?_) AllReadyH.nil
                      go_simp
                      have bB : Below wA.heap.size wA (wA.alloc (.cells #[.slice AA mu cA] 24)) := (Below.refl _ _).alloc (Nat.le_refl _) _
                      have KB := Blk.new wA 24 #[.slice AA mu cA]
                      have oB := oA.wi.below bB
                      have lB := lA.below bB
                      replace BX := below_step BX bB
                      clear bB oA lA
                      refine hK.out _ _ ?_ (fun hHeld => ?_)
                      · first | exact hkeep _ BX | exact hkeep15
                      clear hK K
                      (try simp only [Act.put, List.setIfInBounds_toArray, List.set_cons_zero, List.set_cons_succ])
                      refine wpAnyH_ready (rs := [13]) (by kernel_rfl) (by simp) ?_
                      refine AllReadyH.cons (by rw [List.getElem?_toArray]; exact rfl) (fun K hK => ?_) AllReadyH.nil
                      obtain ⟨vC, wC, hrun, lC, gC, hatC⟩ := LQ.run lB 37 KB oB (by omega) BX.size
                      have BC := lB.grows BX (Nat.le_refl _) gC
                      clear BX
                      have BX := BC
                      clear BC gC hatC oB KB lB
                      obtain ⟨AC, cC, hsC⟩ := lC.shape
                      rw [List.length_append, List.length_singleton] at hsC
                      subst hsC
                      refine wp_append_stepO rfl _ _ rfl rfl rfl hrun ?_
                      clear hrun
                      refine hK.out _ _ ?_ (fun hHeld => ?_)
                      · first | exact hkeep _ BX | exact hkeep15
                      clear hK K
                      (try simp only [Act.put, List.setIfInBounds_toArray, List.set_cons_zero, List.set_cons_succ])
                      refine wpAnyH_ready (rs := [14]) (by kernel_rfl) (by simp) ?_
                      refine AllReadyH.cons (by rw [List.getElem?_toArray]; exact rfl) (fun K hK => ?_) AllReadyH.nil
                      go_simp
                      have bD : Below wC.heap.size wC (wC.alloc (.cells #[.slice AC (b.length + 1) cC] 37)) := (Below.refl _ _).alloc (Nat.le_refl _) _
                      have KD := Blk.new wC 37 #[.slice AC (b.length + 1) cC]
                      have lD := (lC.below bD).mono (lo' := wr.heap.size) BW.out.size
                      replace BX := below_step BX bD
                      clear bD lC
                      refine hK.out _ _ ?_ (fun hHeld => ?_)
                      · first | exact hkeep _ BX | exact hkeep15
                      clear hK K
                      (try simp only [Act.put, List.setIfInBounds_toArray, List.set_cons_zero, List.set_cons_succ])
                      refine wpAnyH_ready (rs := [15]) (by kernel_rfl) (by simp) ?_
                      refine AllReadyH.cons (by rw [List.getElem?_toArray]; exact rfl) (fun K hK => ?_) AllReadyH.nil
                      have NB := HN.out.below BX
                      obtain ⟨vE, wE, hrun, lE, gE, hatE⟩ := LLQ.run NB 50 KD lD (by omega) (Nat.le_trans BW.out.size BX.size)
                      have OB := HO.out.below BX
                      have MB := HMO.out.below BX
                      have BE := LLQ.grows NB (below_step BW.out BX) (Nat.le_refl _) gE
                      have APE : (Value.slice (some ⟨bo, 0, none⟩) ou.length cq).ownBlock = none ∨ (Value.slice (some ⟨bo, 0, none⟩) ou.length cq).ownBlock ≠ vE.ownBlock := by
                        rcases hatE with e | e
                        · rw [e]; exact HAP.out
                        · obtain ⟨csO, oO, _⟩ := OB
                          cases hb0 : (Value.slice (some ⟨bo, 0, none⟩) ou.length cq).ownBlock with
                          | none => exact .inl rfl
                          | some q0 => right; rw [e]; intro e2; injection e2 with e2; have := (World.ownsRow.lt oO q0 hb0).2; omega
                      obtain ⟨csN, oN, _⟩ := NB
                      have OE := OB.grown oN gE HAP.out
                      have ME := MB.grown oN gE (by decide) (by decide)
                      have hk1 : wE.heap[bo]? = w6.heap[bo]? := (gE.block bo (Nat.lt_of_lt_of_le hbo BX.size) (fun e => by
                        rcases HAP.out with h | h
                        · cases h
                        · exact h e)).trans (BX.block bo hbo)
                      have hk2 : wE.heap[bp]? = w6.heap[bp]? := (gE.block bp (Nat.lt_of_lt_of_le hbp BX.size) (fun e => by
                        obtain ⟨csM, oM, _⟩ := MB
                        rcases own_ne_own oM oN (by decide) with h | h
                        · cases h
                        · exact h e)).trans (BX.block bp hbp)
                      have hkeep15 := HC2.out wE hk1 hk2
                      refine wp_append_stepO rfl _ _ rfl rfl rfl hrun ?_
                      clear hrun
                      refine hK.out _ _ ?_ (fun hHeld => ?_)
                      · first | exact hkeep _ BX | exact hkeep15
                      clear hK K
                      (try simp only [Act.put, List.setIfInBounds_toArray, List.set_cons_zero, List.set_cons_succ])
                      refine wpAnyH_take (i := 16) (v := ?vv2_16) (by rw [List.getElem?_toArray]; exact rfl) (by kernel_rfl) (by kernel_rfl) (by kernel_rfl) (by intro _ _ _ h; exact h) (Or.inl ⟨by rfl, ?hy2_16⟩) hHeld ?rest2_16
                      case' hy2_16 => (intro w hSw; (try dsimp only at hSw); go_simp; try (with_reducible rfl))
                      (try simp only [Act.put, List.setIfInBounds_toArray, List.set_cons_zero, List.set_cons_succ])
                      refine wpAnyH_done (by kernel_rfl) ?_ _
                      go_wp2_with fail
                      go_roundw
                      case rel => exact ⟨j + 1, by go_num, by omega, by rw [HST.out, HBD.out]; exact lE, OE, APE, ME, BE⟩
                      case measure => simp [intOf]; omega
                    · go_simp
                      obtain ⟨W0, hW⟩ : ∃ W, (w6.alloc (.cells #[] 3)).drew = W := ⟨_, rfl⟩
                      obtain ⟨g0, hg0⟩ : ∃ g0, w6.heap.size = g0 := ⟨_, rfl⟩
                      have bW : Below w6.heap.size w6 W0 := by rw [← hW]; exact ((Below.refl _ _).alloc (Nat.le_refl _) _).drew
                      have oE0 : OI W0 w6.heap.size (.slice (some ⟨g0, 0, none⟩) 0 0) 0 [] := by rw [← hW, ← hg0]; exact (OI.empty w6).drew
                      clear BX
                      have BX := bW
                      have hgz : g0 < W0.heap.size := (World.ownsRow.lt oE0.1 g0 rfl).2
                      rw [hW]
                      (try rw [hg0])
                      clear bW hW hg0
                      refine hK.out _ _ ?_ (fun hHeld => ?_)
                      · first | exact hkeep _ BX | exact hkeep15
                      clear hK K
                      (try simp only [Act.put, List.setIfInBounds_toArray, List.set_cons_zero, List.set_cons_succ])
                      refine wpAnyH_ready (rs := [5]) (by kernel_rfl) (by simp) ?_
                      refine AllReadyH.cons (by rw [List.getElem?_toArray]; exact rfl) (fun K hK => ?_) AllReadyH.nil
                      go_simp
                      go_at_call 121
                      refine (l1OwnRowsInt_c (HRB.out.rl.2.2.below BX) (by omega)).mono ?_
                      rintro e W ⟨v7, rfl, l7, b7⟩
                      have oE := oE0.below b7
                      have hz0 : w6.heap.size ≤ W0.heap.size := BX.size
                      replace BX := below_step BX b7
                      have hGrow := hide (fun (wA : World) (hg : W.grownBy wA (some g0)) => (l7.lq.grownLow hg hgz).mono (lo' := w6.heap.size) hz0)
                      have hsh7 := l7.lq.shape
                      clear b7 l7 oE0 hz0 hgz
                      refine hK.out _ _ ?_ (fun hHeld => ?_)
                      · first | exact hkeep _ BX | exact hkeep15
                      clear hK K
                      (try simp only [Act.put, List.setIfInBounds_toArray, List.set_cons_zero, List.set_cons_succ])
                      refine wpAnyH_ready (rs := [11]) (by kernel_rfl) (by simp) ?_
                      refine AllReadyH.cons (by rw [List.getElem?_toArray]; exact rfl) (fun K hK => ?_) AllReadyH.nil
                      have sU := ((HWU.out.below BX).ri)
                      obtain ⟨vA, wA, hrun, oA, gA⟩ := runI 24 oE (SI.of_args sU.2 HWU.out.small sU.1) (by have := HWU.out.small; omega) BX.size
                      have BA := below_of_grown BX gA BX.size (oE.grown_le (Nat.le_refl _))
                      have lA := hGrow.out wA gA
                      clear BX hGrow sU
                      have BX := BA
                      clear BA gA oE
                      rw [Nat.zero_add, List.nil_append] at oA
                      obtain ⟨AA, cA, hsA⟩ := oA.shape
                      subst hsA
                      refine wp_append_stepO rfl _ _ rfl rfl rfl hrun ?_
                      clear hrun
                      refine hK.out _ _ ?_ (fun hHeld => ?_)
                      · first | exact hkeep _ BX | exact hkeep15
                      clear hK K
                      (try simp only [Act.put, List.setIfInBounds_toArray, List.set_cons_zero, List.set_cons_succ])
                      refine wpAnyH_ready (rs := [12]) (by kernel_rfl) (by simp) ?_
                      refine AllReadyH.cons (by rw [List.getElem?_toArray]; exact rfl) (fun K hK => ?_) AllReadyH.nil
                      go_simp
                      have bB : Below wA.heap.size wA (wA.alloc (.cells #[.slice AA mu cA] 24)) := (Below.refl _ _).alloc (Nat.le_refl _) _
                      have KB := Blk.new wA 24 #[.slice AA mu cA]
                      have oB := oA.wi.below bB
                      have lB := lA.below bB
                      replace BX := below_step BX bB
                      clear bB oA lA
                      refine hK.out _ _ ?_ (fun hHeld => ?_)
                      · first | exact hkeep _ BX | exact hkeep15
                      clear hK K
                      (try simp only [Act.put, List.setIfInBounds_toArray, List.set_cons_zero, List.set_cons_succ])
                      refine wpAnyH_ready (rs := [13]) (by kernel_rfl) (by simp) ?_
                      refine AllReadyH.cons (by rw [List.getElem?_toArray]; exact rfl) (fun K hK => ?_) AllReadyH.nil
                      obtain ⟨vC, wC, hrun, lC, gC, hatC⟩ := LQ.run lB 37 KB oB (by omega) BX.size
                      have BC := lB.grows BX (Nat.le_refl _) gC
                      clear BX
                      have BX := BC
                      clear BC gC hatC oB KB lB
                      obtain ⟨AC, cC, hsC⟩ := lC.shape
                      rw [List.length_append, List.length_singleton] at hsC
                      subst hsC
                      refine wp_append_stepO rfl _ _ rfl rfl rfl hrun ?_
                      clear hrun
                      refine hK.out _ _ ?_ (fun hHeld => ?_)
                      · first | exact hkeep _ BX | exact hkeep15
                      clear hK K
                      (try simp only [Act.put, List.setIfInBounds_toArray, List.set_cons_zero, List.set_cons_succ])
                      refine wpAnyH_ready (rs := [14]) (by kernel_rfl) (by simp) ?_
                      refine AllReadyH.cons (by rw [List.getElem?_toArray]; exact rfl) (fun K hK => ?_) AllReadyH.nil
                      go_simp
                      have bD : Below wC.heap.size wC (wC.alloc (.cells #[.slice AC (b.length + 1) cC] 37)) := (Below.refl _ _).alloc (Nat.le_refl _) _
                      have KD := Blk.new wC 37 #[.slice AC (b.length + 1) cC]
                      have lD := (lC.below bD).mono (lo' := wr.heap.size) BW.out.size
                      replace BX := below_step BX bD
                      clear bD lC
                      refine hK.out _ _ ?_ (fun hHeld => ?_)
                      · first | exact hkeep _ BX | exact hkeep15
                      clear hK K
                      (try simp only [Act.put, List.setIfInBounds_toArray, List.set_cons_zero, List.set_cons_succ])
                      refine wpAnyH_ready (rs := [15]) (by kernel_rfl) (by simp) ?_
                      refine AllReadyH.cons (by rw [List.getElem?_toArray]; exact rfl) (fun K hK => ?_) AllReadyH.nil
                      have NB := HN.out.below BX
                      obtain ⟨vE, wE, hrun, lE, gE, hatE⟩ := LLQ.run NB 50 KD lD (by omega) (Nat.le_trans BW.out.size BX.size)
                      have OB := HO.out.below BX
                      have MB := HMO.out.below BX
                      have BE := LLQ.grows NB (below_step BW.out BX) (Nat.le_refl _) gE
                      have APE : (Value.slice (some ⟨bo, 0, none⟩) ou.length cq).ownBlock = none ∨ (Value.slice (some ⟨bo, 0, none⟩) ou.length cq).ownBlock ≠ vE.ownBlock := by
                        rcases hatE with e | e
                        · rw [e]; exact HAP.out
                        · obtain ⟨csO, oO, _⟩ := OB
                          cases hb0 : (Value.slice (some ⟨bo, 0, none⟩) ou.length cq).ownBlock with
                          | none => exact .inl rfl
                          | some q0 => right; rw [e]; intro e2; injection e2 with e2; have := (World.ownsRow.lt oO q0 hb0).2; omega
                      obtain ⟨csN, oN, _⟩ := NB
                      have OE := OB.grown oN gE HAP.out
                      have ME := MB.grown oN gE (by decide) (by decide)
                      have hk1 : wE.heap[bo]? = w6.heap[bo]? := (gE.block bo (Nat.lt_of_lt_of_le hbo BX.size) (fun e => by
                        rcases HAP.out with h | h
                        · cases h
                        · exact h e)).trans (BX.block bo hbo)
                      have hk2 : wE.heap[bp]? = w6.heap[bp]? := (gE.block bp (Nat.lt_of_lt_of_le hbp BX.size) (fun e => by
                        obtain ⟨csM, oM, _⟩ := MB
                        rcases own_ne_own oM oN (by decide) with h | h
                        · cases h
                        · exact h e)).trans (BX.block bp hbp)
                      have hkeep15 := HC2.out wE hk1 hk2
                      refine wp_append_stepO rfl _ _ rfl rfl rfl hrun ?_
                      clear hrun
                      refine hK.out _ _ ?_ (fun hHeld => ?_)
                      · first | exact hkeep _ BX | exact hkeep15
                      clear hK K
                      (try simp only [Act.put, List.setIfInBounds_toArray, List.set_cons_zero, List.set_cons_succ])
                      refine wpAnyH_take (i := 16) (v := ?vv3_16) (by rw [List.getElem?_toArray]; exact rfl) (by kernel_rfl) (by kernel_rfl) (by kernel_rfl) (by intro _ _ _ h; exact h) (Or.inl ⟨by rfl, ?hy3_16⟩) hHeld ?rest3_16
                      case' hy3_16 => (intro w hSw; (try dsimp only at hSw); go_simp; try (with_reducible rfl))
                      (try simp only [Act.put, List.setIfInBounds_toArray, List.set_cons_zero, List.set_cons_succ])
                      refine wpAnyH_done (by kernel_rfl) ?_ _
                      go_wp2_with fail
                      go_roundw
                      case rel => exact ⟨j + 1, by go_num, by omega, by rw [HST.out, HBD.out]; exact lE, OE, APE, ME, BE⟩
                      case measure => simp [intOf]; omega
                  · obtain rfl : j = ps.length := by omega
                    have hb : ou[m]? = some (ou.getD m []) := by rw [List.getD_eq_getElem?_getD, List.getElem?_eq_getElem hmou]; rfl
                    have hnxt := hide (show stepU ou xs (m + 1) 0 = stepU ou xs m ps.length from stepU_next hb (by unfold prms; rw [HPS.out]; exact Nat.le_refl _))
                    clear hmo hout hb
                    go_wp2_with fail
                    go_roundw
                    case rel => exact ⟨m + 1, by go_num, by omega, by rw [hnxt.out]; exact HN.out, HO.out, HAP.out, HMO.out, BW.out⟩
                    case measure => simp [intOf]; omega
              · obtain rfl : m = ou.length := by omega
                have hall := hide (show stepU ou xs ou.length 0 = outTo ts (key + 1) by rw [stepU_all (Nat.le_refl _), hstep.out])
                clear hout
                go_wp2_with fail
                go_roundw
                case rel => exact ⟨key + 1, by go_num, by omega, by rw [← hall.out]; exact HN.out, BW.out⟩
                case measure => simp [intOf]; omega
          · have k2 : ¬ (key : Int) ≤ 2 := by omega
            have HK3 := hide (show key = 3 by omega)
            have h200 := outTo_200 HH.out HP.out hkey
            clear hk3 hkey
            have hrl := HO.out.rll
            have HRLL := hide hrl
            clear hrl
            go_wp2_with fail
            go_ret
            refine ⟨Aq, _, _, rfl, HRLL.out.2.1, by omega, ?_, B3.out.trans (BW.out.mono B3.out.size)⟩
            rw [HV.out, ← HK3.out]; exact HRLL.out.2.2
      · have hv : allV ts = [] := by unfold allV; rw [if_neg (fun h => hp h.2)]
        have HV := hide hv
        have p2 : (prodTo ts k : Int) > 200 := by rw [HK.out]; omega
        have B3 := hide (below_step B2.out BW.out)
        generalize prodTo ts k = pk at p2
        clear hv hp hk3 hk
        go_wp2_with fail
        go_ret
        exact ⟨_, 0, 0, rfl, Nat.le_refl _, by omega, by rw [HV.out]; exact ⟨rfl, fun h => absurd h (by omega)⟩, B3.out.alloc B3.out.size _⟩
end Go.Proofs.YtcfkemchekmjbaaGreatDoor
