/- Merged (what the law reaches): Wv9. -/
import Derived.Test.YtcfkemchekmjbaaGreatDoorVze
import Derived.Deep.DeepCutAuto
namespace Go.Proofs.YtcfkemchekmjbaaGreatDoor
open Go.RowKit
/-- 'append(v, e)' on edges, as a run. -/
theorem runE {w : World} (ty : TypeId) {B b n : Nat} {v : Value} {ts : List T3} {x y z : Int} (hown : O3 146 w B v n ts) (hK : Blk w b 146 #[.int .i64 x, .int .i64 y, .int .i64 z]) (hm : n + 1 ≤ 1048576) (hB : B ≤ w.heap.size) :
    ∃ v' w', (Builtin.append_ #[97, 97] ty #[v, .slice (some ⟨b, 0, none⟩) 1 1]).run Tryz.prog w = .ok v' w' ∧ O3 146 w' B v' (n + 1) (ts ++ [(x, y, z)]) ∧ w.grownBy w' v.ownBlock := by
  obtain ⟨i, hi, hz, hsz, hby⟩ := info_parts infoEz
  obtain ⟨A, c, e, hnc, hn, hr⟩ := S3.one (c := 1) hK (Nat.le_refl _)
  injection e with e1 e2 e3
  subst e1; subst e3
  obtain ⟨v', w', hrun, h2, h3, _⟩ := app_rd (P := Tryz.prog) (w := w) B 97 ty 146 i (.agg #[.int .i64 0, .int .i64 0, .int .i64 0]) 3 24 Tryz.underlying97 hi hz hsz hby rfl (by omega) v n _ hown.1 _ 1 1 _ hr.rd (ints_oneCell _ _) (by simp only [maxLen]; omega) (by omega) hB
  exact ⟨v', w', hrun, ⟨by rw [flat3_append]; simpa using h2, hm⟩, h3⟩
set_option maxRecDepth 100000 in
set_option maxHeartbeats 16000000 in
theorem spec_EdgesOf_c {A Ao : Option Addr} {n c no co : Nat} {ts : List Tx} {os : Ls} {w : World} (hr : RTs w A n ts) (hh : histB ts = true) (hsum : (allOps ts).length ≤ 1048576) (hsm : SmallT ts) (ho : RL w Ao no os) (hno : no ≤ 1048576) :
    Calls Tryz.prog 195 #[.slice A n c, .slice Ao no co] w (RetE w (edgesL ts os)) := by
  obtain ⟨h6, hv, hnd⟩ := histB_parts hh
  have hl := hide hr.1
  have hn6 : n ≤ 6 := by rw [← hl.out]; exact h6
  have HH := hide hh; have HV := hide hv
  have o0 := hide (O3.empty 146 w)
  have b0 := hide ((Below.refl w.heap.size w).alloc (Nat.le_refl _) (.cells #[] 146))
  clear hh hv hnd h6
  cases hord : ordersB ts os
  · have HORD := hide hord; clear hord
    have he := hide (edgesL_no HORD.out)
    go_enter Tryz.func195, Tryz.ntmps195
    go_wp2_with fail
    refine (spec_OrdersValid_c (hr.below b0.out) HH.out hsum hsm (ho.below b0.out) hno).mono ?_
    rintro e w2 ⟨rfl, b2⟩
    rw [HORD.out]
    go_wp2_with fail
    go_ret
    refine ⟨_, rfl, ?_, below_step b0.out b2⟩
    rw [he.out]; exact o0.out.below b2
  · have HORD := hide hord
    have hno3 : 3 ≤ no ∧ no ≤ 3 := by have h1 := (ordersB_parts hord).2.1; have h2 := ho.1; omega
    have he := hide (edgesL_yes HORD.out)
    have HL6 := hide (fun (key : Nat) (hk : key < 3) => ord_len HORD.out hk)
    clear hord
    go_enter Tryz.func195, Tryz.ntmps195
    go_wp2_with fail
    refine (spec_OrdersValid_c (hr.below b0.out) HH.out hsum hsm (ho.below b0.out) hno).mono ?_
    rintro e w2 ⟨rfl, b2⟩
    rw [HORD.out]
    have B2 := hide (below_step b0.out b2)
    have O2 := hide (o0.out.below b2)
    clear b2 b0 o0
    go_wp2_with fail
    go_loopw [5, 6] (fun q i W => ∃ (k : Nat) (L : List T3), i = .int .i64 k ∧ k ≤ 3 ∧ O3 146 W w.heap.size q L.length L ∧ (∀ e, e ∈ L ↔ SeenW ts os k 1 e) ∧ L.length ≤ 6 * k ∧ Below w.heap.size w W) (fun _ i _ => 3 - (intOf i).toNat)
    case atStart => exact ⟨0, [], rfl, Nat.zero_le _, O2.out, fun e => ⟨fun h => (by cases h), fun h => absurd h (SeenW.zero (Nat.le_refl _) e)⟩, Nat.zero_le _, B2.out⟩
    case round =>
      clear B2 O2
      obtain ⟨k, L, rfl, hk3, hol, hmem, hLl, bw⟩ := hrel
      rename World => wr
      have HO := hide hol; have BW := hide bw; have HM := hide hmem; clear bw hmem
      obtain ⟨Aq, cq, rfl⟩ := hol.shape
      clear hol
      by_cases hk : k < 3
      · have k2 : (k : Int) ≤ 2 := by omega
        have k4 : (k : Int) < no := by omega
        obtain ⟨bo, oo, xs, Bx, kx, dx, rfl, hbo, hxs, hco, hkd, hkm, hri⟩ := ho.at_ (show k < no by omega)
        have hgd : os.getD k [] = xs := by rw [List.getD_eq_getElem?_getD, hxs]; rfl
        have HGD := hide hgd; have HCO := hide hco
        have hlx := hide hri.len
        have hx6 : kx ≤ 6 := by have := HL6.out k hk; rw [hgd, hri.len] at this; exact this
        clear hxs hco hgd
        go_wp2_with fail
        go_loopw [5, 7] (fun q i W => ∃ (j : Nat) (L : List T3), i = .int .i64 j ∧ j ≤ kx ∧ O3 146 W w.heap.size q L.length L ∧ (∀ e, e ∈ L ↔ SeenW ts os k (j + 1) e) ∧ L.length ≤ 6 * k + j ∧ Below w.heap.size w W) (fun _ i _ => kx - (intOf i).toNat)
        case atStart => exact ⟨0, L, rfl, Nat.zero_le _, HO.out, HM.out, hLl, BW.out⟩
        case round =>
          clear HO BW HM hLl
          obtain ⟨j, L, rfl, hj, hol, hmem, hLl, bw⟩ := hrel
          rename World => w3
          have HO := hide hol; have BW := hide bw; have HM := hide hmem; clear hmem
          obtain ⟨Aq, cq, rfl⟩ := hol.shape
          have e0 := (bw.cell (p := ⟨bo, oo + k, none⟩) hbo).trans HCO.out
          clear hol bw
          have j6 : (j : Int) ≤ 6 := by omega
          by_cases hjk : j + 1 < kx
          · have j2 : (j : Int) + 1 < kx := by omega
            have j3 : (j : Int) < kx := by omega
            obtain ⟨bx, ox, x, rfl, hbx, hx, cx⟩ := hri.at_ (show j < kx by omega)
            obtain ⟨bx', ox', y, e', _, hy, cy⟩ := hri.at_ hjk
            injection e' with e'; injection e' with e1 e2; subst e1; subst e2
            have jw : IntKind.i64.wrap ((j : Int) + 1) = (j : Int) + 1 := by rw [IntKind.wrap_i64]; omega
            have jt : ((j : Int) + 1).toNat = j + 1 := by omega
            have jz : (0 : Int) ≤ (j : Int) + 1 := by omega
            have hput := hide (putW HORD.out hk (by rw [HGD.out]; exact hx) (by rw [HGD.out]; exact hy))
            have hstep := hide (fun e => SeenW.step (ts := ts) (os := os) (k := k) (i := j) (by rw [HGD.out]; exact hx) (by rw [HGD.out]; exact hy) e)
            have BZ : Below w.heap.size w w3.drew := BW.out.drew
            have hcl : ∀ W, Below w.heap.size w W → (W.cell? ⟨bo, oo + k, none⟩ = some (.slice (some ⟨bx, ox, none⟩) kx dx) ∧ W.cell? ⟨bx, ox + j, none⟩ = some (.int .i64 x) ∧ W.cell? ⟨bx, ox + (j + 1), none⟩ = some (.int .i64 y)) := fun W hW => ⟨(hW.cell (p := ⟨bo, oo + k, none⟩) hbo).trans HCO.out, (hW.cell (p := ⟨bx, ox + j, none⟩) hbx).trans cx, (hW.cell (p := ⟨bx, ox + (j + 1), none⟩) hbx).trans cy⟩
            have HC := hide hcl
            clear hx hy cx cy hcl
            go_upto_region 10 with fail
            clear e0
            refine wp_region_held_drew (S := (fun W => W.cell? ⟨bo, oo + k, none⟩ = some (.slice (some ⟨bx, ox, none⟩) kx dx) ∧ W.cell? ⟨bx, ox + j, none⟩ = some (.int .i64 x) ∧ W.cell? ⟨bx, ox + (j + 1), none⟩ = some (.int .i64 y))) (by kernel_rfl) ?_ (fun hHeld => ?_)
            · exact HC.out _ BZ
            refine wpAnyH_take (i := 0) (v := ?vv1_0) (by rw [List.getElem?_toArray]; exact rfl) (by kernel_rfl) (by kernel_rfl) (by kernel_rfl) (by intro _ _ _ h; exact h) (Or.inl ⟨by rfl, ?hy1_0⟩) hHeld ?rest1_0
            case' hy1_0 => (intro w hSw; (try dsimp only at hSw); go_simp; try (with_reducible rfl))
            (try simp only [Act.put, List.setIfInBounds_toArray, List.set_cons_zero, List.set_cons_succ])
            refine wpAnyH_take (i := 1) (v := ?vv1_1) (by rw [List.getElem?_toArray]; exact rfl) (by kernel_rfl) (by kernel_rfl) (by kernel_rfl) (by intro _ _ _ h; exact h) (Or.inl ⟨by rfl, ?hy1_1⟩) hHeld ?rest1_1
            case' hy1_1 => (intro w hSw; (try dsimp only at hSw); go_simp; try (with_reducible rfl))
            (try simp only [Act.put, List.setIfInBounds_toArray, List.set_cons_zero, List.set_cons_succ])
            refine wpAnyH_take (i := 2) (v := ?vv1_2) (by rw [List.getElem?_toArray]; exact rfl) (by kernel_rfl) (by kernel_rfl) (by kernel_rfl) (by intro _ _ _ h; exact h) (Or.inl ⟨by rfl, ?hy1_2⟩) hHeld ?rest1_2
            case' hy1_2 => (intro w hSw; (try dsimp only at hSw); go_simp; try (with_reducible rfl))
            (try simp only [Act.put, List.setIfInBounds_toArray, List.set_cons_zero, List.set_cons_succ])
            refine wpAnyH_take (i := 3) (v := ?vv1_3) (by rw [List.getElem?_toArray]; exact rfl) (by kernel_rfl) (by kernel_rfl) (by kernel_rfl) (by intro _ _ _ h; exact h) (Or.inl ⟨by rfl, ?hy1_3⟩) hHeld ?rest1_3
            case' hy1_3 => (intro w hSw; (try dsimp only at hSw); go_simp; try (with_reducible rfl))
            (try simp only [Act.put, List.setIfInBounds_toArray, List.set_cons_zero, List.set_cons_succ])
            refine wpAnyH_take (i := 4) (v := ?vv1_4) (by rw [List.getElem?_toArray]; exact rfl) (by kernel_rfl) (by kernel_rfl) (by kernel_rfl) (by intro _ _ _ h; exact h) (Or.inl ⟨by rfl, ?hy1_4⟩) hHeld ?rest1_4
            case' hy1_4 => (intro w hSw; (try dsimp only at hSw); go_simp; try (with_reducible rfl))
            (try simp only [Act.put, List.setIfInBounds_toArray, List.set_cons_zero, List.set_cons_succ])
            refine wpAnyH_take (i := 5) (v := ?vv1_5) (by rw [List.getElem?_toArray]; exact rfl) (by kernel_rfl) (by kernel_rfl) (by kernel_rfl) (by intro _ _ _ h; exact h) (Or.inl ⟨by rfl, ?hy1_5⟩) hHeld ?rest1_5
            case' hy1_5 => (intro w hSw; (try dsimp only at hSw); go_simp; try (with_reducible rfl))
            (try simp only [Act.put, List.setIfInBounds_toArray, List.set_cons_zero, List.set_cons_succ])
            refine wpAnyH_take (i := 6) (v := ?vv1_6) (by rw [List.getElem?_toArray]; exact rfl) (by kernel_rfl) (by kernel_rfl) (by kernel_rfl) (by intro _ _ _ h; exact h) (Or.inl ⟨by rfl, ?hy1_6⟩) hHeld ?rest1_6
            case' hy1_6 => (intro w hSw; (try dsimp only at hSw); go_simp; try (with_reducible rfl))
            (try simp only [Act.put, List.setIfInBounds_toArray, List.set_cons_zero, List.set_cons_succ])
            refine wpAnyH_take (i := 7) (v := ?vv1_7) (by rw [List.getElem?_toArray]; exact rfl) (by kernel_rfl) (by kernel_rfl) (by kernel_rfl) (by intro _ _ _ h; exact h) (Or.inl ⟨by rfl, ?hy1_7⟩) hHeld ?rest1_7
            case' hy1_7 => (intro w hSw; (try dsimp only at hSw); go_simp; try (with_reducible rfl))
            (try simp only [Act.put, List.setIfInBounds_toArray, List.set_cons_zero, List.set_cons_succ])
            refine wpAnyH_take (i := 8) (v := ?vv1_8) (by rw [List.getElem?_toArray]; exact rfl) (by kernel_rfl) (by kernel_rfl) (by kernel_rfl) (by intro _ _ _ h; exact h) (Or.inl ⟨by rfl, ?hy1_8⟩) hHeld ?rest1_8
            case' hy1_8 => (intro w hSw; (try dsimp only at hSw); go_simp; try (with_reducible rfl))
            (try simp only [Act.put, List.setIfInBounds_toArray, List.set_cons_zero, List.set_cons_succ])
            refine wpAnyH_take (i := 9) (v := ?vv1_9) (by rw [List.getElem?_toArray]; exact rfl) (by kernel_rfl) (by kernel_rfl) (by kernel_rfl) (by intro _ _ _ h; exact h) (Or.inl ⟨by rfl, ?hy1_9⟩) hHeld ?rest1_9
            case' hy1_9 => (intro w hSw; (try dsimp only at hSw); go_simp; try (with_reducible rfl))
            (try simp only [Act.put, List.setIfInBounds_toArray, List.set_cons_zero, List.set_cons_succ])
            refine wpAnyH_take (i := 11) (v := ?vv1_11) (by rw [List.getElem?_toArray]; exact rfl) (by kernel_rfl) (by kernel_rfl) (by kernel_rfl) (by intro _ _ _ h; exact h) (Or.inl ⟨by rfl, ?hy1_11⟩) hHeld ?rest1_11
            case' hy1_11 => (intro w hSw; (try dsimp only at hSw); go_simp; try (with_reducible rfl))
            (try simp only [Act.put, List.setIfInBounds_toArray, List.set_cons_zero, List.set_cons_succ])
            refine wpAnyH_take (i := 12) (v := ?vv1_12) (by rw [List.getElem?_toArray]; exact rfl) (by kernel_rfl) (by kernel_rfl) (by kernel_rfl) (by intro _ _ _ h; exact h) (Or.inl ⟨by rfl, ?hy1_12⟩) hHeld ?rest1_12
            case' hy1_12 => (intro w hSw; (try dsimp only at hSw); go_simp; try (with_reducible rfl))
            (try simp only [Act.put, List.setIfInBounds_toArray, List.set_cons_zero, List.set_cons_succ])
            refine wpAnyH_take (i := 13) (v := ?vv1_13) (by rw [List.getElem?_toArray]; exact rfl) (by kernel_rfl) (by kernel_rfl) (by kernel_rfl) (by intro _ _ _ h; exact h) (Or.inl ⟨by rfl, ?hy1_13⟩) hHeld ?rest1_13
            case' hy1_13 => (intro w hSw; (try dsimp only at hSw); go_simp; try (with_reducible rfl))
            (try simp only [Act.put, List.setIfInBounds_toArray, List.set_cons_zero, List.set_cons_succ])
            refine wpAnyH_take (i := 14) (v := ?vv1_14) (by rw [List.getElem?_toArray]; exact rfl) (by kernel_rfl) (by kernel_rfl) (by kernel_rfl) (by intro _ _ _ h; exact h) (Or.inl ⟨by rfl, ?hy1_14⟩) hHeld ?rest1_14
            case' hy1_14 => (intro w hSw; (try dsimp only at hSw); go_simp; try (with_reducible rfl))
            (try simp only [Act.put, List.setIfInBounds_toArray, List.set_cons_zero, List.set_cons_succ])
            refine wpAnyH_take (i := 15) (v := ?vv1_15) (by rw [List.getElem?_toArray]; exact rfl) (by kernel_rfl) (by kernel_rfl) (by kernel_rfl) (by intro _ _ _ h; exact h) (Or.inl ⟨by rfl, ?hy1_15⟩) hHeld ?rest1_15
            case' hy1_15 => (intro w hSw; (try dsimp only at hSw); go_simp; try (with_reducible rfl))
            (try simp only [Act.put, List.setIfInBounds_toArray, List.set_cons_zero, List.set_cons_succ])
            refine wpAnyH_take (i := 16) (v := ?vv1_16) (by rw [List.getElem?_toArray]; exact rfl) (by kernel_rfl) (by kernel_rfl) (by kernel_rfl) (by intro _ _ _ h; exact h) (Or.inl ⟨by rfl, ?hy1_16⟩) hHeld ?rest1_16
            case' hy1_16 => (intro w hSw; (try dsimp only at hSw); go_simp; try (with_reducible rfl))
            (try simp only [Act.put, List.setIfInBounds_toArray, List.set_cons_zero, List.set_cons_succ])
            refine wpAnyH_take (i := 17) (v := ?vv1_17) (by rw [List.getElem?_toArray]; exact rfl) (by kernel_rfl) (by kernel_rfl) (by kernel_rfl) (by intro _ _ _ h; exact h) (Or.inl ⟨by rfl, ?hy1_17⟩) hHeld ?rest1_17
            case' hy1_17 => (intro w hSw; (try dsimp only at hSw); go_simp; try (with_reducible rfl))
            (try simp only [Act.put, List.setIfInBounds_toArray, List.set_cons_zero, List.set_cons_succ])
            refine wpAnyH_take (i := 18) (v := ?vv1_18) (by rw [List.getElem?_toArray]; exact rfl) (by kernel_rfl) (by kernel_rfl) (by kernel_rfl) (by intro _ _ _ h; exact h) (Or.inl ⟨by rfl, ?hy1_18⟩) hHeld ?rest1_18
            case' hy1_18 => (intro w hSw; (try dsimp only at hSw); go_simp; try (with_reducible rfl))
            (try simp only [Act.put, List.setIfInBounds_toArray, List.set_cons_zero, List.set_cons_succ])
            refine wpAnyH_take (i := 19) (v := ?vv1_19) (by rw [List.getElem?_toArray]; exact rfl) (by kernel_rfl) (by kernel_rfl) (by kernel_rfl) (by intro _ _ _ h; exact h) (Or.inl ⟨by rfl, ?hy1_19⟩) hHeld ?rest1_19
            case' hy1_19 => (intro w hSw; (try dsimp only at hSw); go_simp; try (with_reducible rfl))
            (try simp only [Act.put, List.setIfInBounds_toArray, List.set_cons_zero, List.set_cons_succ])
            refine wpAnyH_take (i := 20) (v := ?vv1_20) (by rw [List.getElem?_toArray]; exact rfl) (by kernel_rfl) (by kernel_rfl) (by kernel_rfl) (by intro _ _ _ h; exact h) (Or.inl ⟨by rfl, ?hy1_20⟩) hHeld ?rest1_20
            case' hy1_20 => (intro w hSw; (try dsimp only at hSw); go_simp; try (with_reducible rfl))
            (try simp only [Act.put, List.setIfInBounds_toArray, List.set_cons_zero, List.set_cons_succ])
            refine wpAnyH_ready (rs := [10]) (by kernel_rfl) (by simp) ?_
            refine AllReadyH.cons (by rw [List.getElem?_toArray]; exact rfl) (fun K hK => ?_) AllReadyH.nil
            go_simp
            go_at_call 168
            refine (l5Writer_c (hr.below BZ) HH.out).mono ?_
            rintro e w5 ⟨rfl, b5⟩
            replace BZ := below_step BZ b5
            have o5 := HO.out.drew.below b5
            clear b5
            refine hK.out _ _ ?_ (fun hHeld => ?_)
            · exact HC.out _ BZ
            clear hK K
            (try simp only [Act.put, List.setIfInBounds_toArray, List.set_cons_zero, List.set_cons_succ])
            refine wpAnyH_ready (rs := [21]) (by kernel_rfl) (by simp) ?_
            refine AllReadyH.cons (by rw [List.getElem?_toArray]; exact rfl) (fun K hK => ?_) AllReadyH.nil
            go_simp
            go_at_call 168
            refine (l5Writer_c (hr.below BZ) HH.out).mono ?_
            rintro e w6 ⟨rfl, b6⟩
            replace BZ := below_step BZ b6
            have o6 := hide (o5.below b6)
            clear b6 o5
            refine hK.out _ _ ?_ (fun hHeld => ?_)
            · exact HC.out _ BZ
            clear hK K
            (try simp only [Act.put, List.setIfInBounds_toArray, List.set_cons_zero, List.set_cons_succ])
            refine wpAnyH_take (i := 22) (v := ?vv1_22) (by rw [List.getElem?_toArray]; exact rfl) (by kernel_rfl) (by kernel_rfl) (by kernel_rfl) (by intro _ _ _ h; exact h) (Or.inl ⟨by rfl, ?hy1_22⟩) hHeld ?rest1_22
            case' hy1_22 => (intro w hSw; (try dsimp only at hSw); go_simp; try (with_reducible rfl))
            (try simp only [Act.put, List.setIfInBounds_toArray, List.set_cons_zero, List.set_cons_succ])
            refine wpAnyH_ready (rs := [23]) (by kernel_rfl) (by simp) ?_
            refine AllReadyH.cons (by rw [List.getElem?_toArray]; exact rfl) (fun K hK => ?_) AllReadyH.nil
            go_simp
            have K7 := hide (Blk.new w6 146 #[.int .i64 (writerV ts (k : Int) x), .int .i64 (writerV ts (k : Int) y), .int .i64 1])
            have o7 := hide (o6.out.alloc (.cells #[.int .i64 (writerV ts (k : Int) x), .int .i64 (writerV ts (k : Int) y), .int .i64 1] 146))
            replace BZ := BZ.alloc BZ.size (.cells #[.int .i64 (writerV ts (k : Int) x), .int .i64 (writerV ts (k : Int) y), .int .i64 1] 146)
            refine hK.out _ _ ?_ (fun hHeld => ?_)
            · exact HC.out _ BZ
            clear hK K
            (try simp only [Act.put, List.setIfInBounds_toArray, List.set_cons_zero, List.set_cons_succ])
            refine wpAnyH_ready (rs := [24]) (by kernel_rfl) (by simp) ?_
            refine AllReadyH.cons (by rw [List.getElem?_toArray]; exact rfl) (fun K hK => ?_) AllReadyH.nil
            obtain ⟨v8, w8, hrun, o8, g8⟩ := runE 97 o7.out K7.out (by omega) BZ.size
            have B8 := below_app3 BZ o7.out (Nat.le_refl _) g8
            clear BZ
            have BZ := B8
            clear B8
            refine wp_append_stepO rfl _ _ rfl rfl rfl hrun ?_
            clear hrun
            refine hK.out _ _ ?_ (fun hHeld => ?_)
            · exact HC.out _ BZ
            clear hK K
            (try simp only [Act.put, List.setIfInBounds_toArray, List.set_cons_zero, List.set_cons_succ])
            refine wpAnyH_take (i := 25) (v := ?vv1_25) (by rw [List.getElem?_toArray]; exact rfl) (by kernel_rfl) (by kernel_rfl) (by kernel_rfl) (by intro _ _ _ h; exact h) (Or.inl ⟨by rfl, ?hy1_25⟩) hHeld ?rest1_25
            case' hy1_25 => (intro w hSw; (try dsimp only at hSw); go_simp; try (with_reducible rfl))
            (try simp only [Act.put, List.setIfInBounds_toArray, List.set_cons_zero, List.set_cons_succ])
            refine wpAnyH_done (by kernel_rfl) ?_ _
            go_wp2_with fail
            go_roundw
            case rel =>
              refine ⟨j + 1, _, by go_num, by omega, by rw [List.length_append]; exact o8, fun e => ?_, by rw [List.length_append]; simp; omega, BZ⟩
              rw [List.mem_append, HM.out e, hstep.out e]
              simp only [List.mem_singleton]
              exact or_congr Iff.rfl ⟨fun h => ⟨h, by rw [h]; exact hput.out⟩, fun h => h.1⟩
            case measure => simp [intOf]; omega
          · have j2 : ¬ (j : Int) + 1 < kx := by omega
            have hnx := hide (fun e => SeenW.next (ts := ts) (os := os) (k := k) (i := j + 1) (by rw [HGD.out, hlx.out]; omega) e)
            go_wp2_with fail
            go_roundw
            case rel => exact ⟨k + 1, L, by go_num, by omega, HO.out, fun e => by rw [HM.out e, hnx.out e], by omega, BW.out⟩
            case measure => simp [intOf]; omega
      · have k2 : ¬ (k : Int) ≤ 2 := by omega
        have hk33 : k = 3 := by omega
        have hst := hide (show ∀ e, e ∈ L ↔ (SeenW ts os 3 0 e ∨ SeeR ts os 0 0 e) from fun e => by
          rw [HM.out e, hk33]
          constructor
          · rintro ⟨key, i, v, v', h, h1, h2, h3⟩
            have hk9 : key < 3 := by
              by_cases hk9 : key < 3
              · exact hk9
              · have : os.getD key [] = [] := by rw [List.getD_eq_getElem?_getD, List.getElem?_eq_none (by have := ho.1; omega)]; rfl
                rw [this] at h1; simp at h1
            exact .inl ⟨key, i, v, v', .inl hk9, h1, h2, h3⟩
          · rintro (⟨key, i, v, v', h, h1⟩ | h)
            · exact ⟨key, i, v, v', by omega, h1⟩
            · exact absurd h (SeeR.zero e))
        have hL18 : L.length ≤ 18 := by omega
        clear HM hLl
        go_wp2_with fail
        go_loopw [5, 8] (fun q i W => ∃ (k : Nat) (L : List T3), i = .int .i64 k ∧ k ≤ n ∧ O3 146 W w.heap.size q L.length L ∧ (∀ e, e ∈ L ↔ (SeenW ts os 3 0 e ∨ SeeR ts os k 0 e)) ∧ L.length ≤ 18 + 12 * k ∧ Below w.heap.size w W) (fun _ i _ => n - (intOf i).toNat)
        case atStart => exact ⟨0, L, rfl, Nat.zero_le _, HO.out, hst.out, by omega, BW.out⟩
        case round =>
          clear HO BW hst hL18 hk k2 hk33 hk3
          obtain ⟨k, L, rfl, hkn0, hol, hmem, hLl, bw⟩ := hrel
          rename World => w2
          have HO := hide hol; have BW := hide bw; have HM := hide hmem; clear bw hmem
          obtain ⟨Aq, cq, rfl⟩ := hol.shape
          clear hol
          by_cases hkn : k < n
          · obtain ⟨b, off, f, ys, dn, B, kk, d, rfl, hbb, hx, q0, q1, q2, hkd, hdm, hri⟩ := hr.at_ hkn
            have hyl := hide hri.len
            have hv1 := HV.out _ (List.mem_of_getElem? hx)
            have hk6 : kk ≤ 6 := by rw [← hyl.out]; exact txnB_lenH hv1
            have HX := hide hx; have Q2 := hide q2; have HV1 := hide hv1
            have e0 := (BW.out.cell (p := ⟨b, off + k * 3, none⟩) hbb).trans q0
            have e1 := (BW.out.cell (p := ⟨b, off + k * 3 + 1, none⟩) hbb).trans q1
            have e2 := (BW.out.cell (p := ⟨b, off + k * 3 + 2, none⟩) hbb).trans q2
            have k2 : (k : Int) < n := by omega
            have s3 : S3 w2 (.slice B kk d) kk ys := (S3.of_args hkd (by omega) hri).below BW.out
            clear q0 q1 q2 hx hv1
            go_wp2_with fail
            refine (spec_FirstReads_c s3 HV1.out).mono ?_
            rintro e w3 ⟨r3, m3, rfl, o3, b3⟩
            have B3 := hide (below_step BW.out b3)
            have hlen3 := hide o3.len
            have hm3 : m3 ≤ 6 := by rw [← o3.len]; unfold firstR; exact Nat.le_trans (firstTo_len ys ys.length) (by rw [hyl.out]; omega)
            have O3' := hide (HO.out.below b3)
            have OR3 := hide (o3.mono (B' := w.heap.size) BW.out.size)
            obtain ⟨A3, c3, rfl⟩ := o3.shape
            clear b3 o3 e0 e1 e2 s3 BW HO
            go_wp2_with fail
            go_loopw [5, 10] (fun q i W => ∃ (j : Nat) (L : List T3), i = .int .i64 j ∧ j ≤ m3 ∧ (j = 0 ∨ dn = true) ∧ O3 146 W w.heap.size q L.length L ∧ (∀ e, e ∈ L ↔ (SeenW ts os 3 0 e ∨ SeeR ts os k j e)) ∧ L.length ≤ 18 + 12 * k + 2 * j ∧ O3 61 W w.heap.size (.slice A3 m3 c3) m3 (firstR ys) ∧ Below w.heap.size w W) (fun _ i _ => m3 - (intOf i).toNat)
            case atStart => exact ⟨0, L, rfl, Nat.zero_le _, .inl rfl, O3'.out, HM.out, by omega, OR3.out, B3.out⟩
            case round =>
              clear B3 O3' OR3 HM hLl
              obtain ⟨j, L, rfl, hj, hjd, hol, hmem, hLl, hor, bw⟩ := hrel
              rename World => w4
              have HO := hide hol; have BW := hide bw; have HM := hide hmem; have HOR := hide hor
              have g2 := (bw.cell (p := ⟨b, off + k * 3 + 2, none⟩) hbb).trans Q2.out
              obtain ⟨Aq, cq, rfl⟩ := hol.shape
              clear hmem hol bw
              by_cases hjm : j < m3
              · have j2 : (j : Int) < m3 := by omega
                cases dn
                · have hj0 : j = 0 := by rcases hjd with h | h; exact h; cases h
                  have hsk := hide (fun e => SeeR.skip (os := os) HX.out rfl e)
                  clear hor
                  go_wp2_with fail
                  go_roundw
                  case rel => exact ⟨k + 1, L, by go_num, by omega, HO.out, fun e => by rw [HM.out e, hsk.out e, hj0], by omega, BW.out⟩
                  case measure => simp [intOf]; omega
                · obtain ⟨A9, c9, e9, _, _, hr9⟩ := hor.s3
                  injection e9 with e9 _ e10
                  subst e9; subst e10
                  obtain ⟨b2, off2, x, y, z, rfl, hbb2, hx2, p0, p1, p2⟩ := hr9.at_ hjm
                  have HX2 := hide hx2
                  obtain ⟨i0, hi0, hx1, _⟩ := mem_firstR.1 (List.mem_of_getElem? hx2)
                  have hop := txnB_opH HV1.out hi0
                  have hkey := opB_key hop
                  dsimp only at hx1
                  obtain ⟨key, rfl⟩ : ∃ q : Nat, y = q := ⟨y.toNat, by omega⟩
                  have hk3 : key < 3 := by omega
                  obtain ⟨bo, oo, xs, Bx, kx, dx, rfl, hbo, hxs, hco, hkd2, hkm2, hri2⟩ := ho.at_ (show key < no by omega)
                  have hgd : os.getD key [] = xs := by rw [List.getD_eq_getElem?_getD, hxs]; rfl
                  have HGD := hide hgd; have HCO := hide hco
                  have s1 := hide (SI.of_args hkd2 (by omega) hri2)
                  have hputR := seeR_put (_os := os) (n := k) (_j := j) (key := key) (x := x) (z := z) HX.out rfl L HM.out
                  have HPR := hide hputR
                  have BY : Below w4.heap.size w4 w4.drew := (Below.refl _ _).drew
                  have hcl : ∀ W, Below w4.heap.size w4 W → (W.cell? ⟨b2, off2 + j * 3 + 1, none⟩ = some (.int .i64 (key : Int)) ∧ W.cell? ⟨b2, off2 + j * 3 + 2, none⟩ = some (.int .i64 z)) := fun W hW => ⟨(hW.cell (p := ⟨b2, off2 + j * 3 + 1, none⟩) hbb2).trans p1, (hW.cell (p := ⟨b2, off2 + j * 3 + 2, none⟩) hbb2).trans p2⟩
                  have HC := hide hcl
                  clear hx2 p0 p1 p2 hcl hi0 hop hkey hputR hgd hxs hco hri2 hor hr9
                  go_upto_region 18 with fail
                  refine wp_region_held_drew (S := (fun W => W.cell? ⟨b2, off2 + j * 3 + 1, none⟩ = some (.int .i64 (key : Int)) ∧ W.cell? ⟨b2, off2 + j * 3 + 2, none⟩ = some (.int .i64 z))) (by kernel_rfl) ?_ (fun hHeld => ?_)
                  · exact HC.out _ BY
                  refine wpAnyH_take (i := 0) (v := ?vv2_0) (by rw [List.getElem?_toArray]; exact rfl) (by kernel_rfl) (by kernel_rfl) (by kernel_rfl) (by intro _ _ _ h; exact h) (Or.inl ⟨by rfl, ?hy2_0⟩) hHeld ?rest2_0
                  case' hy2_0 => (intro w hSw; (try dsimp only at hSw); go_simp; try (with_reducible rfl))
                  (try simp only [Act.put, List.setIfInBounds_toArray, List.set_cons_zero, List.set_cons_succ])
                  refine wpAnyH_take (i := 1) (v := ?vv2_1) (by rw [List.getElem?_toArray]; exact rfl) (by kernel_rfl) (by kernel_rfl) (by kernel_rfl) (by intro _ _ _ h; exact h) (Or.inl ⟨by rfl, ?hy2_1⟩) hHeld ?rest2_1
                  case' hy2_1 => (intro w hSw; (try dsimp only at hSw); go_simp; try (with_reducible rfl))
                  (try simp only [Act.put, List.setIfInBounds_toArray, List.set_cons_zero, List.set_cons_succ])
                  refine wpAnyH_take (i := 2) (v := ?vv2_2) (by rw [List.getElem?_toArray]; exact rfl) (by kernel_rfl) (by kernel_rfl) (by kernel_rfl) (by intro _ _ _ h; exact h) (Or.inl ⟨by rfl, ?hy2_2⟩) hHeld ?rest2_2
                  case' hy2_2 => (intro w hSw; (try dsimp only at hSw); go_simp; try (with_reducible rfl))
                  (try simp only [Act.put, List.setIfInBounds_toArray, List.set_cons_zero, List.set_cons_succ])
                  refine wpAnyH_take (i := 3) (v := ?vv2_3) (by rw [List.getElem?_toArray]; exact rfl) (by kernel_rfl) (by kernel_rfl) (by kernel_rfl) (by intro _ _ _ h; exact h) (Or.inl ⟨by rfl, ?hy2_3⟩) hHeld ?rest2_3
                  case' hy2_3 => (intro w hSw; (try dsimp only at hSw); go_simp; try (with_reducible rfl))
                  (try simp only [Act.put, List.setIfInBounds_toArray, List.set_cons_zero, List.set_cons_succ])
                  refine wpAnyH_take (i := 4) (v := ?vv2_4) (by rw [List.getElem?_toArray]; exact rfl) (by kernel_rfl) (by kernel_rfl) (by kernel_rfl) (by intro _ _ _ h; exact h) (Or.inl ⟨by rfl, ?hy2_4⟩) hHeld ?rest2_4
                  case' hy2_4 => (intro w hSw; (try dsimp only at hSw); go_simp; try (with_reducible rfl))
                  (try simp only [Act.put, List.setIfInBounds_toArray, List.set_cons_zero, List.set_cons_succ])
                  refine wpAnyH_take (i := 5) (v := ?vv2_5) (by rw [List.getElem?_toArray]; exact rfl) (by kernel_rfl) (by kernel_rfl) (by kernel_rfl) (by intro _ _ _ h; exact h) (Or.inl ⟨by rfl, ?hy2_5⟩) hHeld ?rest2_5
                  case' hy2_5 => (intro w hSw; (try dsimp only at hSw); go_simp; try (with_reducible rfl))
                  (try simp only [Act.put, List.setIfInBounds_toArray, List.set_cons_zero, List.set_cons_succ])
                  refine wpAnyH_take (i := 6) (v := ?vv2_6) (by rw [List.getElem?_toArray]; exact rfl) (by kernel_rfl) (by kernel_rfl) (by kernel_rfl) (by intro _ _ _ h; exact h) (Or.inl ⟨by rfl, ?hy2_6⟩) hHeld ?rest2_6
                  case' hy2_6 => (intro w hSw; (try dsimp only at hSw); go_simp; try (with_reducible rfl))
                  (try simp only [Act.put, List.setIfInBounds_toArray, List.set_cons_zero, List.set_cons_succ])
                  refine wpAnyH_take (i := 7) (v := ?vv2_7) (by rw [List.getElem?_toArray]; exact rfl) (by kernel_rfl) (by kernel_rfl) (by kernel_rfl) (by intro _ _ _ h; exact h) (Or.inl ⟨by rfl, ?hy2_7⟩) hHeld ?rest2_7
                  case' hy2_7 => (intro w hSw; (try dsimp only at hSw); go_simp; try (with_reducible rfl))
                  (try simp only [Act.put, List.setIfInBounds_toArray, List.set_cons_zero, List.set_cons_succ])
                  refine wpAnyH_take (i := 8) (v := ?vv2_8) (by rw [List.getElem?_toArray]; exact rfl) (by kernel_rfl) (by kernel_rfl) (by kernel_rfl) (by intro _ _ _ h; exact h) (Or.inl ⟨by rfl, ?hy2_8⟩) hHeld ?rest2_8
                  case' hy2_8 => (intro w hSw; (try dsimp only at hSw); go_simp; try (with_reducible rfl))
                  (try simp only [Act.put, List.setIfInBounds_toArray, List.set_cons_zero, List.set_cons_succ])
                  refine wpAnyH_take (i := 9) (v := ?vv2_9) (by rw [List.getElem?_toArray]; exact rfl) (by kernel_rfl) (by kernel_rfl) (by kernel_rfl) (by intro _ _ _ h; exact h) (Or.inl ⟨by rfl, ?hy2_9⟩) hHeld ?rest2_9
                  case' hy2_9 => (intro w hSw; (try dsimp only at hSw); go_simp; try (with_reducible rfl))
                  (try simp only [Act.put, List.setIfInBounds_toArray, List.set_cons_zero, List.set_cons_succ])
                  refine wpAnyH_take (i := 10) (v := ?vv2_10) (by rw [List.getElem?_toArray]; exact rfl) (by kernel_rfl) (by kernel_rfl) (by kernel_rfl) (by intro _ _ _ h; exact h) (Or.inl ⟨by rfl, ?hy2_10⟩) hHeld ?rest2_10
                  case' hy2_10 => (intro w hSw; (try dsimp only at hSw); go_simp; try (with_reducible rfl))
                  (try simp only [Act.put, List.setIfInBounds_toArray, List.set_cons_zero, List.set_cons_succ])
                  refine wpAnyH_ready (rs := [11]) (by kernel_rfl) (by simp) ?_
                  refine AllReadyH.cons (by rw [List.getElem?_toArray]; exact rfl) (fun K hK => ?_) AllReadyH.nil
                  go_simp
                  go_at_call 168
                  refine (l5Writer_c (hr.below (BW.out.trans (BY.mono BW.out.size))) HH.out).mono ?_
                  rintro e w5 ⟨rfl, b5⟩
                  replace BY := below_step BY b5
                  clear b5
                  refine hK.out _ _ ?_ (fun hHeld => ?_)
                  · exact HC.out _ BY
                  clear hK K
                  (try simp only [Act.put, List.setIfInBounds_toArray, List.set_cons_zero, List.set_cons_succ])
                  refine wpAnyH_take (i := 12) (v := ?vv2_12) (by rw [List.getElem?_toArray]; exact rfl) (by kernel_rfl) (by kernel_rfl) (by kernel_rfl) (by intro _ _ _ h; exact h) (Or.inl ⟨by rfl, ?hy2_12⟩) hHeld ?rest2_12
                  case' hy2_12 => (intro w hSw; (try dsimp only at hSw); go_simp; try (with_reducible rfl))
                  (try simp only [Act.put, List.setIfInBounds_toArray, List.set_cons_zero, List.set_cons_succ])
                  refine wpAnyH_done (by kernel_rfl) ?_ _
                  have B5 := hide (below_step BW.out BY)
                  have O5 := hide (HO.out.below BY)
                  have R5 := hide (HOR.out.below BY)
                  clear BY HC HO HOR BW g2
                  go_upto_region 19 with fail
                  go_cut [107] (fun s wx => s = .bool (putR ts k key z) ∧ wx = w5)
                  case first =>
                    by_cases h0 : 0 ≤ writerV ts key z
                    · have hlt := (writerV_lt ts key z).2
                      have hm := hide (show ((writerV ts key z).toNat : Int) = writerV ts key z by omega)
                      have hmn : (writerV ts key z).toNat < n := by have := hl.out; omega
                      obtain ⟨b9, off9, f9, ys9, dn9, B9, kk9, d9, e9, hb9, hx9, _, _, q29, _⟩ := hr.at_ hmn
                      injection e9 with e9; injection e9 with e91 e92; subst e91; subst e92
                      have g29 := (B5.out.cell (p := ⟨b, off + (writerV ts key z).toNat * 3 + 2, none⟩) hbb).trans q29
                      have hput : putR ts k key z = (dn9 && decide (writerV ts key z ≠ (k : Int))) := by
                        unfold putR
                        rw [decide_eq_true h0, txAt_get hx9]; rfl
                      have HPUT := hide hput
                      generalize hgw : writerV ts key z = wv at *
                      obtain ⟨wn, rfl⟩ : ∃ q : Nat, wv = q := ⟨wv.toNat, by omega⟩
                      rw [Int.toNat_natCast] at g29 hmn
                      have w2' : (wn : Int) < n := by omega
                      have w0' : (0 : Int) ≤ wn := by omega
                      clear hput hlt hm q29 hx9 h0
                      cases dn9
                      · go_wp2_with fail
                        go_meet
                        case rel => exact ⟨by rw [HPUT.out]; rfl, rfl⟩
                      · by_cases hne : wn = k
                        · have hnb : ((wn : Int) != (k : Int)) = false := by simp; omega
                          have hd : decide ((wn : Int) ≠ (k : Int)) = false := decide_eq_false (fun h => h (by rw [hne]))
                          clear hne
                          go_wp2_with fail
                          go_meet
                          case rel => exact ⟨by rw [HPUT.out, hd]; rfl, rfl⟩
                        · have hnb : ((wn : Int) != (k : Int)) = true := by simp; omega
                          have hd : decide ((wn : Int) ≠ (k : Int)) = true := decide_eq_true (fun h => hne (by omega))
                          clear hne
                          go_wp2_with fail
                          go_meet
                          case rel => exact ⟨by rw [HPUT.out, hd]; rfl, rfl⟩
                    · have hput : putR ts k key z = false := by unfold putR; rw [decide_eq_false h0]; rfl
                      have HPUT := hide hput
                      clear hput
                      go_wp2_with fail
                      go_meet
                      case rel => exact ⟨by rw [HPUT.out], rfl⟩
                  case rest =>
                    obtain ⟨rfl, rfl⟩ := hcut
                    go_upto_if 107 with fail
                    go_cut [5] (fun q wx => ∃ L' : List T3, O3 146 wx w.heap.size q L'.length L' ∧ (∀ e, e ∈ L' ↔ ((SeenW ts os 3 0 e ∨ SeeR ts os k j e) ∨ EdR ts k (x, (key : Int), z) e)) ∧ L'.length ≤ 18 + 12 * k + 2 * j + 1 ∧ O3 61 wx w.heap.size (.slice (some ⟨b2, off2, none⟩) m3 c3) m3 (firstR ys) ∧ Below w.heap.size w wx)
                    case first =>
                      cases hp : putR ts k key z
                      · have hp2 := hide (HPR.out.2 hp)
                        clear hp
                        go_wp2_with fail
                        go_meet
                        case rel => exact ⟨L, O5.out, hp2.out, by omega, R5.out, B5.out⟩
                      · have hp2 := hide (HPR.out.1 hp)
                        have KN := Blk.new wc 146 #[.int .i64 (writerV ts (key : Int) z), .int .i64 (k : Int), .int .i64 2]
                        have o4 := O5.out.alloc (.cells #[.int .i64 (writerV ts (key : Int) z), .int .i64 (k : Int), .int .i64 2] 146)
                        have r4 := R5.out.alloc (.cells #[.int .i64 (writerV ts (key : Int) z), .int .i64 (k : Int), .int .i64 2] 146)
                        have B4 := B5.out.alloc B5.out.size (.cells #[.int .i64 (writerV ts (key : Int) z), .int .i64 (k : Int), .int .i64 2] 146)
                        have hz4 : w.heap.size ≤ (wc.alloc (.cells #[.int .i64 (writerV ts (key : Int) z), .int .i64 (k : Int), .int .i64 2] 146)).heap.size := by rw [World.size_alloc]; have := B5.out.size; omega
                        have hln : L.length + 1 ≤ 1048576 := by omega
                        have hne4 := own_ne2 r4.1 o4.1 (by decide)
                        clear hp
                        go_wp2_with (at_builtin; refine wpList_app3 rfl _ _ rfl Tryz.underlying97 infoEz rfl o4 rfl (S3.one KN (Nat.le_refl _)) hln hz4 ?_; intro v9 w9 h9 hg9 hat9; have B9 := below_app3 B4 o4 (Nat.le_refl _) hg9; have r9 := r4.grown hg9 hne4)
                        go_meet
                        case rel => exact ⟨_, by rw [List.length_append]; exact h9, hp2.out, by rw [List.length_append]; simp; omega, r9, B9⟩
                    case rest =>
                      obtain ⟨L', ho9, hm9, hl9, hr99, hb99⟩ := hcut
                      have O9 := hide ho9; have M9 := hide hm9; have R9 := hide hr99; have BW9 := hide hb99
                      obtain ⟨Aq9, cq9, rfl⟩ := ho9.shape
                      clear O5 R5 B5 HM HPR ho9 hm9 hb99 hLl
                      obtain ⟨A9, c9, e9, _, _, hr9⟩ := hr99.s3
                      injection e9 with e9 _ e10
                      subst e9; subst e10
                      obtain ⟨b3, off3, x3, y3, z3, e3, hbb3, hx3, p0, p1, p2⟩ := hr9.at_ hjm
                      injection e3 with e3; injection e3 with e31 e32; subst e31; subst e32
                      rw [HX2.out] at hx3
                      obtain ⟨rfl, rfl, rfl⟩ : x = x3 ∧ (key : Int) = y3 ∧ z = z3 := by simpa using hx3
                      have BY : Below wc.heap.size wc wc.drew := (Below.refl _ _).drew
                      have hcl : ∀ W, Below wc.heap.size wc W → (W.cell? ⟨b2, off2 + j * 3 + 1, none⟩ = some (.int .i64 (key : Int)) ∧ W.cell? ⟨b2, off2 + j * 3 + 2, none⟩ = some (.int .i64 z) ∧ W.cell? ⟨bo, oo + key, none⟩ = some (.slice Bx kx dx)) := fun W hW => ⟨(hW.cell (p := ⟨b2, off2 + j * 3 + 1, none⟩) hbb3).trans p1, (hW.cell (p := ⟨b2, off2 + j * 3 + 2, none⟩) hbb3).trans p2, ((BW9.out.trans (hW.mono BW9.out.size)).cell (p := ⟨bo, oo + key, none⟩) hbo).trans HCO.out⟩
                      have HC := hide hcl
                      have k93 : (key : Int) < no := by omega
                      clear hx3 p0 p1 p2 hcl hr99 hr9
                      go_upto_region 21 with fail
                      refine wp_region_held_drew (S := (fun W => W.cell? ⟨b2, off2 + j * 3 + 1, none⟩ = some (.int .i64 (key : Int)) ∧ W.cell? ⟨b2, off2 + j * 3 + 2, none⟩ = some (.int .i64 z) ∧ W.cell? ⟨bo, oo + key, none⟩ = some (.slice Bx kx dx))) (by kernel_rfl) ?_ (fun hHeld => ?_)
                      · exact HC.out _ BY
                      refine wpAnyH_take (i := 0) (v := ?vv3_0) (by rw [List.getElem?_toArray]; exact rfl) (by kernel_rfl) (by kernel_rfl) (by kernel_rfl) (by intro _ _ _ h; exact h) (Or.inl ⟨by rfl, ?hy3_0⟩) hHeld ?rest3_0
                      case' hy3_0 => (intro w hSw; (try dsimp only at hSw); go_simp; try (with_reducible rfl))
                      (try simp only [Act.put, List.setIfInBounds_toArray, List.set_cons_zero, List.set_cons_succ])
                      refine wpAnyH_take (i := 1) (v := ?vv3_1) (by rw [List.getElem?_toArray]; exact rfl) (by kernel_rfl) (by kernel_rfl) (by kernel_rfl) (by intro _ _ _ h; exact h) (Or.inl ⟨by rfl, ?hy3_1⟩) hHeld ?rest3_1
                      case' hy3_1 => (intro w hSw; (try dsimp only at hSw); go_simp; try (with_reducible rfl))
                      (try simp only [Act.put, List.setIfInBounds_toArray, List.set_cons_zero, List.set_cons_succ])
                      refine wpAnyH_take (i := 2) (v := ?vv3_2) (by rw [List.getElem?_toArray]; exact rfl) (by kernel_rfl) (by kernel_rfl) (by kernel_rfl) (by intro _ _ _ h; exact h) (Or.inl ⟨by rfl, ?hy3_2⟩) hHeld ?rest3_2
                      case' hy3_2 => (intro w hSw; (try dsimp only at hSw); go_simp; try (with_reducible rfl))
                      (try simp only [Act.put, List.setIfInBounds_toArray, List.set_cons_zero, List.set_cons_succ])
                      refine wpAnyH_take (i := 3) (v := ?vv3_3) (by rw [List.getElem?_toArray]; exact rfl) (by kernel_rfl) (by kernel_rfl) (by kernel_rfl) (by intro _ _ _ h; exact h) (Or.inl ⟨by rfl, ?hy3_3⟩) hHeld ?rest3_3
                      case' hy3_3 => (intro w hSw; (try dsimp only at hSw); go_simp; try (with_reducible rfl))
                      (try simp only [Act.put, List.setIfInBounds_toArray, List.set_cons_zero, List.set_cons_succ])
                      refine wpAnyH_take (i := 4) (v := ?vv3_4) (by rw [List.getElem?_toArray]; exact rfl) (by kernel_rfl) (by kernel_rfl) (by kernel_rfl) (by intro _ _ _ h; exact h) (Or.inl ⟨by rfl, ?hy3_4⟩) hHeld ?rest3_4
                      case' hy3_4 => (intro w hSw; (try dsimp only at hSw); go_simp; try (with_reducible rfl))
                      (try simp only [Act.put, List.setIfInBounds_toArray, List.set_cons_zero, List.set_cons_succ])
                      refine wpAnyH_take (i := 5) (v := ?vv3_5) (by rw [List.getElem?_toArray]; exact rfl) (by kernel_rfl) (by kernel_rfl) (by kernel_rfl) (by intro _ _ _ h; exact h) (Or.inl ⟨by rfl, ?hy3_5⟩) hHeld ?rest3_5
                      case' hy3_5 => (intro w hSw; (try dsimp only at hSw); go_simp; try (with_reducible rfl))
                      (try simp only [Act.put, List.setIfInBounds_toArray, List.set_cons_zero, List.set_cons_succ])
                      refine wpAnyH_take (i := 6) (v := ?vv3_6) (by rw [List.getElem?_toArray]; exact rfl) (by kernel_rfl) (by kernel_rfl) (by kernel_rfl) (by intro _ _ _ h; exact h) (Or.inl ⟨by rfl, ?hy3_6⟩) hHeld ?rest3_6
                      case' hy3_6 => (intro w hSw; (try dsimp only at hSw); go_simp; try (with_reducible rfl))
                      (try simp only [Act.put, List.setIfInBounds_toArray, List.set_cons_zero, List.set_cons_succ])
                      refine wpAnyH_take (i := 7) (v := ?vv3_7) (by rw [List.getElem?_toArray]; exact rfl) (by kernel_rfl) (by kernel_rfl) (by kernel_rfl) (by intro _ _ _ h; exact h) (Or.inl ⟨by rfl, ?hy3_7⟩) hHeld ?rest3_7
                      case' hy3_7 => (intro w hSw; (try dsimp only at hSw); go_simp; try (with_reducible rfl))
                      (try simp only [Act.put, List.setIfInBounds_toArray, List.set_cons_zero, List.set_cons_succ])
                      refine wpAnyH_take (i := 8) (v := ?vv3_8) (by rw [List.getElem?_toArray]; exact rfl) (by kernel_rfl) (by kernel_rfl) (by kernel_rfl) (by intro _ _ _ h; exact h) (Or.inl ⟨by rfl, ?hy3_8⟩) hHeld ?rest3_8
                      case' hy3_8 => (intro w hSw; (try dsimp only at hSw); go_simp; try (with_reducible rfl))
                      (try simp only [Act.put, List.setIfInBounds_toArray, List.set_cons_zero, List.set_cons_succ])
                      refine wpAnyH_take (i := 9) (v := ?vv3_9) (by rw [List.getElem?_toArray]; exact rfl) (by kernel_rfl) (by kernel_rfl) (by kernel_rfl) (by intro _ _ _ h; exact h) (Or.inl ⟨by rfl, ?hy3_9⟩) hHeld ?rest3_9
                      case' hy3_9 => (intro w hSw; (try dsimp only at hSw); go_simp; try (with_reducible rfl))
                      (try simp only [Act.put, List.setIfInBounds_toArray, List.set_cons_zero, List.set_cons_succ])
                      refine wpAnyH_take (i := 10) (v := ?vv3_10) (by rw [List.getElem?_toArray]; exact rfl) (by kernel_rfl) (by kernel_rfl) (by kernel_rfl) (by intro _ _ _ h; exact h) (Or.inl ⟨by rfl, ?hy3_10⟩) hHeld ?rest3_10
                      case' hy3_10 => (intro w hSw; (try dsimp only at hSw); go_simp; try (with_reducible rfl))
                      (try simp only [Act.put, List.setIfInBounds_toArray, List.set_cons_zero, List.set_cons_succ])
                      refine wpAnyH_take (i := 11) (v := ?vv3_11) (by rw [List.getElem?_toArray]; exact rfl) (by kernel_rfl) (by kernel_rfl) (by kernel_rfl) (by intro _ _ _ h; exact h) (Or.inl ⟨by rfl, ?hy3_11⟩) hHeld ?rest3_11
                      case' hy3_11 => (intro w hSw; (try dsimp only at hSw); go_simp; try (with_reducible rfl))
                      (try simp only [Act.put, List.setIfInBounds_toArray, List.set_cons_zero, List.set_cons_succ])
                      refine wpAnyH_take (i := 12) (v := ?vv3_12) (by rw [List.getElem?_toArray]; exact rfl) (by kernel_rfl) (by kernel_rfl) (by kernel_rfl) (by intro _ _ _ h; exact h) (Or.inl ⟨by rfl, ?hy3_12⟩) hHeld ?rest3_12
                      case' hy3_12 => (intro w hSw; (try dsimp only at hSw); go_simp; try (with_reducible rfl))
                      (try simp only [Act.put, List.setIfInBounds_toArray, List.set_cons_zero, List.set_cons_succ])
                      refine wpAnyH_ready (rs := [13]) (by kernel_rfl) (by simp) ?_
                      refine AllReadyH.cons (by rw [List.getElem?_toArray]; exact rfl) (fun K hK => ?_) AllReadyH.nil
                      go_simp
                      go_at_call 227
                      refine (l8Next_c (s1.out.below (BW9.out.trans (BY.mono BW9.out.size)))).mono ?_
                      rintro e w5 ⟨rfl, b5⟩
                      replace BY := below_step BY b5
                      clear b5
                      refine hK.out _ _ ?_ (fun hHeld => ?_)
                      · exact HC.out _ BY
                      clear hK K
                      (try simp only [Act.put, List.setIfInBounds_toArray, List.set_cons_zero, List.set_cons_succ])
                      refine wpAnyH_take (i := 14) (v := ?vv3_14) (by rw [List.getElem?_toArray]; exact rfl) (by kernel_rfl) (by kernel_rfl) (by kernel_rfl) (by intro _ _ _ h; exact h) (Or.inl ⟨by rfl, ?hy3_14⟩) hHeld ?rest3_14
                      case' hy3_14 => (intro w hSw; (try dsimp only at hSw); go_simp; try (with_reducible rfl))
                      (try simp only [Act.put, List.setIfInBounds_toArray, List.set_cons_zero, List.set_cons_succ])
                      refine wpAnyH_done (by kernel_rfl) ?_ _
                      have B5 := hide (below_step BW9.out BY)
                      have O5 := hide (O9.out.below BY)
                      have R5 := hide (R9.out.below BY)
                      obtain ⟨t1, t2, _⟩ := HC.out _ BY
                      have hstep := hide (fun e => SeeR.step (os := os) HX.out rfl HX2.out e)
                      clear BY HC O9 R9 BW9
                      cases hnv : nextV (os.getD key []) z with
                      | none =>
                        have hni : nextI xs z = -1 := by unfold nextI; rw [← HGD.out, hnv]
                        have HNI := hide hni
                        have hno' := hide (seeO_none (ts := ts) (os := os) (n := k) (key := key) (x := x) hnv L' M9.out)
                        clear hni hnv
                        rw [HNI.out]
                        go_wp2_with fail
                        go_roundw
                        case rel => exact ⟨j + 1, L', by go_num, by omega, .inr trivial, O5.out, fun e => by rw [hno'.out e, hstep.out e, or_assoc, or_assoc], by omega, R5.out, B5.out⟩
                        case measure => simp [intOf]; omega
                      | some v' =>
                        have hni : nextI xs z = v' := by unfold nextI; rw [← HGD.out, hnv]
                        have HNI := hide hni
                        have hvp : 0 < v' := by
                          obtain ⟨m', hw'⟩ := ord_isW HORD.out hk3 (nextV_mem hnv)
                          exact (wf_isW HH.out hw').2.1
                        have hse := hide (seeO_put HORD.out hk3 (x := x) HX.out rfl hnv L' M9.out)
                        clear hni hnv
                        rw [HNI.out]
                        by_cases hwk : writerV ts key v' = (k : Int)
                        · have hwb : (writerV ts key v' != (k : Int)) = false := by simpa using hwk
                          have hno' := hide (hse.out.2 hwk)
                          clear hwk
                          go_wp2_with (go_at_call 168; refine (l5Writer_c (hr.below B5.out) HH.out).mono ?_; rintro e w6 ⟨rfl, b6⟩)
                          go_roundw
                          case rel => exact ⟨j + 1, L', by go_num, by omega, .inr trivial, O5.out.below b6, fun e => by rw [hno'.out e, hstep.out e, or_assoc, or_assoc], by omega, R5.out.below b6, below_step B5.out b6⟩
                          case measure => simp [intOf]; omega
                        · have hwb : (writerV ts key v' != (k : Int)) = true := by simpa using hwk
                          have hyes' := hide (hse.out.1 hwk)
                          clear hwk
                          go_upto_region 23 with (go_at_call 168; refine (l5Writer_c (hr.below B5.out) HH.out).mono ?_; rintro e w6 ⟨rfl, b6⟩)
                          have B6 := hide (below_step B5.out b6)
                          have O6 := hide (O5.out.below b6)
                          have R6 := hide (R5.out.below b6)
                          have hb35 : b2 < w5.heap.size := by
                            obtain ⟨A9, c9, e9, _, _, hr9⟩ := R5.out.s3
                            injection e9 with e9 _ _
                            subst e9
                            obtain ⟨b3, off3, _, _, _, e3, hbb3, _⟩ := hr9.at_ hjm
                            injection e3 with e3; injection e3 with e31 _; subst e31; exact hbb3
                          have t16 := (b6.cell (p := ⟨b2, off2 + j * 3 + 1, none⟩) hb35).trans t1
                          clear B5 O5 R5 b6 t1 t2
                          go_wp2_with fail
                          refine (l5Writer_c (hr.below B6.out) HH.out).mono ?_
                          rintro e w7 ⟨rfl, b7⟩
                          have B7 := hide (below_step B6.out b7)
                          have O7 := O6.out.below b7
                          have R7 := R6.out.below b7
                          have KN := Blk.new w7 146 #[.int .i64 (k : Int), .int .i64 (writerV ts (key : Int) v'), .int .i64 3]
                          have o4 := O7.alloc (.cells #[.int .i64 (k : Int), .int .i64 (writerV ts (key : Int) v'), .int .i64 3] 146)
                          have r4 := R7.alloc (.cells #[.int .i64 (k : Int), .int .i64 (writerV ts (key : Int) v'), .int .i64 3] 146)
                          have B4 := B7.out.alloc B7.out.size (.cells #[.int .i64 (k : Int), .int .i64 (writerV ts (key : Int) v'), .int .i64 3] 146)
                          have hz4 : w.heap.size ≤ (w7.alloc (.cells #[.int .i64 (k : Int), .int .i64 (writerV ts (key : Int) v'), .int .i64 3] 146)).heap.size := by rw [World.size_alloc]; have := B7.out.size; omega
                          have hln : L'.length + 1 ≤ 1048576 := by omega
                          have hne4 := own_ne2 r4.1 o4.1 (by decide)
                          clear B6 O6 R6 O7 R7 b7
                          go_wp2_with (at_builtin; refine wpList_app3 rfl _ _ rfl Tryz.underlying97 infoEz rfl o4 rfl (S3.one KN (Nat.le_refl _)) hln hz4 ?_; intro v9 w9 h9 hg9 hat9; have B9 := below_app3 B4 o4 (Nat.le_refl _) hg9; have r9 := r4.grown hg9 hne4)
                          go_roundw
                          case rel => exact ⟨j + 1, _, by go_num, by omega, .inr trivial, by rw [List.length_append]; exact h9, fun e => by rw [hyes'.out e, hstep.out e, or_assoc, or_assoc], by rw [List.length_append]; simp; omega, r9, B9⟩
                          case measure => simp [intOf]; omega
              · obtain rfl : m3 = j := by omega
                have hnx := hide (fun e => SeeR.next (os := os) (j := m3) HX.out (by rw [hlen3.out]; exact Nat.le_refl _) e)
                clear hor
                go_wp2_with fail
                go_roundw
                case rel => exact ⟨k + 1, L, by go_num, by omega, HO.out, fun e => by rw [HM.out e, hnx.out e], by omega, BW.out⟩
                case measure => simp [intOf]; omega
          · obtain rfl : n = k := by omega
            have hfin := hide (show canonL (fun e => e ∈ L) = edgesL ts os by
              rw [he.out]
              refine canonL_congr (fun e _ => ?_)
              rw [HM.out e]
              unfold EdgeP
              rw [hl.out])
            have s9 := hide HO.out.s3
            go_wp2_with fail
            refine (l8Sorted_c s9.out).mono ?_
            rintro e w9 ⟨r9, rfl, o9, b9⟩
            go_wp2_with fail
            go_ret
            exact ⟨_, rfl, by rw [← hfin.out]; exact o9.mono BW.out.size, below_step BW.out b9⟩
end Go.Proofs.YtcfkemchekmjbaaGreatDoor
