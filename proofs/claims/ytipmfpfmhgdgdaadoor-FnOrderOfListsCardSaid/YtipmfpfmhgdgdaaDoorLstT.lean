/- The reference's ListsAgree, LongestList, OrderOfLists. -/
import Derived.Test.YtipmfpfmhgdgdaaDoorLstS
namespace Go.Proofs.YtipmfpfmhgdgdaaDoor
open Go.RowKit

theorem l21Begins_b {u v : Value} {n m : Nat} {xs ys : List Int} {w : World} (hu : SI w u n xs) (hv : SI w v m ys) :
    Calls Tryd.prog 37 #[u, v] w fun e w' => e = .returned (.bool (preB xs ys)) ∧ Below w.heap.size w w' :=
  (l21Begins_c hu hv).mono (by rintro e w' ⟨rfl, q, rfl⟩; exact ⟨rfl, below_drewN (Below.refl _ _) q⟩)
set_option maxRecDepth 100000 in
set_option maxHeartbeats 8000000 in
theorem spec_ListsAgree_c {A : Option Addr} {n c : Nat} {ls : Ls} {w : World} (hr : RL w A n ls) (hn : n ≤ 1048576) :
    Calls Tryd.prog 19 #[.slice A n c] w (AgrR ls w) := by
  have hl := hide hr.1
  cases hv : listsB ls
  · have hf := iff_no (ls := ls) (fun h => by have := h.1; rw [hv] at this; cases this)
    have F := hide hf; have V := hide hv; clear hf hv
    go_enter Tryd.func19, Tryd.ntmps19
    go_wp2_with fail
    refine (spec_ListsValid_c hr hn).mono ?_
    rintro e w2 ⟨rfl, b2⟩
    rw [V.out]
    go_wp2_with fail
    refine bodyPost_ret (v := .tuple #[.int .i64 (-2), .int .i64 (-2)]) (by simp [results, Tryd.results19, go_sem]) rfl ⟨-2, -2, false, rfl, rfl, (by have := F.out; simpa using this), b2⟩
  · have V := hide hv; clear hv
    go_enter Tryd.func19, Tryd.ntmps19
    go_wp2_with fail
    refine (spec_ListsValid_c hr hn).mono ?_
    rintro e w2 ⟨rfl, b2⟩
    rw [V.out]
    have B2 := hide b2; clear b2
    go_wp2_with fail
    go_loopw [4] (fun i wr => ∃ k : Nat, i = .int .i64 k ∧ k ≤ n ∧ AgreeTo ls k (k + 1) ∧ Below w.heap.size w wr) (fun i _ => n - (intOf i).toNat)
    case atStart => exact ⟨0, rfl, Nat.zero_le _, AgreeTo.zero ls _ (by omega), B2.out⟩
    case round =>
      clear B2
      obtain ⟨k, rfl, hk, hag, bw⟩ := hrel
      have HA := hide hag; have BW := hide bw; clear hag bw
      by_cases hkn : k < n
      · obtain ⟨b, off, xs, B, kk, d, rfl, hbb, hx, q0, hkd, hk1, hri⟩ := hr.at_ hkn
        have s1 : SI w (.slice B kk d) kk xs := ⟨B, d, rfl, hkd, hk1, hri⟩
        have HX := hide hx; have Q0 := hide q0
        have k0 : (0 : Int) ≤ k := by omega
        have k2 : (k : Int) < n := by omega
        have i1 : decide ((k : Int) < 0) = false := by simp
        have i2 : decide (n ≤ k) = false := by simp; omega
        clear hx q0 hri
        go_wp2_with fail
        go_loopw [5] (fun i wr2 => ∃ j : Nat, i = .int .i64 j ∧ k + 1 ≤ j ∧ j ≤ n ∧ AgreeTo ls k j ∧ Below w.heap.size w wr2) (fun i _ => n - (intOf i).toNat)
        case atStart => exact ⟨k + 1, by go_num, Nat.le_refl _, by omega, HA.out, BW.out⟩
        case round =>
          clear HA BW
          obtain ⟨j, rfl, hkj, hj, hag, bw⟩ := hrel
          rename World => wr2
          have HA := hide hag; have BW := hide bw; clear hag bw
          by_cases hjn : j < n
          · obtain ⟨b', off', ys, B', kk', d', ea, hbb', hy, q0', hkd', hk1', hri'⟩ := hr.at_ hjn
            injection ea with ea; injection ea with ea1 ea2; subst ea1; subst ea2
            have s2 : SI w (.slice B' kk' d') kk' ys := ⟨B', d', rfl, hkd', hk1', hri'⟩
            have HY := hide hy
            have hc : ∀ W, Below w.heap.size w W → W.cell? ⟨b, off + k, none⟩ = some (.slice B kk d) ∧ W.cell? ⟨b, off + j, none⟩ = some (.slice B' kk' d') := fun W h => ⟨(h.cell (p := ⟨b, off + k, none⟩) hbb).trans Q0.out, (h.cell (p := ⟨b, off + j, none⟩) hbb').trans q0'⟩
            have j0 : (0 : Int) ≤ j := by omega
            have j2 : (j : Int) < n := by omega
            have i3 : decide ((j : Int) < 0) = false := by simp
            have i4 : decide (n ≤ j) = false := by simp; omega
            have hpre := begB_pre xs ys
            clear hy q0' hri'
            cases hp : preB xs ys
            · cases hp' : preB ys xs
              · have hb : begB xs ys = false := by rw [hpre, hp, hp']; rfl
                have hno := okP_no (by omega) HX.out HY.out hb
                have hf := iff_no hno
                have F := hide hf; have HP := hide hp; have HP' := hide hp'
                have hki : ((k : Int) != -1) = !false := by first | (simp; done) | (simp; omega)
                have HKI := hide hki; clear hki hf hno hb hpre hp hp'
                go_wp2_with fail
                have BZ : Below w.heap.size w wr2.drew := BW.out.drew
                refine wp_region_held_drew (S := (fun W => W.cell? ⟨b, off + k, none⟩ = some (.slice B kk d) ∧ W.cell? ⟨b, off + j, none⟩ = some (.slice B' kk' d'))) (by kernel_rfl) ?_ (fun hHeld => ?_)
                · exact hc _ BZ
                refine wpAnyH_take (i := 0) (v := ?vv1_0) (by rw [List.getElem?_toArray]; exact rfl) (by kernel_rfl) (by kernel_rfl) (by kernel_rfl) (by intro _ _ _ h; exact h) (Or.inl ⟨by rfl, ?hy1_0⟩) hHeld ?rest1_0
                case' hy1_0 => (intro w hSw; (try dsimp only at hSw); go_simp; try (with_reducible rfl))
                (try simp only [Act.put, List.setIfInBounds_toArray, List.set_cons_zero, List.set_cons_succ])
                refine wpAnyH_take (i := 1) (v := ?vv1_1) (by rw [List.getElem?_toArray]; exact rfl) (by kernel_rfl) (by kernel_rfl) (by kernel_rfl) (by intro _ _ _ h; exact h) (Or.inl ⟨by rfl, ?hy1_1⟩) hHeld ?rest1_1
                case' hy1_1 => (intro w hSw; (try dsimp only at hSw); go_simp; try (with_reducible rfl))
                (try simp only [Act.put, List.setIfInBounds_toArray, List.set_cons_zero, List.set_cons_succ])
                refine wpAnyH_take (i := 2) (v := ?vv1_2) (by rw [List.getElem?_toArray]; exact rfl) (by kernel_rfl) (by kernel_rfl) (by kernel_rfl) (by intro _ _ _ h; exact h) (Or.inl ⟨by rfl, ?hy1_2⟩) hHeld ?rest1_2
                case' hy1_2 => (intro w hSw; (try dsimp only at hSw); go_simp; try (with_reducible rfl))
                (try simp only [Act.put, List.setIfInBounds_toArray, List.set_cons_zero, List.set_cons_succ])
                refine wpAnyH_take (i := 3) (v := ?vv1_3) (by rw [List.getElem?_toArray]; exact rfl) (by kernel_rfl) (by kernel_rfl) (by kernel_rfl) (by intro _ _ _ h; exact h) (Or.inl ⟨by rfl, ?hy1_3⟩) hHeld ?rest1_3
                case' hy1_3 => (intro w hSw; (try dsimp only at hSw); go_simp; try (with_reducible rfl))
                (try simp only [Act.put, List.setIfInBounds_toArray, List.set_cons_zero, List.set_cons_succ])
                refine wpAnyH_take (i := 4) (v := ?vv1_4) (by rw [List.getElem?_toArray]; exact rfl) (by kernel_rfl) (by kernel_rfl) (by kernel_rfl) (by intro _ _ _ h; exact h) (Or.inl ⟨by rfl, ?hy1_4⟩) hHeld ?rest1_4
                case' hy1_4 => (intro w hSw; (try dsimp only at hSw); go_simp; try (with_reducible rfl))
                (try simp only [Act.put, List.setIfInBounds_toArray, List.set_cons_zero, List.set_cons_succ])
                refine wpAnyH_take (i := 5) (v := ?vv1_5) (by rw [List.getElem?_toArray]; exact rfl) (by kernel_rfl) (by kernel_rfl) (by kernel_rfl) (by intro _ _ _ h; exact h) (Or.inl ⟨by rfl, ?hy1_5⟩) hHeld ?rest1_5
                case' hy1_5 => (intro w hSw; (try dsimp only at hSw); go_simp; try (with_reducible rfl))
                (try simp only [Act.put, List.setIfInBounds_toArray, List.set_cons_zero, List.set_cons_succ])
                refine wpAnyH_take (i := 6) (v := ?vv1_6) (by rw [List.getElem?_toArray]; exact rfl) (by kernel_rfl) (by kernel_rfl) (by kernel_rfl) (by intro _ _ _ h; exact h) (Or.inl ⟨by rfl, ?hy1_6⟩) hHeld ?rest1_6
                case' hy1_6 => (intro w hSw; (try dsimp only at hSw); go_simp; try (with_reducible rfl))
                (try simp only [Act.put, List.setIfInBounds_toArray, List.set_cons_zero, List.set_cons_succ])
                refine wpAnyH_take (i := 7) (v := ?vv1_7) (by rw [List.getElem?_toArray]; exact rfl) (by kernel_rfl) (by kernel_rfl) (by kernel_rfl) (by intro _ _ _ h; exact h) (Or.inl ⟨by rfl, ?hy1_7⟩) hHeld ?rest1_7
                case' hy1_7 => (intro w hSw; (try dsimp only at hSw); go_simp; try (with_reducible rfl))
                (try simp only [Act.put, List.setIfInBounds_toArray, List.set_cons_zero, List.set_cons_succ])
                refine wpAnyH_ready (rs := [8]) (by kernel_rfl) (by simp) ?_
                refine AllReadyH.cons (by rw [List.getElem?_toArray]; exact rfl) (fun K hK => ?_) AllReadyH.nil
                go_simp
                go_at_call 37
                refine (l21Begins_b (s1.below BZ) (s2.below BZ)).mono ?_
                rintro e w' ⟨rfl, bq⟩
                replace BZ := below_step BZ bq
                rw [HP.out]
                refine hK.out _ _ ?_ (fun hHeld => ?_)
                · exact hc _ BZ
                clear hK K
                (try simp only [Act.put, List.setIfInBounds_toArray, List.set_cons_zero, List.set_cons_succ])
                refine wpAnyH_take (i := 9) (v := ?vv1_9) (by rw [List.getElem?_toArray]; exact rfl) (by kernel_rfl) (by kernel_rfl) (by kernel_rfl) (by intro _ _ _ h; exact h) (Or.inl ⟨by rfl, ?hy1_9⟩) hHeld ?rest1_9
                case' hy1_9 => (intro w hSw; (try dsimp only at hSw); go_simp; try (with_reducible rfl))
                (try simp only [Act.put, List.setIfInBounds_toArray, List.set_cons_zero, List.set_cons_succ])
                refine wpAnyH_take (i := 10) (v := ?vv1_10) (by rw [List.getElem?_toArray]; exact rfl) (by kernel_rfl) (by kernel_rfl) (by kernel_rfl) (by intro _ _ _ h; exact h) (Or.inl ⟨by rfl, ?hy1_10⟩) hHeld ?rest1_10
                case' hy1_10 => (intro w hSw; (try dsimp only at hSw); go_simp; try (with_reducible rfl))
                (try simp only [Act.put, List.setIfInBounds_toArray, List.set_cons_zero, List.set_cons_succ])
                refine wpAnyH_take (i := 11) (v := ?vv1_11) (by rw [List.getElem?_toArray]; exact rfl) (by kernel_rfl) (by kernel_rfl) (by kernel_rfl) (by intro _ _ _ h; exact h) (Or.inl ⟨by rfl, ?hy1_11⟩) hHeld ?rest1_11
                case' hy1_11 => (intro w hSw; (try dsimp only at hSw); go_simp; try (with_reducible rfl))
                (try simp only [Act.put, List.setIfInBounds_toArray, List.set_cons_zero, List.set_cons_succ])
                refine wpAnyH_take (i := 12) (v := ?vv1_12) (by rw [List.getElem?_toArray]; exact rfl) (by kernel_rfl) (by kernel_rfl) (by kernel_rfl) (by intro _ _ _ h; exact h) (Or.inl ⟨by rfl, ?hy1_12⟩) hHeld ?rest1_12
                case' hy1_12 => (intro w hSw; (try dsimp only at hSw); go_simp; try (with_reducible rfl))
                (try simp only [Act.put, List.setIfInBounds_toArray, List.set_cons_zero, List.set_cons_succ])
                refine wpAnyH_take (i := 13) (v := ?vv1_13) (by rw [List.getElem?_toArray]; exact rfl) (by kernel_rfl) (by kernel_rfl) (by kernel_rfl) (by intro _ _ _ h; exact h) (Or.inl ⟨by rfl, ?hy1_13⟩) hHeld ?rest1_13
                case' hy1_13 => (intro w hSw; (try dsimp only at hSw); go_simp; try (with_reducible rfl))
                (try simp only [Act.put, List.setIfInBounds_toArray, List.set_cons_zero, List.set_cons_succ])
                refine wpAnyH_take (i := 14) (v := ?vv1_14) (by rw [List.getElem?_toArray]; exact rfl) (by kernel_rfl) (by kernel_rfl) (by kernel_rfl) (by intro _ _ _ h; exact h) (Or.inl ⟨by rfl, ?hy1_14⟩) hHeld ?rest1_14
                case' hy1_14 => (intro w hSw; (try dsimp only at hSw); go_simp; try (with_reducible rfl))
                (try simp only [Act.put, List.setIfInBounds_toArray, List.set_cons_zero, List.set_cons_succ])
                refine wpAnyH_take (i := 15) (v := ?vv1_15) (by rw [List.getElem?_toArray]; exact rfl) (by kernel_rfl) (by kernel_rfl) (by kernel_rfl) (by intro _ _ _ h; exact h) (Or.inl ⟨by rfl, ?hy1_15⟩) hHeld ?rest1_15
                case' hy1_15 => (intro w hSw; (try dsimp only at hSw); go_simp; try (with_reducible rfl))
                (try simp only [Act.put, List.setIfInBounds_toArray, List.set_cons_zero, List.set_cons_succ])
                refine wpAnyH_take (i := 16) (v := ?vv1_16) (by rw [List.getElem?_toArray]; exact rfl) (by kernel_rfl) (by kernel_rfl) (by kernel_rfl) (by intro _ _ _ h; exact h) (Or.inl ⟨by rfl, ?hy1_16⟩) hHeld ?rest1_16
                case' hy1_16 => (intro w hSw; (try dsimp only at hSw); go_simp; try (with_reducible rfl))
                (try simp only [Act.put, List.setIfInBounds_toArray, List.set_cons_zero, List.set_cons_succ])
                refine wpAnyH_take (i := 17) (v := ?vv1_17) (by rw [List.getElem?_toArray]; exact rfl) (by kernel_rfl) (by kernel_rfl) (by kernel_rfl) (by intro _ _ _ h; exact h) (Or.inl ⟨by rfl, ?hy1_17⟩) hHeld ?rest1_17
                case' hy1_17 => (intro w hSw; (try dsimp only at hSw); go_simp; try (with_reducible rfl))
                (try simp only [Act.put, List.setIfInBounds_toArray, List.set_cons_zero, List.set_cons_succ])
                refine wpAnyH_take (i := 18) (v := ?vv1_18) (by rw [List.getElem?_toArray]; exact rfl) (by kernel_rfl) (by kernel_rfl) (by kernel_rfl) (by intro _ _ _ h; exact h) (Or.inl ⟨by rfl, ?hy1_18⟩) hHeld ?rest1_18
                case' hy1_18 => (intro w hSw; (try dsimp only at hSw); go_simp; try (with_reducible rfl))
                (try simp only [Act.put, List.setIfInBounds_toArray, List.set_cons_zero, List.set_cons_succ])
                refine wpAnyH_ready (rs := [19]) (by kernel_rfl) (by simp) ?_
                refine AllReadyH.cons (by rw [List.getElem?_toArray]; exact rfl) (fun K hK => ?_) AllReadyH.nil
                go_simp
                go_at_call 37
                refine (l21Begins_b (s2.below BZ) (s1.below BZ)).mono ?_
                rintro e w' ⟨rfl, bq⟩
                replace BZ := below_step BZ bq
                rw [HP'.out]
                refine hK.out _ _ ?_ (fun hHeld => ?_)
                · exact hc _ BZ
                clear hK K
                (try simp only [Act.put, List.setIfInBounds_toArray, List.set_cons_zero, List.set_cons_succ])
                refine wpAnyH_take (i := 20) (v := ?vv1_20) (by rw [List.getElem?_toArray]; exact rfl) (by kernel_rfl) (by kernel_rfl) (by kernel_rfl) (by intro _ _ _ h; exact h) (Or.inl ⟨by rfl, ?hy1_20⟩) hHeld ?rest1_20
                case' hy1_20 => (intro w hSw; (try dsimp only at hSw); go_simp; try (with_reducible rfl))
                (try simp only [Act.put, List.setIfInBounds_toArray, List.set_cons_zero, List.set_cons_succ])
                refine wpAnyH_take (i := 21) (v := ?vv1_21) (by rw [List.getElem?_toArray]; exact rfl) (by kernel_rfl) (by kernel_rfl) (by kernel_rfl) (by intro _ _ _ h; exact h) (Or.inl ⟨by rfl, ?hy1_21⟩) hHeld ?rest1_21
                case' hy1_21 => (intro w hSw; (try dsimp only at hSw); go_simp; try (with_reducible rfl))
                (try simp only [Act.put, List.setIfInBounds_toArray, List.set_cons_zero, List.set_cons_succ])
                refine wpAnyH_done (by kernel_rfl) ?_ _
                go_wp2_with fail
                refine bodyPost_ret (v := .tuple #[.int .i64 (k : Int), .int .i64 (j : Int)]) (by simp [results, Tryd.results19, go_sem]) rfl ⟨k, j, false, rfl, HKI.out, (by have := F.out; simpa using this), BZ⟩
              · have hb : begB xs ys = true := by rw [hpre, hp, hp']; rfl
                have hag := HA.out.step HX.out HY.out hb
                have HG := hide hag; have HP := hide hp; have HP' := hide hp'
                clear hag hb hpre hp hp'
                go_wp2_with fail
                have BZ : Below w.heap.size w wr2.drew := BW.out.drew
                refine wp_region_held_drew (S := (fun W => W.cell? ⟨b, off + k, none⟩ = some (.slice B kk d) ∧ W.cell? ⟨b, off + j, none⟩ = some (.slice B' kk' d'))) (by kernel_rfl) ?_ (fun hHeld => ?_)
                · exact hc _ BZ
                refine wpAnyH_take (i := 0) (v := ?vv2_0) (by rw [List.getElem?_toArray]; exact rfl) (by kernel_rfl) (by kernel_rfl) (by kernel_rfl) (by intro _ _ _ h; exact h) (Or.inl ⟨by rfl, ?hy2_0⟩) hHeld ?rest2_0
                case' hy2_0 => (intro w hSw; (try dsimp only at hSw); go_simp; try (with_reducible rfl))
                (try simp only [Act.put, List.setIfInBounds_toArray, List.set_cons_zero, List.set_cons_succ])
                refine wpAnyH_take (i := 1) (v := ?vv2_1) (by rw [List.getElem?_toArray]; exact rfl) (by kernel_rfl) (by kernel_rfl) (by kernel_rfl) (by intro _ _ _ h; exact h) (Or.inl ⟨by rfl, ?hy2_1⟩) hHeld ?rest2_1
                case' hy2_1 => (intro w hSw; (try dsimp only at hSw); go_simp; try (with_reducible rfl))
                (try simp only [Act.put, List.setIfInBounds_toArray, List.set_cons_zero, List.set_cons_succ])
                refine wpAnyH_take (i := 2) (v := ?vv2_2) (by rw [List.getElem?_toArray]; exact rfl) (by kernel_rfl) (by kernel_rfl) (by kernel_rfl) (by intro _ _ _ h; exact h) (Or.inl ⟨by rfl, ?hy2_2⟩) hHeld ?rest2_2
                case' hy2_2 => (intro w hSw; (try dsimp only at hSw); go_simp; try (with_reducible rfl))
                (try simp only [Act.put, List.setIfInBounds_toArray, List.set_cons_zero, List.set_cons_succ])
                refine wpAnyH_take (i := 3) (v := ?vv2_3) (by rw [List.getElem?_toArray]; exact rfl) (by kernel_rfl) (by kernel_rfl) (by kernel_rfl) (by intro _ _ _ h; exact h) (Or.inl ⟨by rfl, ?hy2_3⟩) hHeld ?rest2_3
                case' hy2_3 => (intro w hSw; (try dsimp only at hSw); go_simp; try (with_reducible rfl))
                (try simp only [Act.put, List.setIfInBounds_toArray, List.set_cons_zero, List.set_cons_succ])
                refine wpAnyH_take (i := 4) (v := ?vv2_4) (by rw [List.getElem?_toArray]; exact rfl) (by kernel_rfl) (by kernel_rfl) (by kernel_rfl) (by intro _ _ _ h; exact h) (Or.inl ⟨by rfl, ?hy2_4⟩) hHeld ?rest2_4
                case' hy2_4 => (intro w hSw; (try dsimp only at hSw); go_simp; try (with_reducible rfl))
                (try simp only [Act.put, List.setIfInBounds_toArray, List.set_cons_zero, List.set_cons_succ])
                refine wpAnyH_take (i := 5) (v := ?vv2_5) (by rw [List.getElem?_toArray]; exact rfl) (by kernel_rfl) (by kernel_rfl) (by kernel_rfl) (by intro _ _ _ h; exact h) (Or.inl ⟨by rfl, ?hy2_5⟩) hHeld ?rest2_5
                case' hy2_5 => (intro w hSw; (try dsimp only at hSw); go_simp; try (with_reducible rfl))
                (try simp only [Act.put, List.setIfInBounds_toArray, List.set_cons_zero, List.set_cons_succ])
                refine wpAnyH_take (i := 6) (v := ?vv2_6) (by rw [List.getElem?_toArray]; exact rfl) (by kernel_rfl) (by kernel_rfl) (by kernel_rfl) (by intro _ _ _ h; exact h) (Or.inl ⟨by rfl, ?hy2_6⟩) hHeld ?rest2_6
                case' hy2_6 => (intro w hSw; (try dsimp only at hSw); go_simp; try (with_reducible rfl))
                (try simp only [Act.put, List.setIfInBounds_toArray, List.set_cons_zero, List.set_cons_succ])
                refine wpAnyH_take (i := 7) (v := ?vv2_7) (by rw [List.getElem?_toArray]; exact rfl) (by kernel_rfl) (by kernel_rfl) (by kernel_rfl) (by intro _ _ _ h; exact h) (Or.inl ⟨by rfl, ?hy2_7⟩) hHeld ?rest2_7
                case' hy2_7 => (intro w hSw; (try dsimp only at hSw); go_simp; try (with_reducible rfl))
                (try simp only [Act.put, List.setIfInBounds_toArray, List.set_cons_zero, List.set_cons_succ])
                refine wpAnyH_ready (rs := [8]) (by kernel_rfl) (by simp) ?_
                refine AllReadyH.cons (by rw [List.getElem?_toArray]; exact rfl) (fun K hK => ?_) AllReadyH.nil
                go_simp
                go_at_call 37
                refine (l21Begins_b (s1.below BZ) (s2.below BZ)).mono ?_
                rintro e w' ⟨rfl, bq⟩
                replace BZ := below_step BZ bq
                rw [HP.out]
                refine hK.out _ _ ?_ (fun hHeld => ?_)
                · exact hc _ BZ
                clear hK K
                (try simp only [Act.put, List.setIfInBounds_toArray, List.set_cons_zero, List.set_cons_succ])
                refine wpAnyH_take (i := 9) (v := ?vv2_9) (by rw [List.getElem?_toArray]; exact rfl) (by kernel_rfl) (by kernel_rfl) (by kernel_rfl) (by intro _ _ _ h; exact h) (Or.inl ⟨by rfl, ?hy2_9⟩) hHeld ?rest2_9
                case' hy2_9 => (intro w hSw; (try dsimp only at hSw); go_simp; try (with_reducible rfl))
                (try simp only [Act.put, List.setIfInBounds_toArray, List.set_cons_zero, List.set_cons_succ])
                refine wpAnyH_take (i := 10) (v := ?vv2_10) (by rw [List.getElem?_toArray]; exact rfl) (by kernel_rfl) (by kernel_rfl) (by kernel_rfl) (by intro _ _ _ h; exact h) (Or.inl ⟨by rfl, ?hy2_10⟩) hHeld ?rest2_10
                case' hy2_10 => (intro w hSw; (try dsimp only at hSw); go_simp; try (with_reducible rfl))
                (try simp only [Act.put, List.setIfInBounds_toArray, List.set_cons_zero, List.set_cons_succ])
                refine wpAnyH_take (i := 11) (v := ?vv2_11) (by rw [List.getElem?_toArray]; exact rfl) (by kernel_rfl) (by kernel_rfl) (by kernel_rfl) (by intro _ _ _ h; exact h) (Or.inl ⟨by rfl, ?hy2_11⟩) hHeld ?rest2_11
                case' hy2_11 => (intro w hSw; (try dsimp only at hSw); go_simp; try (with_reducible rfl))
                (try simp only [Act.put, List.setIfInBounds_toArray, List.set_cons_zero, List.set_cons_succ])
                refine wpAnyH_take (i := 12) (v := ?vv2_12) (by rw [List.getElem?_toArray]; exact rfl) (by kernel_rfl) (by kernel_rfl) (by kernel_rfl) (by intro _ _ _ h; exact h) (Or.inl ⟨by rfl, ?hy2_12⟩) hHeld ?rest2_12
                case' hy2_12 => (intro w hSw; (try dsimp only at hSw); go_simp; try (with_reducible rfl))
                (try simp only [Act.put, List.setIfInBounds_toArray, List.set_cons_zero, List.set_cons_succ])
                refine wpAnyH_take (i := 13) (v := ?vv2_13) (by rw [List.getElem?_toArray]; exact rfl) (by kernel_rfl) (by kernel_rfl) (by kernel_rfl) (by intro _ _ _ h; exact h) (Or.inl ⟨by rfl, ?hy2_13⟩) hHeld ?rest2_13
                case' hy2_13 => (intro w hSw; (try dsimp only at hSw); go_simp; try (with_reducible rfl))
                (try simp only [Act.put, List.setIfInBounds_toArray, List.set_cons_zero, List.set_cons_succ])
                refine wpAnyH_take (i := 14) (v := ?vv2_14) (by rw [List.getElem?_toArray]; exact rfl) (by kernel_rfl) (by kernel_rfl) (by kernel_rfl) (by intro _ _ _ h; exact h) (Or.inl ⟨by rfl, ?hy2_14⟩) hHeld ?rest2_14
                case' hy2_14 => (intro w hSw; (try dsimp only at hSw); go_simp; try (with_reducible rfl))
                (try simp only [Act.put, List.setIfInBounds_toArray, List.set_cons_zero, List.set_cons_succ])
                refine wpAnyH_take (i := 15) (v := ?vv2_15) (by rw [List.getElem?_toArray]; exact rfl) (by kernel_rfl) (by kernel_rfl) (by kernel_rfl) (by intro _ _ _ h; exact h) (Or.inl ⟨by rfl, ?hy2_15⟩) hHeld ?rest2_15
                case' hy2_15 => (intro w hSw; (try dsimp only at hSw); go_simp; try (with_reducible rfl))
                (try simp only [Act.put, List.setIfInBounds_toArray, List.set_cons_zero, List.set_cons_succ])
                refine wpAnyH_take (i := 16) (v := ?vv2_16) (by rw [List.getElem?_toArray]; exact rfl) (by kernel_rfl) (by kernel_rfl) (by kernel_rfl) (by intro _ _ _ h; exact h) (Or.inl ⟨by rfl, ?hy2_16⟩) hHeld ?rest2_16
                case' hy2_16 => (intro w hSw; (try dsimp only at hSw); go_simp; try (with_reducible rfl))
                (try simp only [Act.put, List.setIfInBounds_toArray, List.set_cons_zero, List.set_cons_succ])
                refine wpAnyH_take (i := 17) (v := ?vv2_17) (by rw [List.getElem?_toArray]; exact rfl) (by kernel_rfl) (by kernel_rfl) (by kernel_rfl) (by intro _ _ _ h; exact h) (Or.inl ⟨by rfl, ?hy2_17⟩) hHeld ?rest2_17
                case' hy2_17 => (intro w hSw; (try dsimp only at hSw); go_simp; try (with_reducible rfl))
                (try simp only [Act.put, List.setIfInBounds_toArray, List.set_cons_zero, List.set_cons_succ])
                refine wpAnyH_take (i := 18) (v := ?vv2_18) (by rw [List.getElem?_toArray]; exact rfl) (by kernel_rfl) (by kernel_rfl) (by kernel_rfl) (by intro _ _ _ h; exact h) (Or.inl ⟨by rfl, ?hy2_18⟩) hHeld ?rest2_18
                case' hy2_18 => (intro w hSw; (try dsimp only at hSw); go_simp; try (with_reducible rfl))
                (try simp only [Act.put, List.setIfInBounds_toArray, List.set_cons_zero, List.set_cons_succ])
                refine wpAnyH_ready (rs := [19]) (by kernel_rfl) (by simp) ?_
                refine AllReadyH.cons (by rw [List.getElem?_toArray]; exact rfl) (fun K hK => ?_) AllReadyH.nil
                go_simp
                go_at_call 37
                refine (l21Begins_b (s2.below BZ) (s1.below BZ)).mono ?_
                rintro e w' ⟨rfl, bq⟩
                replace BZ := below_step BZ bq
                rw [HP'.out]
                refine hK.out _ _ ?_ (fun hHeld => ?_)
                · exact hc _ BZ
                clear hK K
                (try simp only [Act.put, List.setIfInBounds_toArray, List.set_cons_zero, List.set_cons_succ])
                refine wpAnyH_take (i := 20) (v := ?vv2_20) (by rw [List.getElem?_toArray]; exact rfl) (by kernel_rfl) (by kernel_rfl) (by kernel_rfl) (by intro _ _ _ h; exact h) (Or.inl ⟨by rfl, ?hy2_20⟩) hHeld ?rest2_20
                case' hy2_20 => (intro w hSw; (try dsimp only at hSw); go_simp; try (with_reducible rfl))
                (try simp only [Act.put, List.setIfInBounds_toArray, List.set_cons_zero, List.set_cons_succ])
                refine wpAnyH_take (i := 21) (v := ?vv2_21) (by rw [List.getElem?_toArray]; exact rfl) (by kernel_rfl) (by kernel_rfl) (by kernel_rfl) (by intro _ _ _ h; exact h) (Or.inl ⟨by rfl, ?hy2_21⟩) hHeld ?rest2_21
                case' hy2_21 => (intro w hSw; (try dsimp only at hSw); go_simp; try (with_reducible rfl))
                (try simp only [Act.put, List.setIfInBounds_toArray, List.set_cons_zero, List.set_cons_succ])
                refine wpAnyH_done (by kernel_rfl) ?_ _
                go_wp2_with fail
                go_roundw
                case rel => exact ⟨j + 1, by go_num, by omega, by omega, HG.out, BZ⟩
                case measure => simp [intOf]; omega
            · have hb : begB xs ys = true := by rw [hpre, hp]; rfl
              have hag := HA.out.step HX.out HY.out hb
              have HG := hide hag; have HP := hide hp
              clear hag hb hpre hp
              go_wp2_with fail
              have BZ : Below w.heap.size w wr2.drew := BW.out.drew
              refine wp_region_held_drew (S := (fun W => W.cell? ⟨b, off + k, none⟩ = some (.slice B kk d) ∧ W.cell? ⟨b, off + j, none⟩ = some (.slice B' kk' d'))) (by kernel_rfl) ?_ (fun hHeld => ?_)
              · exact hc _ BZ
              refine wpAnyH_take (i := 0) (v := ?vv3_0) (by rw [List.getElem?_toArray]; exact rfl) (by kernel_rfl) (by kernel_rfl) (by kernel_rfl) (by intro _ _ _ h; exact h) (Or.inl ⟨by rfl, ?hy3_0⟩) hHeld ?rest3_0
              case' hy3_0 => (intro w hSw; (try dsimp only at hSw); go_simp; try (with_reducible rfl))
              (try simp only [Act.put, List.setIfInBounds_toArray, List.set_cons_zero, List.set_cons_succ])
              refine wpAnyH_take (i := 1) (v := ?vv3_1) (by rw [List.getElem?_toArray]; exact rfl) (by kernel_rfl) (by kernel_rfl) (by kernel_rfl) (by intro _ _ _ h; exact h) (Or.inl ⟨by rfl, ?hy3_1⟩) hHeld ?rest3_1
              case' hy3_1 => (intro w hSw; (try dsimp only at hSw); go_simp; try (with_reducible rfl))
              (try simp only [Act.put, List.setIfInBounds_toArray, List.set_cons_zero, List.set_cons_succ])
              refine wpAnyH_take (i := 2) (v := ?vv3_2) (by rw [List.getElem?_toArray]; exact rfl) (by kernel_rfl) (by kernel_rfl) (by kernel_rfl) (by intro _ _ _ h; exact h) (Or.inl ⟨by rfl, ?hy3_2⟩) hHeld ?rest3_2
              case' hy3_2 => (intro w hSw; (try dsimp only at hSw); go_simp; try (with_reducible rfl))
              (try simp only [Act.put, List.setIfInBounds_toArray, List.set_cons_zero, List.set_cons_succ])
              refine wpAnyH_take (i := 3) (v := ?vv3_3) (by rw [List.getElem?_toArray]; exact rfl) (by kernel_rfl) (by kernel_rfl) (by kernel_rfl) (by intro _ _ _ h; exact h) (Or.inl ⟨by rfl, ?hy3_3⟩) hHeld ?rest3_3
              case' hy3_3 => (intro w hSw; (try dsimp only at hSw); go_simp; try (with_reducible rfl))
              (try simp only [Act.put, List.setIfInBounds_toArray, List.set_cons_zero, List.set_cons_succ])
              refine wpAnyH_take (i := 4) (v := ?vv3_4) (by rw [List.getElem?_toArray]; exact rfl) (by kernel_rfl) (by kernel_rfl) (by kernel_rfl) (by intro _ _ _ h; exact h) (Or.inl ⟨by rfl, ?hy3_4⟩) hHeld ?rest3_4
              case' hy3_4 => (intro w hSw; (try dsimp only at hSw); go_simp; try (with_reducible rfl))
              (try simp only [Act.put, List.setIfInBounds_toArray, List.set_cons_zero, List.set_cons_succ])
              refine wpAnyH_take (i := 5) (v := ?vv3_5) (by rw [List.getElem?_toArray]; exact rfl) (by kernel_rfl) (by kernel_rfl) (by kernel_rfl) (by intro _ _ _ h; exact h) (Or.inl ⟨by rfl, ?hy3_5⟩) hHeld ?rest3_5
              case' hy3_5 => (intro w hSw; (try dsimp only at hSw); go_simp; try (with_reducible rfl))
              (try simp only [Act.put, List.setIfInBounds_toArray, List.set_cons_zero, List.set_cons_succ])
              refine wpAnyH_take (i := 6) (v := ?vv3_6) (by rw [List.getElem?_toArray]; exact rfl) (by kernel_rfl) (by kernel_rfl) (by kernel_rfl) (by intro _ _ _ h; exact h) (Or.inl ⟨by rfl, ?hy3_6⟩) hHeld ?rest3_6
              case' hy3_6 => (intro w hSw; (try dsimp only at hSw); go_simp; try (with_reducible rfl))
              (try simp only [Act.put, List.setIfInBounds_toArray, List.set_cons_zero, List.set_cons_succ])
              refine wpAnyH_take (i := 7) (v := ?vv3_7) (by rw [List.getElem?_toArray]; exact rfl) (by kernel_rfl) (by kernel_rfl) (by kernel_rfl) (by intro _ _ _ h; exact h) (Or.inl ⟨by rfl, ?hy3_7⟩) hHeld ?rest3_7
              case' hy3_7 => (intro w hSw; (try dsimp only at hSw); go_simp; try (with_reducible rfl))
              (try simp only [Act.put, List.setIfInBounds_toArray, List.set_cons_zero, List.set_cons_succ])
              refine wpAnyH_ready (rs := [8]) (by kernel_rfl) (by simp) ?_
              refine AllReadyH.cons (by rw [List.getElem?_toArray]; exact rfl) (fun K hK => ?_) AllReadyH.nil
              go_simp
              go_at_call 37
              refine (l21Begins_b (s1.below BZ) (s2.below BZ)).mono ?_
              rintro e w' ⟨rfl, bq⟩
              replace BZ := below_step BZ bq
              rw [HP.out]
              refine hK.out _ _ ?_ (fun hHeld => ?_)
              · exact hc _ BZ
              clear hK K
              (try simp only [Act.put, List.setIfInBounds_toArray, List.set_cons_zero, List.set_cons_succ])
              refine wpAnyH_take (i := 9) (v := ?vv3_9) (by rw [List.getElem?_toArray]; exact rfl) (by kernel_rfl) (by kernel_rfl) (by kernel_rfl) (by intro _ _ _ h; exact h) (Or.inl ⟨by rfl, ?hy3_9⟩) hHeld ?rest3_9
              case' hy3_9 => (intro w hSw; (try dsimp only at hSw); go_simp; try (with_reducible rfl))
              (try simp only [Act.put, List.setIfInBounds_toArray, List.set_cons_zero, List.set_cons_succ])
              refine wpAnyH_take (i := 10) (v := ?vv3_10) (by rw [List.getElem?_toArray]; exact rfl) (by kernel_rfl) (by kernel_rfl) (by kernel_rfl) (by intro _ _ _ h; exact h) (Or.inl ⟨by rfl, ?hy3_10⟩) hHeld ?rest3_10
              case' hy3_10 => (intro w hSw; (try dsimp only at hSw); go_simp; try (with_reducible rfl))
              (try simp only [Act.put, List.setIfInBounds_toArray, List.set_cons_zero, List.set_cons_succ])
              refine wpAnyH_take (i := 11) (by rw [List.getElem?_toArray]; exact rfl) (by kernel_rfl) (by kernel_rfl) (by kernel_rfl) (by intro _ _ _ h; exact h) (Or.inr ⟨by rfl, rfl⟩) hHeld ?_
              (try simp only [Act.put, List.setIfInBounds_toArray, List.set_cons_zero, List.set_cons_succ])
              refine wpAnyH_take (i := 12) (by rw [List.getElem?_toArray]; exact rfl) (by kernel_rfl) (by kernel_rfl) (by kernel_rfl) (by intro _ _ _ h; exact h) (Or.inr ⟨by rfl, rfl⟩) hHeld ?_
              (try simp only [Act.put, List.setIfInBounds_toArray, List.set_cons_zero, List.set_cons_succ])
              refine wpAnyH_take (i := 13) (by rw [List.getElem?_toArray]; exact rfl) (by kernel_rfl) (by kernel_rfl) (by kernel_rfl) (by intro _ _ _ h; exact h) (Or.inr ⟨by rfl, rfl⟩) hHeld ?_
              (try simp only [Act.put, List.setIfInBounds_toArray, List.set_cons_zero, List.set_cons_succ])
              refine wpAnyH_take (i := 14) (by rw [List.getElem?_toArray]; exact rfl) (by kernel_rfl) (by kernel_rfl) (by kernel_rfl) (by intro _ _ _ h; exact h) (Or.inr ⟨by rfl, rfl⟩) hHeld ?_
              (try simp only [Act.put, List.setIfInBounds_toArray, List.set_cons_zero, List.set_cons_succ])
              refine wpAnyH_take (i := 15) (by rw [List.getElem?_toArray]; exact rfl) (by kernel_rfl) (by kernel_rfl) (by kernel_rfl) (by intro _ _ _ h; exact h) (Or.inr ⟨by rfl, rfl⟩) hHeld ?_
              (try simp only [Act.put, List.setIfInBounds_toArray, List.set_cons_zero, List.set_cons_succ])
              refine wpAnyH_take (i := 16) (by rw [List.getElem?_toArray]; exact rfl) (by kernel_rfl) (by kernel_rfl) (by kernel_rfl) (by intro _ _ _ h; exact h) (Or.inr ⟨by rfl, rfl⟩) hHeld ?_
              (try simp only [Act.put, List.setIfInBounds_toArray, List.set_cons_zero, List.set_cons_succ])
              refine wpAnyH_take (i := 17) (by rw [List.getElem?_toArray]; exact rfl) (by kernel_rfl) (by kernel_rfl) (by kernel_rfl) (by intro _ _ _ h; exact h) (Or.inr ⟨by rfl, rfl⟩) hHeld ?_
              (try simp only [Act.put, List.setIfInBounds_toArray, List.set_cons_zero, List.set_cons_succ])
              refine wpAnyH_take (i := 18) (by rw [List.getElem?_toArray]; exact rfl) (by kernel_rfl) (by kernel_rfl) (by kernel_rfl) (by intro _ _ _ h; exact h) (Or.inr ⟨by rfl, rfl⟩) hHeld ?_
              (try simp only [Act.put, List.setIfInBounds_toArray, List.set_cons_zero, List.set_cons_succ])
              refine wpAnyH_take (i := 19) (by rw [List.getElem?_toArray]; exact rfl) (by kernel_rfl) (by kernel_rfl) (by kernel_rfl) (by intro _ _ _ h; exact h) (Or.inr ⟨by rfl, rfl⟩) hHeld ?_
              (try simp only [Act.put, List.setIfInBounds_toArray, List.set_cons_zero, List.set_cons_succ])
              refine wpAnyH_take (i := 20) (by rw [List.getElem?_toArray]; exact rfl) (by kernel_rfl) (by kernel_rfl) (by kernel_rfl) (by intro _ _ _ h; exact h) (Or.inr ⟨by rfl, rfl⟩) hHeld ?_
              (try simp only [Act.put, List.setIfInBounds_toArray, List.set_cons_zero, List.set_cons_succ])
              refine wpAnyH_take (i := 21) (v := ?vv3_21) (by rw [List.getElem?_toArray]; exact rfl) (by kernel_rfl) (by kernel_rfl) (by kernel_rfl) (by intro _ _ _ h; exact h) (Or.inl ⟨by rfl, ?hy3_21⟩) hHeld ?rest3_21
              case' hy3_21 => (intro w hSw; (try dsimp only at hSw); go_simp; try (with_reducible rfl))
              (try simp only [Act.put, List.setIfInBounds_toArray, List.set_cons_zero, List.set_cons_succ])
              refine wpAnyH_done (by kernel_rfl) ?_ _
              go_wp2_with fail
              go_roundw
              case rel => exact ⟨j + 1, by go_num, by omega, by omega, HG.out, BZ⟩
              case measure => simp [intOf]; omega
          · obtain rfl : j = n := by omega
            have hag := HA.out.next (by rw [hl.out]; omega)
            have HG := hide hag; clear hag
            go_wp2_with fail
            go_roundw
            case rel => exact ⟨k + 1, by go_num, by omega, HG.out, BW.out⟩
            case measure => simp [intOf]; omega
      · obtain rfl : k = n := by omega
        have hok := okP_yes V.out HA.out (by rw [hl.out]; omega)
        have hf := iff_yes hok
        have F := hide hf; clear hf hok
        go_wp2_with fail
        refine bodyPost_ret (v := .tuple #[.int .i64 (-1), .int .i64 (-1)]) (by simp [results, Tryd.results19, go_sem]) rfl ⟨-1, -1, true, rfl, rfl, (by have := F.out; simpa using this), BW.out⟩

set_option maxRecDepth 100000 in
set_option maxHeartbeats 4000000 in
theorem LongestList_c {A : Option Addr} {n c : Nat} {ls : Ls} {w : World} (hr : RL w A n ls) (hn : n ≤ 1048576) (hv : listsB ls = true) :
    Calls Tryd.prog 20 #[.slice A n c] w fun e w' => ∃ v m, e = .returned v ∧ SI w' v m (longL ls) ∧ Below w.heap.size w w' := by
  have hl := hide hr.1
  have V := hide hv; clear hv
  have B0 : Below w.heap.size w (w.alloc (.cells #[] 3)) := (Below.refl _ _).alloc (Nat.le_refl _) _
  have O0 := (OI.empty w).si
  have HB0 := hide B0; have HO0 := hide O0; clear B0 O0
  go_enter Tryd.func20, Tryd.ntmps20
  go_wp2_with fail
  go_loopw [3, 4] (fun u i wr => ∃ k : Nat, i = .int .i64 k ∧ k ≤ n ∧ SI wr u (longTo ls k).length (longTo ls k) ∧ Below w.heap.size w wr) (fun _ i _ => n - (intOf i).toNat)
  case atStart => exact ⟨0, rfl, Nat.zero_le _, HO0.out, HB0.out⟩
  case round =>
    clear HB0 HO0
    obtain ⟨k, rfl, hk, hu, bw⟩ := hrel
    obtain ⟨Au, cu, rfl⟩ := hu.shape
    have HU := hide hu; have BW := hide bw; clear hu bw
    by_cases hkn : k < n
    · obtain ⟨b, off, xs, B, kk, d, rfl, hbb, hx, q0, hkd, hk1, hri⟩ := hr.at_ hkn
      have s1 : SI w (.slice B kk d) kk xs := ⟨B, d, rfl, hkd, hk1, hri⟩
      have hxl := hri.len
      have HX := hide hx
      have k0 : (0 : Int) ≤ k := by omega
      have k2 : (k : Int) < n := by omega
      go_wp2_with fail
      refine (spec_ListsValid_c (hr.below BW.out) hn).mono ?_
      rintro e w2 ⟨rfl, b2⟩
      rw [V.out]
      have B2 := below_step BW.out b2
      have q0' := q0
      have e0 := (B2.cell (p := ⟨b, off + k, none⟩) hbb).trans q0
      have S1 := s1.below B2
      have U2 := hide (HU.out.below b2)
      clear hx q0 hri b2
      by_cases hlt : (longTo ls k).length < xs.length
      · have hy := longTo_yes HX.out hlt
        have HY := hide hy
        have hlt' : ((longTo ls k).length : Int) < (kk : Int) := by omega
        have oE := OI.empty w2
        have B3 : Below w2.heap.size w2 (w2.alloc (.cells #[] 3)) := (Below.refl _ _).alloc (Nat.le_refl _) _
        have e0a := (below_step B2 B3).cell (p := ⟨b, off + k, none⟩) hbb
        rw [q0'] at e0a
        have HB2 := hide B2
        clear hy B2
        go_wp2_with (at_builtin; refine wpList_appI rfl _ _ rfl rfl oE rfl (S1.alloc _) (by omega) (by simp) ?_; intro v5 w5 h5 hg5 hat5; have B5 := below_app B3 oE (Nat.le_refl _) hg5)
        simp only [Nat.zero_add, List.nil_append] at h5
        go_roundw
        case rel => exact ⟨k + 1, by go_num, by omega, by rw [HY.out, hxl]; exact h5.si, below_step HB2.out B5⟩
        case measure => simp [intOf]; omega
      · have hy := longTo_no HX.out hlt
        have HY := hide hy
        have hlt' : ¬ (((longTo ls k).length : Int) < (kk : Int)) := by omega
        clear hy
        go_wp2_with fail
        go_roundw
        case rel => exact ⟨k + 1, by go_num, by omega, by rw [HY.out]; exact U2.out, B2⟩
        case measure => simp [intOf]; omega
    · obtain rfl : k = n := by omega
      have hf : longTo ls k = longL ls := by unfold longL; rw [hl.out]
      have F := hide hf; clear hf
      go_wp2_with fail
      go_ret
      exact ⟨_, _, rfl, by rw [← F.out]; exact HU.out, BW.out⟩
set_option maxRecDepth 100000 in
set_option maxHeartbeats 2000000 in
theorem spec_OrderOfLists_c {A : Option Addr} {n c : Nat} {ls : Ls} {w : World} (hr : RL w A n ls) (hn : n ≤ 1048576) :
    Calls Tryd.prog 7 #[.slice A n c] w (OrdR ls w) := by
  go_enter Tryd.func7, Tryd.ntmps7
  go_wp2_with fail
  refine (spec_ListsAgree_c hr hn).mono ?_
  rintro e w2 ⟨i, k, ok, rfl, hi, hok, b2⟩
  have HO := hide hok; clear hok
  cases ok
  · have oE := hide (OI.empty w2).si
    have B3 := hide (b2.alloc b2.size (.cells #[] 3))
    go_wp2_with fail
    refine bodyPost_ret (v := .tuple #[.slice (some ⟨w2.heap.size, 0, none⟩) 0 0, .bool false]) (by simp [results, Tryd.results7, go_sem]) rfl ⟨_, 0, false, rfl, (by have := HO.out; simpa using this), oE.out, B3.out⟩
  · have hv : listsB ls = true := (HO.out.1 rfl).1
    go_wp2_with fail
    refine (LongestList_c (hr.below b2) hn hv).mono ?_
    rintro e w3 ⟨v3, m3, rfl, s3, b3⟩
    go_wp2_with fail
    refine bodyPost_ret (v := .tuple #[v3, .bool true]) (by simp [results, Tryd.results7, go_sem]) rfl ⟨v3, m3, true, rfl, (by have := HO.out; simpa using this), s3, below_step b2 b3⟩

end Go.Proofs.YtipmfpfmhgdgdaaDoor
