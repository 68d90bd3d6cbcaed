/- Merged (what the law reaches): FndL. -/
import Derived.Test.YtcfkemchekmjbaaGreatDoorVzj
import Derived.Deep.DeepCutAuto
import Derived.Deep.RegionHeld3
namespace Go.Proofs.YtcfkemchekmjbaaGreatDoor
open Go.RowKit
def FindR (w : World) (r : Option (List Int)) (e : Ending) (w' : World) : Prop := ∃ v k, e = .returned (.tuple #[v, .bool r.isSome]) ∧ SI w' v k (r.getD []) ∧ Below w.heap.size w w'
theorem find_none {G : Nat → Option (List Int)} : ∀ n, (∀ q, q < n → G q = none) → (List.range n).findSome? G = none
  | 0, _ => rfl
  | n + 1, h => by
    rw [List.range_succ, List.findSome?_append, find_none n (fun q hq => h q (by omega))]
    simp [h n (by omega)]
theorem find_hit {G : Nat → Option (List Int)} {u : List Int} : ∀ n k, k < n → (∀ q, q < k → G q = none) → G k = some u → (List.range n).findSome? G = some u
  | 0, k, hk, _, _ => by omega
  | n + 1, k, hk, h, hu => by
    rw [List.range_succ, List.findSome?_append]
    by_cases e : k < n
    · rw [find_hit n k e h hu]; rfl
    · obtain rfl : k = n := by omega
      rw [find_none k h]
      simp [hu]
set_option maxRecDepth 100000 in
set_option maxHeartbeats 8000000 in
theorem l12Find_c {ts : List Tx} (hk : ∀ t ∈ ts, ∀ o ∈ t.2.1, (o.1 = 1 ∨ o.1 = 2) ∧ 0 ≤ o.2.1 ∧ o.2.1 ≤ 2) (hsm : SmallT ts) {n : Nat} (_hn6 : n ≤ 6) : ∀ (f kb : Nat) (u v : Value) (bs rs : List Int) (A : Option Addr) (c : Nat) (w : World), (∀ x ∈ bs ++ rs, 0 ≤ x ∧ x < n) → kb + f ≤ 6 → RTs w A n ts → SI w u kb bs → SI w v f rs →
    Calls Tryz.prog 124 #[.slice A n c, u, v] w (FindR w (findF ts f bs rs)) := by
  have HK := hide hk
  clear hk
  intro f
  induction f with
  | zero =>
    intro kb u v bs rs A c w hin hkb hr hb hs
    have hl := hs.len
    obtain rfl : rs = [] := List.eq_nil_of_length_eq_zero hl
    have HIN := hide hin
    obtain ⟨Av, cv, rfl, _, _, _⟩ := hs
    obtain ⟨Ab, cb, rfl, hbc, hbm, hbr⟩ := hb
    have sb := hide (SI.of_args hbc hbm hbr)
    clear hin hl hbr
    cases hrun : runsF ts [0, 0, 0] bs
    · have HF := hide (findF_no hrun 0 [])
      have HR := hide hrun
      clear hrun
      go_enter Tryz.func124, Tryz.ntmps124
      go_wp2_with fail
      refine (l12Runs_c hr sb.out (fun x hx => HIN.out x (by simp [hx])) HK.out hsm).mono ?_
      rintro e w2 ⟨rfl, b2⟩
      rw [HR.out]
      go_wp2_with fail
      refine bodyPost_ret (v := .tuple #[.slice (some ⟨w2.heap.size, 0, none⟩) 0 0, .bool false]) (by simp [results, Tryz.results124, go_sem]) rfl ?_
      rw [HF.out]
      exact ⟨_, 0, rfl, (OI.empty w2).si, b2.alloc b2.size _⟩
    · have HF := hide (findF_end hrun 0)
      have HR := hide hrun
      clear hrun
      go_enter Tryz.func124, Tryz.ntmps124
      go_wp2_with fail
      refine (l12Runs_c hr sb.out (fun x hx => HIN.out x (by simp [hx])) HK.out hsm).mono ?_
      rintro e w2 ⟨rfl, b2⟩
      rw [HR.out]
      go_wp2_with fail
      refine bodyPost_ret (v := .tuple #[.slice Ab kb cb, .bool true]) (by simp [results, Tryz.results124, go_sem]) rfl ?_
      rw [HF.out]
      exact ⟨_, kb, rfl, sb.out.below b2, b2⟩
  | succ f ih =>
    intro kb u v bs rs A c w hin hkb hr hb hs
    have hl := hs.len
    have HIN := hide hin; have HL := hide hl
    obtain ⟨Av, cv, rfl, hvc, hvm, hvr⟩ := hs
    obtain ⟨Ab, cb, rfl, hbc, hbm, hbr⟩ := hb
    have sb := hide (SI.of_args hbc hbm hbr)
    have sv := SI.of_args hvc hvm hvr
    clear hin hbr
    have hf0 : ((f : Int) + 1 == 0) = false := by rw [beq_eq_false_iff_ne]; omega
    cases hrun : runsF ts [0, 0, 0] bs
    · have HF := hide (findF_no hrun (f + 1) rs)
      have HR := hide hrun
      clear hrun hl
      go_enter Tryz.func124, Tryz.ntmps124
      go_wp2_with fail
      refine (l12Runs_c hr sb.out (fun x hx => HIN.out x (by simp [hx])) HK.out hsm).mono ?_
      rintro e w2 ⟨rfl, b2⟩
      rw [HR.out]
      go_wp2_with fail
      refine bodyPost_ret (v := .tuple #[.slice (some ⟨w2.heap.size, 0, none⟩) 0 0, .bool false]) (by simp [results, Tryz.results124, go_sem]) rfl ?_
      rw [HF.out]
      exact ⟨_, 0, rfl, (OI.empty w2).si, b2.alloc b2.size _⟩
    · have hfe : findF ts (f + 1) bs rs = (List.range rs.length).findSome? fun k => findF ts f (bs ++ [rs.getD k 0]) (rs.eraseIdx k) := by
        conv => lhs; unfold findF
        rw [if_pos hrun, if_neg (fun e => by rw [e] at hl; simp at hl)]
      rw [hl] at hfe
      have HF := hide hfe
      have HR := hide hrun
      clear hrun hl hfe
      go_enter Tryz.func124, Tryz.ntmps124
      go_wp2_with fail
      refine (l12Runs_c hr sb.out (fun x hx => HIN.out x (by simp [hx])) HK.out hsm).mono ?_
      rintro e w2 ⟨rfl, b2⟩
      rw [HR.out]
      have B2 := hide b2
      clear b2
      go_wp2_with fail
      go_loopw [8] (fun i W => ∃ k : Nat, i = .int .i64 k ∧ k ≤ f + 1 ∧ (∀ q, q < k → findF ts f (bs ++ [rs.getD q 0]) (rs.eraseIdx q) = none) ∧ Below w.heap.size w W) (fun i _ => f + 1 - (intOf i).toNat)
      case atStart => exact ⟨0, rfl, Nat.zero_le _, fun q h => by omega, B2.out⟩
      case round =>
        clear B2
        obtain ⟨k, rfl, hkf, hno, bw⟩ := hrel
        rename World => wr
        have HNO := hide hno; have BW := hide bw
        clear hno
        by_cases hkq : k < f + 1
        · have hs1 := sv.below bw
          obtain ⟨A1, hr1, sa⟩ := sliceS_hi hs1 (show k ≤ f + 1 by omega)
          obtain ⟨A2, c2, hr2, sb2⟩ := sliceS_lo hs1 (show k + 1 ≤ f + 1 by omega)
          rw [Nat.add_sub_add_right] at hr2 sb2
          have SA := sa.below (Below.refl wr.heap.size wr).drew
          have SB := sb2.below (Below.refl wr.heap.size wr).drew
          have k0 : (0 : Int) ≤ k := by omega
          have k2 : (k : Int) < ((f + 1 : Nat) : Int) := by omega
          have k3 : (k : Int) + 1 ≤ ((f + 1 : Nat) : Int) := by omega
          have hr2' : ∀ w', (Instr.slice 24 (.slice Av (f + 1) cv) (some (.int .i64 ((k : Int) + 1))) none none).run Tryz.prog w' = .ok (.slice A2 (f - k) c2) w' := fun w' => by rw [show ((k : Int) + 1) = ((k + 1 : Nat) : Int) by omega]; exact hr2 w'
          clear hr2
          have hwr : IntKind.i64.wrap ((k : Int) + 1) = (k : Int) + 1 := by rw [IntWalk.i64_left, IntWalk.wrap64_in _ (by omega)]
          obtain ⟨b, off, x, rfl, hbb, hx, hc⟩ := hvr.at_ hkq
          have HX := hide hx; have HC := hide hc
          clear sa sb2 hs1 bw hx hc
          go_upto_region 8 with fail
          refine wp_region_held_drew (S := (fun _ => True)) (by kernel_rfl) ?_ (fun hHeld => ?_)
          · exact trivial
          refine wpAnyH_take (i := 1) (v := ?vv1_1) (by rw [List.getElem?_toArray]; exact rfl) (by kernel_rfl) (by kernel_rfl) (by kernel_rfl) (by intro _ _ _ h; exact h) (Or.inl ⟨by rfl, ?hy1_1⟩) hHeld ?rest1_1
          case' hy1_1 => (intro w hSw; (try dsimp only at hSw); go_simp; try (with_reducible rfl))
          (try simp only [Act.put, List.setIfInBounds_toArray, List.set_cons_zero, List.set_cons_succ])
          refine wpAnyH_take (i := 2) (v := ?vv1_2) (by rw [List.getElem?_toArray]; exact rfl) (by kernel_rfl) (by kernel_rfl) (by kernel_rfl) (by intro _ _ _ h; exact h) (Or.inl ⟨by rfl, ?hy1_2⟩) hHeld ?rest1_2
          case' hy1_2 => (intro w hSw; (try dsimp only at hSw); go_simp; try (with_reducible rfl))
          (try simp only [Act.put, List.setIfInBounds_toArray, List.set_cons_zero, List.set_cons_succ])
          refine wpAnyH_take (i := 3) (v := ?vv1_3) (by rw [List.getElem?_toArray]; exact rfl) (by kernel_rfl) (by kernel_rfl) (by kernel_rfl) (by intro _ _ _ h; exact h) (Or.inl ⟨by rfl, ?hy1_3⟩) hHeld ?rest1_3
          case' hy1_3 => (intro w hSw; (try dsimp only at hSw); go_simp; try (with_reducible rfl))
          (try simp only [Act.put, List.setIfInBounds_toArray, List.set_cons_zero, List.set_cons_succ])
          refine wpAnyH_take (i := 5) (v := ?vv1_5) (by rw [List.getElem?_toArray]; exact rfl) (by kernel_rfl) (by kernel_rfl) (by kernel_rfl) (by intro _ _ _ h; exact h) (Or.inl ⟨by rfl, ?hy1_5⟩) hHeld ?rest1_5
          case' hy1_5 => (intro w hSw; (try dsimp only at hSw); go_simp; try (with_reducible rfl))
          (try simp only [Act.put, List.setIfInBounds_toArray, List.set_cons_zero, List.set_cons_succ])
          refine wpAnyH_take (i := 6) (v := ?vv1_6) (by rw [List.getElem?_toArray]; exact rfl) (by kernel_rfl) (by kernel_rfl) (by kernel_rfl) (by intro _ _ _ h; exact h) (Or.inl ⟨by rfl, ?hy1_6⟩) hHeld ?rest1_6
          case' hy1_6 => (intro w hSw; (try dsimp only at hSw); go_simp; try (with_reducible rfl))
          (try simp only [Act.put, List.setIfInBounds_toArray, List.set_cons_zero, List.set_cons_succ])
          refine wpAnyH_take (i := 7) (v := ?vv1_7) (by rw [List.getElem?_toArray]; exact rfl) (by kernel_rfl) (by kernel_rfl) (by kernel_rfl) (by intro _ _ _ h; exact h) (Or.inl ⟨by rfl, ?hy1_7⟩) hHeld ?rest1_7
          case' hy1_7 => (intro w hSw; (try dsimp only at hSw); go_simp; try (with_reducible rfl))
          (try simp only [Act.put, List.setIfInBounds_toArray, List.set_cons_zero, List.set_cons_succ])
          refine wpAnyH_take (i := 8) (v := ?vv1_8) (by rw [List.getElem?_toArray]; exact rfl) (by kernel_rfl) (by kernel_rfl) (by kernel_rfl) (by intro _ _ _ h; exact h) (Or.inl ⟨by rfl, ?hy1_8⟩) hHeld ?rest1_8
          case' hy1_8 => (intro w hSw; (try dsimp only at hSw); go_simp; try (with_reducible rfl))
          (try simp only [Act.put, List.setIfInBounds_toArray, List.set_cons_zero, List.set_cons_succ])
          refine wpAnyH_ready (rs := [0]) (by kernel_rfl) (by simp) ?_
          refine AllReadyH.cons (by rw [List.getElem?_toArray]; exact rfl) (fun K hK => ?_) AllReadyH.nil
          go_simp
          have oX := OI.empty wr.drew
          have b1 : Below wr.drew.heap.size wr.drew (wr.drew.alloc (.cells #[] 3)) := (Below.refl _ _).alloc (Nat.le_refl _) _
          refine hK.out _ _ ?_ (fun hHeld => ?_)
          · exact trivial
          clear hK K
          (try simp only [Act.put, List.setIfInBounds_toArray, List.set_cons_zero, List.set_cons_succ])
          refine wpAnyH_ready (rs := [4]) (by kernel_rfl) (by simp) ?_
          refine AllReadyH.cons (by rw [List.getElem?_toArray]; exact rfl) (fun K hK => ?_) AllReadyH.nil
          obtain ⟨v1, w1, hrun, o1, g1⟩ := runI 24 oX (SA.below b1) (by omega) b1.size
          have b1' := below_of_grown b1 g1 b1.size (oX.grown_le (Nat.le_refl _))
          refine wp_append_stepO rfl _ _ rfl rfl rfl hrun ?_
          clear b1
          have b1 := b1'
          clear b1' hrun
          refine hK.out _ _ ?_ (fun hHeld => ?_)
          · exact trivial
          clear hK K
          (try simp only [Act.put, List.setIfInBounds_toArray, List.set_cons_zero, List.set_cons_succ])
          refine wpAnyH_ready (rs := [9]) (by kernel_rfl) (by simp) ?_
          refine AllReadyH.cons (by rw [List.getElem?_toArray]; exact rfl) (fun K hK => ?_) AllReadyH.nil
          obtain ⟨v2, w5, hrun, o2, g2⟩ := runI 24 o1 (SB.below b1) (by omega) b1.size
          have b2 := below_of_grown b1 g2 b1.size (o1.grown_le (Nat.le_refl _))
          refine wp_append_stepO rfl _ _ rfl rfl rfl hrun ?_
          refine hK.out _ _ ?_ (fun hHeld => ?_)
          · exact trivial
          clear hK K
          (try simp only [Act.put, List.setIfInBounds_toArray, List.set_cons_zero, List.set_cons_succ])
          refine wpAnyH_take (i := 10) (v := ?vv1_10) (by rw [List.getElem?_toArray]; exact rfl) (by kernel_rfl) (by kernel_rfl) (by kernel_rfl) (by intro _ _ _ h; exact h) (Or.inl ⟨by rfl, ?hy1_10⟩) hHeld ?rest1_10
          case' hy1_10 => (intro w hSw; (try dsimp only at hSw); go_simp; try (with_reducible rfl))
          (try simp only [Act.put, List.setIfInBounds_toArray, List.set_cons_zero, List.set_cons_succ])
          refine wpAnyH_done (by kernel_rfl) ?_ _
          have hm2 : (rs.eraseIdx k).length = f := by rw [List.length_eraseIdx_of_lt (by rw [HL.out]; omega), HL.out]; omega
          have sL : SI w5 v2 f (rs.eraseIdx k) := by
            have h := o2.si
            rw [List.nil_append, erase_take, show 0 + k + (f - k) = f by omega] at h
            exact h
          have B5 := hide (below_step BW.out.drew b2)
          clear o1 o2 g1 g2 b1 oX hrun SA SB hr1 hr2'
          have hr5 := hr.below B5.out
          have sB := sb.out.below B5.out
          have hxd : rs.getD k 0 = x := by rw [List.getD_eq_getElem?_getD, HX.out]; rfl
          have HXD := hide hxd
          have HIN9 := hide (show ∀ y ∈ (bs ++ [x]) ++ rs.eraseIdx k, 0 ≤ y ∧ y < n from fun y hy => by
            refine HIN.out y ?_
            rcases List.mem_append.1 hy with h | h
            · rcases List.mem_append.1 h with h | h
              · exact List.mem_append_left _ h
              · simp at h; subst h; exact List.mem_append_right _ (List.mem_of_getElem? HX.out)
            · exact List.mem_append_right _ (List.mem_of_mem_eraseIdx h))
          have hkb2 : kb + 1 + f ≤ 6 := by omega
          have e5 := (B5.out.cell (p := ⟨b, off + k, none⟩) hbb).trans HC.out
          have hkeep : ∀ W, Below w5.heap.size w5 W → W.cell? ⟨b, off + k, none⟩ = some (.int .i64 x) := fun W h => ((B5.out.trans (h.mono B5.out.size)).cell (p := ⟨b, off + k, none⟩) hbb).trans HC.out
          have BX : Below w5.heap.size w5 w5.drew := (Below.refl _ _).drew
          clear hxd b2 hvr hm2
          go_upto_region 9 with fail
          clear e5
          go_cut [10, 11] (fun s1 s2 wx => ∃ k9 : Nat, s2 = .bool (findF ts f (bs ++ [x]) (rs.eraseIdx k)).isSome ∧ True ∧ SI wx s1 k9 ((findF ts f (bs ++ [x]) (rs.eraseIdx k)).getD []) ∧ Below w5.heap.size w5 wx)
          case first =>
            refine wp_region_held_drew (S := (fun W => W.cell? ⟨b, off + k, none⟩ = some (.int .i64 x))) (by kernel_rfl) ?_ (fun hHeld => ?_)
            · exact hkeep _ BX
            refine wpAnyH_take (i := 0) (v := ?vv51_0) (by rw [List.getElem?_toArray]; exact rfl) (by kernel_rfl) (by kernel_rfl) (by kernel_rfl) (by intro _ _ _ h; exact h) (Or.inl ⟨by rfl, ?hy51_0⟩) hHeld ?rest51_0
            case' hy51_0 => (intro w hSw; (try dsimp only at hSw); go_simp; try (with_reducible rfl))
            (try simp only [Act.put, List.setIfInBounds_toArray, List.set_cons_zero, List.set_cons_succ])
            refine wpAnyH_take (i := 2) (v := ?vv51_2) (by rw [List.getElem?_toArray]; exact rfl) (by kernel_rfl) (by kernel_rfl) (by kernel_rfl) (by intro _ _ _ h; exact h) (Or.inl ⟨by rfl, ?hy51_2⟩) hHeld ?rest51_2
            case' hy51_2 => (intro w hSw; (try dsimp only at hSw); go_simp; try (with_reducible rfl))
            (try simp only [Act.put, List.setIfInBounds_toArray, List.set_cons_zero, List.set_cons_succ])
            refine wpAnyH_take (i := 4) (v := ?vv51_4) (by rw [List.getElem?_toArray]; exact rfl) (by kernel_rfl) (by kernel_rfl) (by kernel_rfl) (by intro _ _ _ h; exact h) (Or.inl ⟨by rfl, ?hy51_4⟩) hHeld ?rest51_4
            case' hy51_4 => (intro w hSw; (try dsimp only at hSw); go_simp; try (with_reducible rfl))
            (try simp only [Act.put, List.setIfInBounds_toArray, List.set_cons_zero, List.set_cons_succ])
            refine wpAnyH_take (i := 5) (v := ?vv51_5) (by rw [List.getElem?_toArray]; exact rfl) (by kernel_rfl) (by kernel_rfl) (by kernel_rfl) (by intro _ _ _ h; exact h) (Or.inl ⟨by rfl, ?hy51_5⟩) hHeld ?rest51_5
            case' hy51_5 => (intro w hSw; (try dsimp only at hSw); go_simp; try (with_reducible rfl))
            (try simp only [Act.put, List.setIfInBounds_toArray, List.set_cons_zero, List.set_cons_succ])
            refine wpAnyH_take (i := 6) (v := ?vv51_6) (by rw [List.getElem?_toArray]; exact rfl) (by kernel_rfl) (by kernel_rfl) (by kernel_rfl) (by intro _ _ _ h; exact h) (Or.inl ⟨by rfl, ?hy51_6⟩) hHeld ?rest51_6
            case' hy51_6 => (intro w hSw; (try dsimp only at hSw); go_simp; try (with_reducible rfl))
            (try simp only [Act.put, List.setIfInBounds_toArray, List.set_cons_zero, List.set_cons_succ])
            refine wpAnyH_take (i := 7) (v := ?vv51_7) (by rw [List.getElem?_toArray]; exact rfl) (by kernel_rfl) (by kernel_rfl) (by kernel_rfl) (by intro _ _ _ h; exact h) (Or.inl ⟨by rfl, ?hy51_7⟩) hHeld ?rest51_7
            case' hy51_7 => (intro w hSw; (try dsimp only at hSw); go_simp; try (with_reducible rfl))
            (try simp only [Act.put, List.setIfInBounds_toArray, List.set_cons_zero, List.set_cons_succ])
            refine wpAnyH_take (i := 10) (v := ?vv51_10) (by rw [List.getElem?_toArray]; exact rfl) (by kernel_rfl) (by kernel_rfl) (by kernel_rfl) (by intro _ _ _ h; exact h) (Or.inl ⟨by rfl, ?hy51_10⟩) hHeld ?rest51_10
            case' hy51_10 => (intro w hSw; (try dsimp only at hSw); go_simp; try (with_reducible rfl))
            (try simp only [Act.put, List.setIfInBounds_toArray, List.set_cons_zero, List.set_cons_succ])
            refine wpAnyH_ready (rs := [1, 8]) (by kernel_rfl) (by simp) ?_
            refine AllReadyH.cons (by rw [List.getElem?_toArray]; exact rfl) (fun K hK => ?_) (AllReadyH.cons (by rw [List.getElem?_toArray]; exact rfl) (fun K hK => ?_) AllReadyH.nil)
            · go_simp
              obtain ⟨W, hW⟩ : ∃ W, (w5.alloc (.cells #[] 3)).drew = W := ⟨_, rfl⟩
              obtain ⟨gE, hg⟩ : ∃ g, w5.heap.size = g := ⟨_, rfl⟩
              have bW : Below w5.heap.size w5 W := by rw [← hW]; exact ((Below.refl _ _).alloc (Nat.le_refl _) _).drew
              have oE : OI W w5.heap.size (.slice (some ⟨gE, 0, none⟩) 0 0) 0 [] := by rw [← hW, ← hg]; exact (OI.empty w5).drew
              clear BX
              have BX := bW
              rw [hW]
              (try rw [hg])
              clear bW hW hg
              refine hK.out _ _ ?_ (fun hHeld => ?_)
              · exact hkeep _ BX
              clear hK K
              (try simp only [Act.put, List.setIfInBounds_toArray, List.set_cons_zero, List.set_cons_succ])
              refine wpAnyH_ready (rs := [3, 8]) (by kernel_rfl) (by simp) ?_
              refine AllReadyH.cons (by rw [List.getElem?_toArray]; exact rfl) (fun K hK => ?_) (AllReadyH.cons (by rw [List.getElem?_toArray]; exact rfl) (fun K hK => ?_) AllReadyH.nil)
              · obtain ⟨vB, WB, hrun, oB, gB⟩ := runI 24 oE (sB.below BX) (by omega) BX.size
                have BA := below_of_grown BX gB BX.size (oE.grown_le (Nat.le_refl _))
                clear BX oE
                have BX := BA
                rw [Nat.zero_add, List.nil_append] at oB
                clear BA gB
                refine wp_append_stepO rfl _ _ rfl rfl rfl hrun ?_
                clear hrun
                refine hK.out _ _ ?_ (fun hHeld => ?_)
                · exact hkeep _ BX
                clear hK K
                (try simp only [Act.put, List.setIfInBounds_toArray, List.set_cons_zero, List.set_cons_succ])
                refine wpAnyH_ready (rs := [8]) (by kernel_rfl) (by simp) ?_
                refine AllReadyH.cons (by rw [List.getElem?_toArray]; exact rfl) (fun K hK => ?_) AllReadyH.nil
                go_simp
                obtain ⟨W8, hW⟩ : ∃ W8, WB.alloc (.cells #[.int .i64 x] 3) = W8 := ⟨_, rfl⟩
                obtain ⟨gX, hg⟩ : ∃ g, WB.heap.size = g := ⟨_, rfl⟩
                have bW : Below WB.heap.size WB W8 := by rw [← hW]; exact (Below.refl _ _).alloc (Nat.le_refl _) _
                have oX : OI W8 w5.heap.size (.slice (some ⟨gX, 0, none⟩) 1 1) 1 [x] := by rw [← hW, ← hg]; exact (OI.of_blk (Blk.new WB 3 #[.int .i64 x]) (Nat.le_refl _) (xs := [x]) (n := 1) rfl rfl (by omega)).mono BX.size
                replace oB := oB.below bW
                replace BX := below_step BX bW
                rw [hW]
                (try rw [hg])
                clear bW hW hg
                refine hK.out _ _ ?_ (fun hHeld => ?_)
                · exact hkeep _ BX
                clear hK K
                (try simp only [Act.put, List.setIfInBounds_toArray, List.set_cons_zero, List.set_cons_succ])
                refine wpAnyH_ready (rs := [9]) (by kernel_rfl) (by simp) ?_
                refine AllReadyH.cons (by rw [List.getElem?_toArray]; exact rfl) (fun K hK => ?_) AllReadyH.nil
                obtain ⟨vC, WC, hrun, oC, gC⟩ := runI 24 oB oX.si (by omega) BX.size
                have BA := below_of_grown BX gC BX.size (oB.grown_le (Nat.le_refl _))
                clear BX
                have BX := BA
                clear BA gC oB oX
                refine wp_append_stepO rfl _ _ rfl rfl rfl hrun ?_
                clear hrun
                refine hK.out _ _ ?_ (fun hHeld => ?_)
                · exact hkeep _ BX
                clear hK K
                (try simp only [Act.put, List.setIfInBounds_toArray, List.set_cons_zero, List.set_cons_succ])
                refine wpAnyH_ready (rs := [11]) (by kernel_rfl) (by simp) ?_
                refine AllReadyH.cons (by rw [List.getElem?_toArray]; exact rfl) (fun K hK => ?_) AllReadyH.nil
                go_simp
                go_at_call 124
                refine (ih _ _ _ _ _ _ _ WC HIN9.out hkb2 (hr5.below BX) oC.si (sL.below BX)).mono ?_
                rintro e W9 ⟨v9, k9, rfl, s9, b9⟩
                replace BX := below_step BX b9
                refine hK.out _ _ ?_ (fun hHeld => ?_)
                · exact hkeep _ BX
                clear hK K
                (try simp only [Act.put, List.setIfInBounds_toArray, List.set_cons_zero, List.set_cons_succ])
                refine wpAnyH_take (i := 12) (v := ?vv52_12) (by rw [List.getElem?_toArray]; exact rfl) (by kernel_rfl) (by kernel_rfl) (by kernel_rfl) (by intro _ _ _ h; exact h) (Or.inl ⟨by rfl, ?hy52_12⟩) hHeld ?rest52_12
                case' hy52_12 => (intro w hSw; (try dsimp only at hSw); go_simp; try (with_reducible rfl))
                (try simp only [Act.put, List.setIfInBounds_toArray, List.set_cons_zero, List.set_cons_succ])
                refine wpAnyH_take (i := 13) (v := ?vv52_13) (by rw [List.getElem?_toArray]; exact rfl) (by kernel_rfl) (by kernel_rfl) (by kernel_rfl) (by intro _ _ _ h; exact h) (Or.inl ⟨by rfl, ?hy52_13⟩) hHeld ?rest52_13
                case' hy52_13 => (intro w hSw; (try dsimp only at hSw); go_simp; try (with_reducible rfl))
                (try simp only [Act.put, List.setIfInBounds_toArray, List.set_cons_zero, List.set_cons_succ])
                refine wpAnyH_take (i := 14) (v := ?vv52_14) (by rw [List.getElem?_toArray]; exact rfl) (by kernel_rfl) (by kernel_rfl) (by kernel_rfl) (by intro _ _ _ h; exact h) (Or.inl ⟨by rfl, ?hy52_14⟩) hHeld ?rest52_14
                case' hy52_14 => (intro w hSw; (try dsimp only at hSw); go_simp; try (with_reducible rfl))
                (try simp only [Act.put, List.setIfInBounds_toArray, List.set_cons_zero, List.set_cons_succ])
                refine wpAnyH_take (i := 15) (v := ?vv52_15) (by rw [List.getElem?_toArray]; exact rfl) (by kernel_rfl) (by kernel_rfl) (by kernel_rfl) (by intro _ _ _ h; exact h) (Or.inl ⟨by rfl, ?hy52_15⟩) hHeld ?rest52_15
                case' hy52_15 => (intro w hSw; (try dsimp only at hSw); go_simp; try (with_reducible rfl))
                (try simp only [Act.put, List.setIfInBounds_toArray, List.set_cons_zero, List.set_cons_succ])
                refine wpAnyH_take (i := 16) (v := ?vv52_16) (by rw [List.getElem?_toArray]; exact rfl) (by kernel_rfl) (by kernel_rfl) (by kernel_rfl) (by intro _ _ _ h; exact h) (Or.inl ⟨by rfl, ?hy52_16⟩) hHeld ?rest52_16
                case' hy52_16 => (intro w hSw; (try dsimp only at hSw); go_simp; try (with_reducible rfl))
                (try simp only [Act.put, List.setIfInBounds_toArray, List.set_cons_zero, List.set_cons_succ])
                refine wpAnyH_done (by kernel_rfl) ?_ _
                go_wp2_with fail
                go_meet
                case rel => exact ⟨k9, rfl, trivial, s9, BX⟩
              · go_simp
                obtain ⟨W8, hW⟩ : ∃ W8, W.alloc (.cells #[.int .i64 x] 3) = W8 := ⟨_, rfl⟩
                obtain ⟨gX, hg⟩ : ∃ g, W.heap.size = g := ⟨_, rfl⟩
                have bW : Below W.heap.size W W8 := by rw [← hW]; exact (Below.refl _ _).alloc (Nat.le_refl _) _
                have oX : OI W8 w5.heap.size (.slice (some ⟨gX, 0, none⟩) 1 1) 1 [x] := by rw [← hW, ← hg]; exact (OI.of_blk (Blk.new W 3 #[.int .i64 x]) (Nat.le_refl _) (xs := [x]) (n := 1) rfl rfl (by omega)).mono BX.size
                have hne : gX ≠ gE := by have := (World.ownsRow.lt oE.1 gE rfl).2; omega
                replace oE := oE.below bW
                replace BX := below_step BX bW
                rw [hW]
                (try rw [hg])
                clear bW hW hg
                refine hK.out _ _ ?_ (fun hHeld => ?_)
                · exact hkeep _ BX
                clear hK K
                (try simp only [Act.put, List.setIfInBounds_toArray, List.set_cons_zero, List.set_cons_succ])
                refine wpAnyH_ready (rs := [3]) (by kernel_rfl) (by simp) ?_
                refine AllReadyH.cons (by rw [List.getElem?_toArray]; exact rfl) (fun K hK => ?_) AllReadyH.nil
                obtain ⟨vB, WB, hrun, oB, gB⟩ := runI 24 oE (sB.below BX) (by omega) BX.size
                have BA := below_of_grown BX gB BX.size (oE.grown_le (Nat.le_refl _))
                have oX2 := oX.grown gB (.inr (fun e => hne (by injection e)))
                clear BX oE oX
                have BX := BA
                have oX := oX2
                rw [Nat.zero_add, List.nil_append] at oB
                clear BA gB oX2
                refine wp_append_stepO rfl _ _ rfl rfl rfl hrun ?_
                clear hrun
                refine hK.out _ _ ?_ (fun hHeld => ?_)
                · exact hkeep _ BX
                clear hK K
                (try simp only [Act.put, List.setIfInBounds_toArray, List.set_cons_zero, List.set_cons_succ])
                refine wpAnyH_ready (rs := [9]) (by kernel_rfl) (by simp) ?_
                refine AllReadyH.cons (by rw [List.getElem?_toArray]; exact rfl) (fun K hK => ?_) AllReadyH.nil
                obtain ⟨vC, WC, hrun, oC, gC⟩ := runI 24 oB oX.si (by omega) BX.size
                have BA := below_of_grown BX gC BX.size (oB.grown_le (Nat.le_refl _))
                clear BX
                have BX := BA
                clear BA gC oB oX
                refine wp_append_stepO rfl _ _ rfl rfl rfl hrun ?_
                clear hrun
                refine hK.out _ _ ?_ (fun hHeld => ?_)
                · exact hkeep _ BX
                clear hK K
                (try simp only [Act.put, List.setIfInBounds_toArray, List.set_cons_zero, List.set_cons_succ])
                refine wpAnyH_ready (rs := [11]) (by kernel_rfl) (by simp) ?_
                refine AllReadyH.cons (by rw [List.getElem?_toArray]; exact rfl) (fun K hK => ?_) AllReadyH.nil
                go_simp
                go_at_call 124
                refine (ih _ _ _ _ _ _ _ WC HIN9.out hkb2 (hr5.below BX) oC.si (sL.below BX)).mono ?_
                rintro e W9 ⟨v9, k9, rfl, s9, b9⟩
                replace BX := below_step BX b9
                refine hK.out _ _ ?_ (fun hHeld => ?_)
                · exact hkeep _ BX
                clear hK K
                (try simp only [Act.put, List.setIfInBounds_toArray, List.set_cons_zero, List.set_cons_succ])
                refine wpAnyH_take (i := 12) (v := ?vv53_12) (by rw [List.getElem?_toArray]; exact rfl) (by kernel_rfl) (by kernel_rfl) (by kernel_rfl) (by intro _ _ _ h; exact h) (Or.inl ⟨by rfl, ?hy53_12⟩) hHeld ?rest53_12
                case' hy53_12 => (intro w hSw; (try dsimp only at hSw); go_simp; try (with_reducible rfl))
                (try simp only [Act.put, List.setIfInBounds_toArray, List.set_cons_zero, List.set_cons_succ])
                refine wpAnyH_take (i := 13) (v := ?vv53_13) (by rw [List.getElem?_toArray]; exact rfl) (by kernel_rfl) (by kernel_rfl) (by kernel_rfl) (by intro _ _ _ h; exact h) (Or.inl ⟨by rfl, ?hy53_13⟩) hHeld ?rest53_13
                case' hy53_13 => (intro w hSw; (try dsimp only at hSw); go_simp; try (with_reducible rfl))
                (try simp only [Act.put, List.setIfInBounds_toArray, List.set_cons_zero, List.set_cons_succ])
                refine wpAnyH_take (i := 14) (v := ?vv53_14) (by rw [List.getElem?_toArray]; exact rfl) (by kernel_rfl) (by kernel_rfl) (by kernel_rfl) (by intro _ _ _ h; exact h) (Or.inl ⟨by rfl, ?hy53_14⟩) hHeld ?rest53_14
                case' hy53_14 => (intro w hSw; (try dsimp only at hSw); go_simp; try (with_reducible rfl))
                (try simp only [Act.put, List.setIfInBounds_toArray, List.set_cons_zero, List.set_cons_succ])
                refine wpAnyH_take (i := 15) (v := ?vv53_15) (by rw [List.getElem?_toArray]; exact rfl) (by kernel_rfl) (by kernel_rfl) (by kernel_rfl) (by intro _ _ _ h; exact h) (Or.inl ⟨by rfl, ?hy53_15⟩) hHeld ?rest53_15
                case' hy53_15 => (intro w hSw; (try dsimp only at hSw); go_simp; try (with_reducible rfl))
                (try simp only [Act.put, List.setIfInBounds_toArray, List.set_cons_zero, List.set_cons_succ])
                refine wpAnyH_take (i := 16) (v := ?vv53_16) (by rw [List.getElem?_toArray]; exact rfl) (by kernel_rfl) (by kernel_rfl) (by kernel_rfl) (by intro _ _ _ h; exact h) (Or.inl ⟨by rfl, ?hy53_16⟩) hHeld ?rest53_16
                case' hy53_16 => (intro w hSw; (try dsimp only at hSw); go_simp; try (with_reducible rfl))
                (try simp only [Act.put, List.setIfInBounds_toArray, List.set_cons_zero, List.set_cons_succ])
                refine wpAnyH_done (by kernel_rfl) ?_ _
                go_wp2_with fail
                go_meet
                case rel => exact ⟨k9, rfl, trivial, s9, BX⟩
            · go_simp
              obtain ⟨W, hW⟩ : ∃ W, (w5.alloc (.cells #[.int .i64 x] 3)).drew = W := ⟨_, rfl⟩
              obtain ⟨gX, hg⟩ : ∃ g, w5.heap.size = g := ⟨_, rfl⟩
              have bW : Below w5.heap.size w5 W := by rw [← hW]; exact ((Below.refl _ _).alloc (Nat.le_refl _) _).drew
              have oX : OI W w5.heap.size (.slice (some ⟨gX, 0, none⟩) 1 1) 1 [x] := by rw [← hW, ← hg]; exact (OI.of_blk (Blk.new w5 3 #[.int .i64 x]) (Nat.le_refl _) (xs := [x]) (n := 1) rfl rfl (by omega)).drew
              clear BX
              have BX := bW
              rw [hW]
              (try rw [hg])
              clear bW hW hg
              refine hK.out _ _ ?_ (fun hHeld => ?_)
              · exact hkeep _ BX
              clear hK K
              (try simp only [Act.put, List.setIfInBounds_toArray, List.set_cons_zero, List.set_cons_succ])
              refine wpAnyH_ready (rs := [1]) (by kernel_rfl) (by simp) ?_
              refine AllReadyH.cons (by rw [List.getElem?_toArray]; exact rfl) (fun K hK => ?_) AllReadyH.nil
              go_simp
              obtain ⟨W8, hW⟩ : ∃ W8, W.alloc (.cells #[] 3) = W8 := ⟨_, rfl⟩
              obtain ⟨gE, hg⟩ : ∃ g, W.heap.size = g := ⟨_, rfl⟩
              have bW : Below W.heap.size W W8 := by rw [← hW]; exact (Below.refl _ _).alloc (Nat.le_refl _) _
              have oE : OI W8 w5.heap.size (.slice (some ⟨gE, 0, none⟩) 0 0) 0 [] := by rw [← hW, ← hg]; exact (OI.empty W).mono BX.size
              have hne : gX ≠ gE := by have := (World.ownsRow.lt oX.1 gX rfl).2; omega
              replace oX := oX.below bW
              replace BX := below_step BX bW
              rw [hW]
              (try rw [hg])
              clear bW hW hg
              refine hK.out _ _ ?_ (fun hHeld => ?_)
              · exact hkeep _ BX
              clear hK K
              (try simp only [Act.put, List.setIfInBounds_toArray, List.set_cons_zero, List.set_cons_succ])
              refine wpAnyH_ready (rs := [3]) (by kernel_rfl) (by simp) ?_
              refine AllReadyH.cons (by rw [List.getElem?_toArray]; exact rfl) (fun K hK => ?_) AllReadyH.nil
              obtain ⟨vB, WB, hrun, oB, gB⟩ := runI 24 oE (sB.below BX) (by omega) BX.size
              have BA := below_of_grown BX gB BX.size (oE.grown_le (Nat.le_refl _))
              have oX2 := oX.grown gB (.inr (fun e => hne (by injection e)))
              clear BX oE oX
              have BX := BA
              have oX := oX2
              rw [Nat.zero_add, List.nil_append] at oB
              clear BA gB oX2
              refine wp_append_stepO rfl _ _ rfl rfl rfl hrun ?_
              clear hrun
              refine hK.out _ _ ?_ (fun hHeld => ?_)
              · exact hkeep _ BX
              clear hK K
              (try simp only [Act.put, List.setIfInBounds_toArray, List.set_cons_zero, List.set_cons_succ])
              refine wpAnyH_ready (rs := [9]) (by kernel_rfl) (by simp) ?_
              refine AllReadyH.cons (by rw [List.getElem?_toArray]; exact rfl) (fun K hK => ?_) AllReadyH.nil
              obtain ⟨vC, WC, hrun, oC, gC⟩ := runI 24 oB oX.si (by omega) BX.size
              have BA := below_of_grown BX gC BX.size (oB.grown_le (Nat.le_refl _))
              clear BX
              have BX := BA
              clear BA gC oB oX
              refine wp_append_stepO rfl _ _ rfl rfl rfl hrun ?_
              clear hrun
              refine hK.out _ _ ?_ (fun hHeld => ?_)
              · exact hkeep _ BX
              clear hK K
              (try simp only [Act.put, List.setIfInBounds_toArray, List.set_cons_zero, List.set_cons_succ])
              refine wpAnyH_ready (rs := [11]) (by kernel_rfl) (by simp) ?_
              refine AllReadyH.cons (by rw [List.getElem?_toArray]; exact rfl) (fun K hK => ?_) AllReadyH.nil
              go_simp
              go_at_call 124
              refine (ih _ _ _ _ _ _ _ WC HIN9.out hkb2 (hr5.below BX) oC.si (sL.below BX)).mono ?_
              rintro e W9 ⟨v9, k9, rfl, s9, b9⟩
              replace BX := below_step BX b9
              refine hK.out _ _ ?_ (fun hHeld => ?_)
              · exact hkeep _ BX
              clear hK K
              (try simp only [Act.put, List.setIfInBounds_toArray, List.set_cons_zero, List.set_cons_succ])
              refine wpAnyH_take (i := 12) (v := ?vv54_12) (by rw [List.getElem?_toArray]; exact rfl) (by kernel_rfl) (by kernel_rfl) (by kernel_rfl) (by intro _ _ _ h; exact h) (Or.inl ⟨by rfl, ?hy54_12⟩) hHeld ?rest54_12
              case' hy54_12 => (intro w hSw; (try dsimp only at hSw); go_simp; try (with_reducible rfl))
              (try simp only [Act.put, List.setIfInBounds_toArray, List.set_cons_zero, List.set_cons_succ])
              refine wpAnyH_take (i := 13) (v := ?vv54_13) (by rw [List.getElem?_toArray]; exact rfl) (by kernel_rfl) (by kernel_rfl) (by kernel_rfl) (by intro _ _ _ h; exact h) (Or.inl ⟨by rfl, ?hy54_13⟩) hHeld ?rest54_13
              case' hy54_13 => (intro w hSw; (try dsimp only at hSw); go_simp; try (with_reducible rfl))
              (try simp only [Act.put, List.setIfInBounds_toArray, List.set_cons_zero, List.set_cons_succ])
              refine wpAnyH_take (i := 14) (v := ?vv54_14) (by rw [List.getElem?_toArray]; exact rfl) (by kernel_rfl) (by kernel_rfl) (by kernel_rfl) (by intro _ _ _ h; exact h) (Or.inl ⟨by rfl, ?hy54_14⟩) hHeld ?rest54_14
              case' hy54_14 => (intro w hSw; (try dsimp only at hSw); go_simp; try (with_reducible rfl))
              (try simp only [Act.put, List.setIfInBounds_toArray, List.set_cons_zero, List.set_cons_succ])
              refine wpAnyH_take (i := 15) (v := ?vv54_15) (by rw [List.getElem?_toArray]; exact rfl) (by kernel_rfl) (by kernel_rfl) (by kernel_rfl) (by intro _ _ _ h; exact h) (Or.inl ⟨by rfl, ?hy54_15⟩) hHeld ?rest54_15
              case' hy54_15 => (intro w hSw; (try dsimp only at hSw); go_simp; try (with_reducible rfl))
              (try simp only [Act.put, List.setIfInBounds_toArray, List.set_cons_zero, List.set_cons_succ])
              refine wpAnyH_take (i := 16) (v := ?vv54_16) (by rw [List.getElem?_toArray]; exact rfl) (by kernel_rfl) (by kernel_rfl) (by kernel_rfl) (by intro _ _ _ h; exact h) (Or.inl ⟨by rfl, ?hy54_16⟩) hHeld ?rest54_16
              case' hy54_16 => (intro w hSw; (try dsimp only at hSw); go_simp; try (with_reducible rfl))
              (try simp only [Act.put, List.setIfInBounds_toArray, List.set_cons_zero, List.set_cons_succ])
              refine wpAnyH_done (by kernel_rfl) ?_ _
              go_wp2_with fail
              go_meet
              case rel => exact ⟨k9, rfl, trivial, s9, BX⟩
          case rest =>
            obtain ⟨k9, rfl, _, s9, b9⟩ := hcut
            have B9 := hide (below_step B5.out b9)
            have S9 := hide s9
            obtain ⟨A9, c9, e9, _, _, _⟩ := s9
            cases hfk : findF ts f (bs ++ [x]) (rs.eraseIdx k) with
            | none =>
              have hst := hide (show ∀ q, q < k + 1 → findF ts f (bs ++ [rs.getD q 0]) (rs.eraseIdx q) = none from fun q hq => by
                by_cases e : q = k
                · subst e; rw [HXD.out]; exact hfk
                · exact HNO.out q (by omega))
              clear hfk
              go_wp2_with fail
              go_roundw
              case rel => exact ⟨k + 1, by go_num, by omega, hst.out, B9.out⟩
              case measure => simp [intOf]; omega
            | some r9 =>
              have hfin := hide (show findF ts (f + 1) bs rs = some r9 by rw [HF.out]; exact find_hit _ k hkq HNO.out (by rw [HXD.out]; exact hfk))
              rw [hfk] at S9
              subst e9
              clear hfk
              go_wp2_with fail
              refine bodyPost_ret (v := .tuple #[.slice A9 k9 c9, .bool true]) (by simp [results, Tryz.results124, go_sem]) rfl ?_
              rw [hfin.out]
              exact ⟨_, k9, rfl, S9.out, B9.out⟩
        · obtain rfl : k = f + 1 := by omega
          have hfin := hide (show findF ts (f + 1) bs rs = none by rw [HF.out]; exact find_none _ HNO.out)
          go_wp2_with fail
          refine bodyPost_ret (v := .tuple #[.slice (some ⟨wr.heap.size, 0, none⟩) 0 0, .bool false]) (by simp [results, Tryz.results124, go_sem]) rfl ?_
          rw [hfin.out]
          exact ⟨_, 0, rfl, (OI.empty wr).si, BW.out.alloc BW.out.size _⟩
end Go.Proofs.YtcfkemchekmjbaaGreatDoor
