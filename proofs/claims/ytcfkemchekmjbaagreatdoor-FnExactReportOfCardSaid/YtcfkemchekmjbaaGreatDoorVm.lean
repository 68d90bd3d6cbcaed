/- Merged (what the law reaches): Prm, WrN. -/
import Derived.Test.YtcfkemchekmjbaaGreatDoorVl
namespace Go.Proofs.YtcfkemchekmjbaaGreatDoor
open Go.RowKit
theorem flat_two (xs ys : List Int) : ([xs, ys] : Ls).flatten = xs ++ ys := by simp
theorem RL.two {w : World} {b n m c d : Nat} {A B : Option Addr} {xs ys : List Int} (hb : Blk w b 24 #[.slice A n c, .slice B m d]) (hx : SI w (.slice A n c) n xs) (hy : SI w (.slice B m d) m ys) : RL w (some ⟨b, 0, none⟩) 2 [xs, ys] := by
  obtain ⟨A1, c1, e1, h1, h2, h3⟩ := hx
  obtain ⟨B1, d1, f1, g1, g2, g3⟩ := hy
  injection e1 with e1 _ e3
  injection f1 with f1 _ f3
  subst e1; subst e3; subst f1; subst f3
  refine ⟨rfl, fun _ => ⟨b, 0, rfl, hb.lt, fun k zs hk => ?_⟩⟩
  match k, hk with
  | 0, hk => simp at hk; subst hk; exact ⟨A, n, c, hb.cell 0, h1, h2, h3⟩
  | 1, hk => simp at hk; subst hk; exact ⟨B, m, d, hb.cell 1, g1, g2, g3⟩
set_option maxRecDepth 100000 in
set_option maxHeartbeats 16000000 in
theorem permuted_c : ∀ (q : Nat) (u : Value) (xs : List Int) (w : World), q ≤ 6 → SI w u q xs → Calls Tryz.prog 85 #[u] w (OrdsR w xs) := by
  intro q
  induction q with
  | zero =>
    intro u xs w _ hs
    have hl := hs.len
    obtain rfl : xs = [] := List.eq_nil_of_length_eq_zero hl
    obtain ⟨A, c, rfl, hnc, hn, hri⟩ := hs
    have oE := hide (OI.empty w)
    have B1 := hide (((Below.refl w.heap.size w).alloc (Nat.le_refl _) (.cells #[] 3)).alloc (by simp) (.cells #[.slice (some ⟨w.heap.size, 0, none⟩) 0 0] 24))
    go_enter Tryz.func85, Tryz.ntmps85
    go_wp2_with fail
    go_ret
    refine ⟨_, rfl, ⟨[.slice (some ⟨w.heap.size, 0, none⟩) 0 0], ⟨rfl, .inr ⟨w.heap.size + 1, 1, _, rfl, by omega, by have := Blk.new (w.alloc (.cells #[] 3)) 24 #[.slice (some ⟨w.heap.size, 0, none⟩) 0 0]; rw [World.size_alloc] at this; exact this, Nat.le_refl _, by simp [maxLen], rfl, rfl⟩⟩, fun k ys hk => ?_⟩, B1.out⟩
    match k, hk with
    | 0, hk =>
      simp [permsF] at hk; subst hk
      exact ⟨_, 0, rfl, oE.out.below ((Below.refl _ _).alloc (Nat.le_refl _) _)⟩
  | succ q ih =>
    intro u xs w hq6 hs
    have hl := hs.len
    obtain ⟨A, c, rfl⟩ := hs.shape
    obtain ⟨A9, c9, e9, hnc, hn, hri⟩ := hs
    obtain ⟨rfl, rfl⟩ : A = A9 ∧ c = c9 := by simpa using e9
    have hsi : SI w (.slice A (q + 1) c) (q + 1) xs := ⟨A, c, rfl, hnc, hn, hri⟩
    have L0 := hide (LL.empty w)
    have B0 := hide ((Below.refl w.heap.size w).alloc (Nat.le_refl _) (.cells #[] 24))
    have HL := hide hl
    have hq0 : ((q : Int) + 1 == 0) = false := by rw [beq_eq_false_iff_ne]; omega
    clear e9
    go_enter Tryz.func85, Tryz.ntmps85
    go_wp2_with fail
    go_loopw [3, 17] (fun v i W => ∃ k : Nat, i = .int .i64 k ∧ k ≤ q + 1 ∧ LL W w.heap.size v (permTo xs k 0) ∧ Below w.heap.size w W) (fun _ i _ => q + 1 - (intOf i).toNat)
    case atStart => exact ⟨0, rfl, Nat.zero_le _, by rw [permTo_zero]; exact L0.out, B0.out⟩
    case round =>
      clear L0 B0
      obtain ⟨k, rfl, hk, hll, bw⟩ := hrel
      rename World => wr
      by_cases hkq : k < q + 1
      · have hmany : ∀ j, (permTo xs k j).length ≤ 720 := fun j => permTo_many (by omega) (by omega)
        have hs1 := hsi.below bw
        obtain ⟨A1, hr1, sa⟩ := sliceS_hi hs1 (show k ≤ q + 1 by omega)
        obtain ⟨A2, c2, hr2, sb⟩ := sliceS_lo hs1 (show k + 1 ≤ q + 1 by omega)
        rw [Nat.add_sub_add_right] at hr2 sb
        have BZ : Below w.heap.size w wr.drew := bw.drew
        have LZ := hll.below (Below.refl wr.heap.size wr).drew
        have SA := sa.below (Below.refl wr.heap.size wr).drew
        have SB := sb.below (Below.refl wr.heap.size wr).drew
        have k0 : (0 : Int) ≤ k := by omega
        have k2 : (k : Int) < ((q + 1 : Nat) : Int) := by omega
        have k3 : (k : Int) + 1 ≤ ((q + 1 : Nat) : Int) := by omega
        have hr2' : ∀ w', (Instr.slice 24 (.slice A (q + 1) c) (some (.int .i64 ((k : Int) + 1))) none none).run Tryz.prog w' = .ok (.slice A2 (q - k) c2) w' := fun w' => by rw [show ((k : Int) + 1) = ((k + 1 : Nat) : Int) by omega]; exact hr2 w'
        clear hr2
        have HM := hide hmany
        have hwr : IntKind.i64.wrap ((k : Int) + 1) = (k : Int) + 1 := by rw [IntWalk.i64_left, IntWalk.wrap64_in _ (by omega)]
        obtain ⟨b, off, x, rfl, hbb, hx, hc⟩ := hri.at_ hkq
        have HX := hide hx
        have e0 := (bw.cell (p := ⟨b, off + k, none⟩) hbb).trans hc
        clear sa sb hs1 bw hll hmany hx hc
        go_upto_region 7 with fail
        refine wp_region_held_drew (S := (fun _ => True)) (by kernel_rfl) ?_ (fun hHeld => ?_)
        · exact trivial
        refine wpAnyH_take (i := 0) (v := ?vv1_0) (by rw [List.getElem?_toArray]; exact rfl) (by kernel_rfl) (by kernel_rfl) (by kernel_rfl) (by intro _ _ _ h; exact h) (Or.inl ⟨by rfl, ?hy1_0⟩) hHeld ?rest1_0
        case' hy1_0 => (intro w hSw; (try dsimp only at hSw); go_simp; try (with_reducible rfl))
        (try simp only [Act.put, List.setIfInBounds_toArray, List.set_cons_zero, List.set_cons_succ])
        refine wpAnyH_take (i := 1) (v := ?vv1_1) (by rw [List.getElem?_toArray]; exact rfl) (by kernel_rfl) (by kernel_rfl) (by kernel_rfl) (by intro _ _ _ h; exact h) (Or.inl ⟨by rfl, ?hy1_1⟩) hHeld ?rest1_1
        case' hy1_1 => (intro w hSw; (try dsimp only at hSw); go_simp; try (with_reducible rfl))
        (try simp only [Act.put, List.setIfInBounds_toArray, List.set_cons_zero, List.set_cons_succ])
        refine wpAnyH_take (i := 2) (v := ?vv1_2) (by rw [List.getElem?_toArray]; exact rfl) (by kernel_rfl) (by kernel_rfl) (by kernel_rfl) (by intro _ _ _ h; exact h) (Or.inl ⟨by rfl, ?hy1_2⟩) hHeld ?rest1_2
        case' hy1_2 => (intro w hSw; (try dsimp only at hSw); go_simp; try (with_reducible rfl))
        (try simp only [Act.put, List.setIfInBounds_toArray, List.set_cons_zero, List.set_cons_succ])
        refine wpAnyH_take (i := 3) (v := ?vv1_3) (by rw [List.getElem?_toArray]; exact rfl) (by kernel_rfl) (by kernel_rfl) (by kernel_rfl) (by intro _ _ _ h; exact h) (Or.inl ⟨by rfl, ?hy1_3⟩) hHeld ?rest1_3
        case' hy1_3 => (intro w hSw; (try dsimp only at hSw); go_simp; try (with_reducible rfl))
        (try simp only [Act.put, List.setIfInBounds_toArray, List.set_cons_zero, List.set_cons_succ])
        refine wpAnyH_take (i := 4) (v := ?vv1_4) (by rw [List.getElem?_toArray]; exact rfl) (by kernel_rfl) (by kernel_rfl) (by kernel_rfl) (by intro _ _ _ h; exact h) (Or.inl ⟨by rfl, ?hy1_4⟩) hHeld ?rest1_4
        case' hy1_4 => (intro w hSw; (try dsimp only at hSw); go_simp; try (with_reducible rfl))
        (try simp only [Act.put, List.setIfInBounds_toArray, List.set_cons_zero, List.set_cons_succ])
        refine wpAnyH_take (i := 5) (v := ?vv1_5) (by rw [List.getElem?_toArray]; exact rfl) (by kernel_rfl) (by kernel_rfl) (by kernel_rfl) (by intro _ _ _ h; exact h) (Or.inl ⟨by rfl, ?hy1_5⟩) hHeld ?rest1_5
        case' hy1_5 => (intro w hSw; (try dsimp only at hSw); go_simp; try (with_reducible rfl))
        (try simp only [Act.put, List.setIfInBounds_toArray, List.set_cons_zero, List.set_cons_succ])
        refine wpAnyH_take (i := 6) (v := ?vv1_6) (by rw [List.getElem?_toArray]; exact rfl) (by kernel_rfl) (by kernel_rfl) (by kernel_rfl) (by intro _ _ _ h; exact h) (Or.inl ⟨by rfl, ?hy1_6⟩) hHeld ?rest1_6
        case' hy1_6 => (intro w hSw; (try dsimp only at hSw); go_simp; try (with_reducible rfl))
        (try simp only [Act.put, List.setIfInBounds_toArray, List.set_cons_zero, List.set_cons_succ])
        refine wpAnyH_ready (rs := [7]) (by kernel_rfl) (by simp) ?_
        refine AllReadyH.cons (by rw [List.getElem?_toArray]; exact rfl) (fun K hK => ?_) AllReadyH.nil
        go_simp
        have K2 := hide (Blk.new wr.drew 24 #[.slice A1 k c, .slice A2 (q - k) c2])
        have SA1 := hide (SA.below ((Below.refl _ _).alloc (Nat.le_refl _) (.cells #[.slice A1 k c, .slice A2 (q - k) c2] 24)))
        have SB1 := hide (SB.below ((Below.refl _ _).alloc (Nat.le_refl _) (.cells #[.slice A1 k c, .slice A2 (q - k) c2] 24)))
        have LZ1 := hide (LZ.below ((Below.refl _ _).alloc (Nat.le_refl _) (.cells #[.slice A1 k c, .slice A2 (q - k) c2] 24)))
        have BZ1 := hide (BZ.alloc BZ.size (.cells #[.slice A1 k c, .slice A2 (q - k) c2] 24))
        refine hK.out _ _ ?_ (fun hHeld => ?_)
        · exact trivial
        clear hK K
        (try simp only [Act.put, List.setIfInBounds_toArray, List.set_cons_zero, List.set_cons_succ])
        refine wpAnyH_ready (rs := [8]) (by kernel_rfl) (by simp) ?_
        refine AllReadyH.cons (by rw [List.getElem?_toArray]; exact rfl) (fun K hK => ?_) AllReadyH.nil
        go_simp
        go_at_call 143
        refine (Concat_c (RL.two K2.out SA1.out SB1.out) (by omega) (by rw [flat_two, List.length_append, SA1.out.len, SB1.out.len]; omega)).mono ?_
        rintro e w2 ⟨v2, m2, rfl, o2, b2⟩
        refine hK.out _ _ ?_ (fun hHeld => ?_)
        · exact trivial
        clear hK K
        (try simp only [Act.put, List.setIfInBounds_toArray, List.set_cons_zero, List.set_cons_succ])
        refine wpAnyH_take (i := 9) (v := ?vv1_9) (by rw [List.getElem?_toArray]; exact rfl) (by kernel_rfl) (by kernel_rfl) (by kernel_rfl) (by intro _ _ _ h; exact h) (Or.inl ⟨by rfl, ?hy1_9⟩) hHeld ?rest1_9
        case' hy1_9 => (intro w hSw; (try dsimp only at hSw); go_simp; try (with_reducible rfl))
        (try simp only [Act.put, List.setIfInBounds_toArray, List.set_cons_zero, List.set_cons_succ])
        refine wpAnyH_done (by kernel_rfl) ?_ _
        have si2 : SI w2 v2 q (xs.eraseIdx k) := by
          have h := o2.si
          have hm2 := o2.len
          rw [flat_two, erase_take] at h hm2
          rw [List.length_eraseIdx_of_lt (by omega)] at hm2
          obtain rfl : m2 = q := by omega
          exact h
        have LZ2 := LZ1.out.below b2
        have BW2 := below_step BZ1.out b2
        clear o2 SA SB hr1 hr2' K2 SA1 SB1 LZ1 BZ1 e0 LZ BZ
        go_wp2_with fail
        refine (ih v2 _ w2 (by omega) si2).mono ?_
        rintro e w3 ⟨v3, rfl, l3, b3⟩
        have hle : (xs.eraseIdx k).length = q := by rw [List.length_eraseIdx_of_lt (by omega)]; omega
        rw [hle] at l3
        obtain ⟨ms, hms⟩ : ∃ ms, permsF q (xs.eraseIdx k) = ms := ⟨_, rfl⟩
        have hms2 : permsF (xs.length - 1) (xs.eraseIdx k) = ms := by rw [hl, Nat.add_sub_cancel]; exact hms
        rw [hms] at l3
        have hm120 : ms.length ≤ 120 := by rw [← hms2]; exact perms_120 (by omega) (by omega)
        obtain ⟨A3, c3, rfl⟩ := l3.shape
        obtain ⟨Au3, cu3, eu3⟩ := LZ2.shape
        have LZ3 := hide (LZ2.below b3); have BW3 := hide (below_step BW2 b3); have L3 := hide l3
        have HAP := hide (show u3.ownBlock = none ∨ u3.ownBlock ≠ (Value.slice A3 ms.length c3).ownBlock by
          obtain ⟨cs, o, _⟩ := LZ2
          obtain ⟨cs3, o3, _⟩ := l3
          cases hq : u3.ownBlock with
          | none => exact .inl rfl
          | some g =>
            right; intro e
            have h1 := (World.ownsRow.lt o g hq).2
            have h2 := (World.ownsRow.lt o3 g e.symm).1
            omega)
        have HMS := hide hms2
        clear LZ2 l3 hms hms2 BW2 b3 b2 si2 eu3
        go_wp2_with fail
        go_loopw [3, 34] (fun v i W => ∃ j : Nat, i = .int .i64 j ∧ j ≤ ms.length ∧ LL W w.heap.size v (permTo xs k j) ∧ LL W w2.heap.size (.slice A3 ms.length c3) ms ∧ (v.ownBlock = none ∨ v.ownBlock ≠ (Value.slice A3 ms.length c3).ownBlock) ∧ Below w.heap.size w W) (fun _ i _ => ms.length - (intOf i).toNat)
        case atStart => exact ⟨0, rfl, Nat.zero_le _, LZ3.out, L3.out, HAP.out, BW3.out⟩
        case round =>
          clear LZ3 L3 HAP BW3
          rename World => wr2
          obtain ⟨j, rfl, hj, hll, hl3, hap, bw⟩ := hrel
          have HLL := hide hll; have HL3 := hide hl3; have BW := hide bw; have HAP := hide hap
          by_cases hjm : j < ms.length
          · obtain ⟨bm, u, mu, rfl, hbm0, hbm, ou, cu⟩ := hl3.at_ hjm
            obtain ⟨Au, cu2, rfl⟩ := ou.shape
            have hys : ms[j]? = some (ms.getD j []) := by rw [List.getD_eq_getElem?_getD, List.getElem?_eq_getElem hjm]; rfl
            have hst := permTo_step (xs := xs) (k := k) (j := j) (by rw [HMS.out]; exact hys)
            have hxd : xs.getD k 0 = x := by rw [List.getD_eq_getElem?_getD, HX.out]; rfl
            rw [hxd] at hst
            have HST := hide hst
            have hmu := ou.len
            have hmq : mu ≤ 6 := by
              have hin : ms.getD j [] ∈ permsF (xs.length - 1) (xs.eraseIdx k) := by rw [HMS.out]; exact List.mem_of_getElem? hys
              have h1 := permsF_len _ _ (by rw [List.length_eraseIdx_of_lt (by omega)]; exact Nat.le_refl _) _ hin
              rw [List.length_eraseIdx_of_lt (by omega)] at h1
              omega
            have j2 : (j : Int) < ms.length := by omega
            have o3 := OI.of_blk (Blk.new wr2 3 #[.int .i64 x]) (Nat.le_refl _) (xs := [x]) (n := 1) rfl rfl (by omega)
            have b3 : Below wr2.heap.size wr2 (wr2.alloc (.cells #[.int .i64 x] 3)) := (Below.refl _ _).alloc (Nat.le_refl _) _
            have so := (ou.below b3).si
            have O3 := hide o3; have B3 := hide b3; have SO := hide so
            clear hll hl3 hap bw hst hys o3 b3 so hmu
            go_wp2_with (first | (at_builtin; refine wpList_appI rfl _ _ rfl rfl O3.out rfl SO.out (by omega) (by simp) ?_; intro v4 w4 o4 g4 _; obtain ⟨A4, c4, rfl⟩ := o4.shape; have b4 := below_of_grown B3.out g4 B3.out.size (O3.out.grown_le (Nat.le_refl _)); have b5 : Below wr2.heap.size wr2 (w4.alloc (.cells #[.slice A4 (1 + mu) c4] 24)) := b4.alloc b4.size _; have K5 := Blk.new w4 24 #[.slice A4 (1 + mu) c4]; have o5 := (o4.alloc (.cells #[.slice A4 (1 + mu) c4] 24)).mono (B' := w.heap.size) BW.out.size; have L5 := HLL.out.below b5; clear o4 g4 b4) | (at_builtin; obtain ⟨v6, w6, hrun, L6, g6, hat⟩ := LL.run L5 37 K5 o5 (by have := HM.out j; omega) (Nat.le_trans BW.out.size b5.size); refine Lib.wpList_append_run _ rfl _ _ _ _ rfl _ _ rfl rfl _ _ hrun ?_))
            have hne6 := own_neL HAP.out
            have B6 := L5.grows (below_step BW.out b5) (Nat.le_refl _) g6
            have L7 : LL w6 w2.heap.size (.slice (some ⟨bm, 0, none⟩) ms.length c3) ms := by obtain ⟨cs5, o5x, _⟩ := L5; exact (HL3.out.below b5).grown o5x g6 (.inr (fun e => hne6 e.symm))
            have AP7 : v6.ownBlock = none ∨ v6.ownBlock ≠ (Value.slice (some ⟨bm, 0, none⟩) ms.length c3).ownBlock := own_apL hat hne6 (Nat.lt_of_lt_of_le hbm b5.size)
            go_roundw
            case rel => exact ⟨j + 1, by go_num, by omega, by rw [HST.out]; exact L6, L7, AP7, B6⟩
            case measure => simp [intOf]; omega
          · obtain rfl : j = ms.length := by omega
            have he := permTo_next (xs := xs) (k := k) (j := ms.length) (by rw [HMS.out]; exact Nat.le_refl _)
            rw [← he] at hll
            have HLL2 := hide hll
            clear hll hl3 hap bw he HLL
            go_wp2_with fail
            go_roundw
            case rel => exact ⟨k + 1, by go_num, by omega, HLL2.out, BW.out⟩
            case measure => simp [intOf]; omega
      · obtain rfl : k = q + 1 := by omega
        have he : permTo xs (q + 1) 0 = permsF xs.length xs := by
          have := permTo_end (xs := xs) (fun e => by rw [e] at hl; cases hl)
          rw [HL.out] at this
          rw [this, HL.out]
        have HE := hide he; clear he
        have HLL := hide hll; have BW := hide bw
        clear hll bw
        go_wp2_with fail
        go_ret
        exact ⟨_, rfl, by rw [← HE.out]; exact HLL.out, BW.out⟩
end Go.Proofs.YtcfkemchekmjbaaGreatDoor

namespace Go.Proofs.YtcfkemchekmjbaaGreatDoor
open Go.RowKit Go.Maps
def Wrn (w : World) (b n : Nat) (ts : List Tx) (k j : Nat) : Prop :=
  ∃ D : DataW Value, w.ownsMap Tryz.prog 136 RVw b n D ∧ (∀ q, wfW q → Maps.has D (klW q) = decide (q ∈ wl (opsTo ts k j))) ∧
    (∀ (k' j' : Nat) (t : Tx) (o : T3), (k' < k ∨ (k' = k ∧ j' < j)) → ts[k']? = some t → t.2.1[j']? = some o → o.1 = 2 → D.atKey (klW (o.2.1, o.2.2)) (.held (.int .i64 0)) = .held (.int .i64 (k' : Int)))
theorem Wrn.zero (w : World) (ts : List Tx) : Wrn (w.alloc (.map #[] 0)) w.heap.size 0 ts 0 0 :=
  ⟨_, World.ownsMap_made w _ _ _, fun _ _ => by rw [opsTo_zero]; rfl, fun k' j' t o h => by omega⟩
theorem Wrn.lt {w : World} {b n : Nat} {ts : List Tx} {k j : Nat} (h : Wrn w b n ts k j) : b < w.heap.size := by obtain ⟨D, ho, _⟩ := h; exact ho.lt
theorem Wrn.below {w w' : World} {b n : Nat} {ts : List Tx} {k j : Nat} (h : Wrn w b n ts k j) (hb : Below w.heap.size w w') : Wrn w' b n ts k j := by
  obtain ⟨D, ho, h2⟩ := h
  have hlt := ho.lt
  obtain ⟨es, cl, h3, h4⟩ := ho
  exact ⟨D, ⟨es, cl, (hb.block b hlt).trans h3, h4⟩, h2⟩
theorem Wrn.alloc {w : World} {b n : Nat} {ts : List Tx} {k j : Nat} (h : Wrn w b n ts k j) (o : Obj) : Wrn (w.alloc o) b n ts k j := h.below ((Below.refl _ _).alloc (Nat.le_refl _) _)
theorem Wrn.mono {w : World} {b n m : Nat} {ts : List Tx} {k j : Nat} (h : Wrn w b n ts k j) (hm : n ≤ m) : Wrn w b m ts k j := by
  obtain ⟨D, h1, h2⟩ := h; exact ⟨D, h1.mono hm, h2⟩
theorem wfW_op {ts : List Tx} {k j : Nat} {t : Tx} {o : T3} (hv : ∀ t ∈ ts, txnB t = true) (ht : ts[k]? = some t) (ho : t.2.1[j]? = some o) : wfW (o.2.1, o.2.2) := by
  have := txnB_opH (hv t (List.mem_of_getElem? ht)) ho
  unfold opB at this
  simp only [Bool.and_eq_true, inB_iff] at this
  exact ⟨WalkArith.wf_i64 (by dsimp only; omega), WalkArith.wf_i64 (by dsimp only; omega)⟩
theorem Wrn.step {w' : World} {b n : Nat} {ts : List Tx} {k j : Nat} {t : Tx} {o : T3} {D : DataW Value} (hm : IsMap D)
    (h2 : ∀ q, wfW q → Maps.has D (klW q) = decide (q ∈ wl (opsTo ts k j)))
    (h3 : ∀ (k' j' : Nat) (t : Tx) (o : T3), (k' < k ∨ (k' = k ∧ j' < j)) → ts[k']? = some t → t.2.1[j']? = some o → o.1 = 2 → D.atKey (klW (o.2.1, o.2.2)) (.held (.int .i64 0)) = .held (.int .i64 (k' : Int)))
    (hq : wfW (o.2.1, o.2.2)) (ht : ts[k]? = some t) (ho : t.2.1[j]? = some o) (hw : o.1 = 2) (hn : (o.2.1, o.2.2) ∉ wl (opsTo ts k j)) (hv : ∀ t ∈ ts, txnB t = true)
    (h : w'.ownsMap Tryz.prog 136 RVw b n (D.put (klW (o.2.1, o.2.2)) (.held (.int .i64 (k : Int))))) : Wrn w' b n ts k (j + 1) := by
  refine ⟨_, h, fun q hqw => ?_, fun k' j' t' o' hb' ht' ho' hw' => ?_⟩
  · rw [wl_step_w ht ho hw]
    by_cases e : q = (o.2.1, o.2.2)
    · subst e
      rw [has_put_same hm (show Go.WideAt.IsKeyLit (klW _) from trivial)]; simp
    · rw [has_put_other (fun h => e (klW_inj hqw hq h)), h2 q hqw]; simp [e]
  · by_cases e : k' = k ∧ j' = j
    · obtain ⟨rfl, rfl⟩ := e
      rw [ht] at ht'; injection ht' with ht'; subst ht'
      rw [ho] at ho'; injection ho' with ho'; subst ho'
      rw [atKey_put_same hm (show Go.WideAt.IsKeyLit (klW _) from trivial)]
    · have hbb : k' < k ∨ (k' = k ∧ j' < j) := by omega
      have hne : (o'.2.1, o'.2.2) ≠ (o.2.1, o.2.2) := fun e => hn (by rw [← e]; exact mem_wl (mem_opsTo ht' ho' hbb) hw')
      rw [atKey_put_other (fun h => hne (klW_inj (wfW_op hv ht' ho') hq h))]
      exact h3 k' j' t' o' hbb ht' ho' hw'
theorem Wrn.skip {w : World} {b n : Nat} {ts : List Tx} {k j : Nat} {t : Tx} {o : T3} (ht : ts[k]? = some t) (ho : t.2.1[j]? = some o) (hw : o.1 ≠ 2) (h : Wrn w b n ts k j) : Wrn w b n ts k (j + 1) := by
  obtain ⟨D, h1, h2, h3⟩ := h
  refine ⟨D, h1, fun q hq => by rw [wl_step_r ht ho hw]; exact h2 q hq, fun k' j' t' o' hb' ht' ho' hw' => ?_⟩
  by_cases e : k' = k ∧ j' = j
  · obtain ⟨rfl, rfl⟩ := e
    rw [ht] at ht'; injection ht' with ht'; subst ht'
    rw [ho] at ho'; injection ho' with ho'; subst ho'
    exact absurd hw' hw
  · exact h3 k' j' t' o' (by omega) ht' ho' hw'
theorem Wrn.next {w : World} {b n : Nat} {ts : List Tx} {k j : Nat} {t : Tx} (ht : ts[k]? = some t) (hj : t.2.1.length ≤ j) (h : Wrn w b n ts k j) : Wrn w b n ts (k + 1) 0 := by
  obtain ⟨D, h1, h2, h3⟩ := h
  refine ⟨D, h1, fun q hq => by rw [opsTo_next ht hj]; exact h2 q hq, fun k' j' t' o' hb' ht' ho' hw' => ?_⟩
  refine h3 k' j' t' o' ?_ ht' ho' hw'
  by_cases e : k' = k
  · subst e; rw [ht] at ht'; injection ht' with ht'; subst ht'
    have := (List.getElem?_eq_some_iff.1 ho').1
    omega
  · omega
set_option maxRecDepth 100000 in
set_option maxHeartbeats 16000000 in
theorem writersN_c {A : Option Addr} {n c : Nat} {ts : List Tx} {w : World} (hr : RTs w A n ts) (hn : n ≤ 6) (hv : ∀ t ∈ ts, txnB t = true) :
    Calls Tryz.prog 54 #[.slice A n c] w fun e w' => ∃ m, e = .returned (.tuple #[m, .bool (decide ((wl (allOps ts)).Nodup))]) ∧ Below w.heap.size w w' ∧ ((wl (allOps ts)).Nodup → ∃ b, m = .map (some b) ∧ Wrn w' b 36 ts ts.length 0) := by
  have hl := hide hr.1
  have HV := hide hv
  have hmk := fun (v : World) => run_makeMap (P := Tryz.prog) 92 v
  have M0 := Wrn.zero w ts
  have B0 : Below w.heap.size w (w.alloc (.map #[] 0)) := (Below.refl _ _).alloc (Nat.le_refl _) _
  go_enter Tryz.func54, Tryz.ntmps54
  go_wp2_with fail
  go_loopw [15] (fun i wr => ∃ k : Nat, k ≤ n ∧ i = .int .i64 k ∧ (wl (opsTo ts k 0)).Nodup ∧ Wrn wr w.heap.size (k * 6) ts k 0 ∧ Below w.heap.size w wr) (fun i _ => n - (intOf i).toNat)
  case atStart => exact ⟨0, Nat.zero_le _, rfl, by rw [opsTo_zero]; exact List.Pairwise.nil, M0, B0⟩
  case round =>
    clear M0 B0
    obtain ⟨k, hk, rfl, hnd, hwr, bw⟩ := hrel
    have HND := hide hnd; have HW := hide hwr; clear hnd hwr
    have hz1 := HW.out.lt
    by_cases hkn : k < n
    · obtain ⟨b, off, f, ys, dn, B, kk, d, rfl, hbb, hx, q0, q1, q2, hkd, hdm, hri⟩ := hr.at_ hkn
      have e0 := (bw.cell (p := ⟨b, off + k * 3, none⟩) hbb).trans q0
      have e1 := (bw.cell (p := ⟨b, off + k * 3 + 1, none⟩) hbb).trans q1
      have e2 := (bw.cell (p := ⟨b, off + k * 3 + 2, none⟩) hbb).trans q2
      have htx := hv _ (List.mem_of_getElem? hx)
      have HTX := hide htx
      have hyl := hide hri.len
      have h6 : kk ≤ 6 := by have := txnB_lenH htx; rw [hyl.out] at this; exact this
      have HX := hide hx
      have k0 : (0 : Int) ≤ k := by omega
      have k2 : (k : Int) < n := by omega
      have K1 := Blk.new wr 66 #[.int .i64 f, .slice B kk d, .bool dn]
      have HW1 := hide (HW.out.alloc (.cells #[.int .i64 f, .slice B kk d, .bool dn] 66))
      have HB1 := hide (bw.alloc bw.size (.cells #[.int .i64 f, .slice B kk d, .bool dn] 66))
      obtain ⟨g0, g1, g2⟩ := K1.three
      clear q0 q1 q2 hx htx K1
      go_wp2_with fail
      go_loopw [23] (fun i wr2 => ∃ j : Nat, j ≤ kk ∧ i = .int .i64 j ∧ (wl (opsTo ts k j)).Nodup ∧ Wrn wr2 w.heap.size (k * 6 + j) ts k j ∧ Below w.heap.size w wr2) (fun i _ => kk - (intOf i).toNat)
      case atStart => exact ⟨0, Nat.zero_le _, rfl, HND.out, HW1.out, HB1.out⟩
      case round =>
        clear HW1 HB1 g0 g1 g2 e0 e1 e2 HW HND
        rename World => wr2
        obtain ⟨j, hj, rfl, hnd, hwr, bw2⟩ := hrel
        have HND := hide hnd; have HW := hide hwr; clear hnd hwr
        by_cases hjk : j < kk
        · obtain ⟨b2, off2, x, y, z, rfl, hbb2, hx2, p0, p1, p2⟩ := hri.at_ hjk
          have a0 := (bw2.cell (p := ⟨b2, off2 + j * 3, none⟩) hbb2).trans p0
          have a1 := (bw2.cell (p := ⟨b2, off2 + j * 3 + 1, none⟩) hbb2).trans p1
          have a2 := (bw2.cell (p := ⟨b2, off2 + j * 3 + 2, none⟩) hbb2).trans p2
          have hop := txnB_opH HTX.out hx2
          unfold opB at hop
          simp only [Bool.and_eq_true, inB_iff] at hop
          obtain ⟨ho1, ho2, ho3, _⟩ := hop
          have hwq : wfW (y, z) := ⟨WalkArith.wf_i64 (by dsimp only; omega), WalkArith.wf_i64 (by dsimp only; omega)⟩
          have HWQ := hide hwq
          have HKO := hide (keyWr y z hwq.1 hwq.2)
          have HX2 := hide hx2
          have j0 : (0 : Int) ≤ j := by omega
          have j2 : (j : Int) < kk := by omega
          have b8 : Below w.heap.size w (wr2.alloc (.cells #[.int .i64 x, .int .i64 y, .int .i64 z] 61)) := bw2.alloc bw2.size _
          have b9 : Below w.heap.size w ((wr2.alloc (.cells #[.int .i64 x, .int .i64 y, .int .i64 z] 61)).alloc (.cells #[.int .i64 y, .int .i64 z] 136)) := b8.alloc b8.size _
          have K8 := (Blk.new wr2 61 #[.int .i64 x, .int .i64 y, .int .i64 z]).alloc (.cells #[.int .i64 y, .int .i64 z] 136)
          have K9 := Blk.new (wr2.alloc (.cells #[.int .i64 x, .int .i64 y, .int .i64 z] 61)) 136 #[.int .i64 y, .int .i64 z]
          simp only [World.size_alloc] at K9
          have HW9 := hide ((HW.out.alloc (.cells #[.int .i64 x, .int .i64 y, .int .i64 z] 61)).alloc (.cells #[.int .i64 y, .int .i64 z] 136))
          obtain ⟨D, hown, hD, hDE⟩ := HW9.out
          have hhas := hD (y, z) hwq
          have HH := hide hhas
          have HK8 := hide K8; have HK9 := hide K9; have HB9 := hide b9
          clear hwq ho1 ho2 ho3 hx2 p0 p1 p2 hD hhas b8 b9 K8 K9 hDE
          by_cases hx : x = 2
          · subst hx
            by_cases hm : (y, z) ∈ wl (opsTo ts k j)
            · have hf : decide ((wl (allOps ts)).Nodup) = false := decide_eq_false (histB_twice HX.out HX2.out rfl hm)
              have F := hide hf
              have HT := hide (HH.out.trans (decide_eq_true hm))
              clear hf hm
              go_wp2_with (at_lookup; refine wpList_lookup_own_ok _ rfl _ _ 92 rfl 136 3 lawWr Tryz.underlying92 RVw (zeroI _) (.held (.int .i64 0)) [] rfl w.heap.size (k * 6 + j) D rfl hown _ _ rfl HKO.out ?_; intro vv pp hvv; clear hvv; rw [show Maps.has D (.string (keyBytes [.int .i64 y, .int .i64 z])) = true from HT.out])
              refine (writesOp_c).mono ?_
              rintro e w3 ⟨rfl, b3⟩
              rw [show ((2 : Int) == 2) = true by rfl]
              go_wp2_with fail
              refine bodyPost_ret (v := .tuple #[.map none, .bool false]) (by simp [results, Tryz.results54, go_sem]) rfl ⟨_, by rw [F.out], below_step HB9.out b3, fun hnd' => by have := F.out; rw [decide_eq_true hnd'] at this; cases this⟩
            · have hn' := nodup_snoc HND.out hm
              have HMN := hide hm
              rw [← wl_step_w HX.out HX2.out rfl] at hn'
              have HN' := hide hn'
              have HT := hide (HH.out.trans (decide_eq_false hm))
              clear hn' hm
              go_wp2_with (at_lookup; refine wpList_lookup_own_ok _ rfl _ _ 92 rfl 136 3 lawWr Tryz.underlying92 RVw (zeroI _) (.held (.int .i64 0)) [] rfl w.heap.size (k * 6 + j) D rfl hown _ _ rfl HKO.out ?_; intro vv pp hvv; clear hvv; rw [show Maps.has D (.string (keyBytes [.int .i64 y, .int .i64 z])) = false from HT.out])
              refine (writesOp_c).mono ?_
              rintro e w3 ⟨rfl, b3⟩
              rw [show ((2 : Int) == 2) = true by rfl]
              have B3 := below_step HB9.out b3
              have K83 := HK8.out.belowAll b3
              have K93 := HK9.out.belowAll b3
              have HW3 := hide (HW9.out.below b3)
              obtain ⟨f0, f1, f2⟩ := K83.three
              go_wp2_with fail
              refine (writesOp_c).mono ?_
              rintro e w4 ⟨rfl, b4⟩
              rw [show ((2 : Int) == 2) = true by rfl]
              have B4 := below_step B3 b4
              have K94 := K93.belowAll b4
              obtain ⟨D2, hown2, hD2, hDE2⟩ := HW3.out.below b4
              have HM2 := hide hown2.isMap
              have HD2 := hide hD2; have HDE2 := hide hDE2
              obtain ⟨f3, f4, _, _⟩ := K94.two
              clear hD2 hDE2 f0 f1 f2 hown D HH HT
              go_wp2_with (at_mapUpdate; refine wpList_mapUpdate_own _ rfl _ _ _ 92 rfl 136 3 lawWr Tryz.underlying92 RVw w.heap.size (k * 6 + j) D2 rfl hown2 (by unfold maxLen; omega) _ _ _ rfl rfl HKO.out _ [] rfl ?_; intro w5 hown5 hgrow5)
              go_roundw
              case rel => exact ⟨j + 1, by omega, by go_num, HN'.out, Wrn.step HM2.out HD2.out HDE2.out HWQ.out HX.out HX2.out rfl HMN.out HV.out hown5, B4.grown hgrow5 B4.size (fun j e => by cases e; exact Nat.le_refl _)⟩
              case measure => simp [intOf]; omega
          · have hxb : (x == 2) = false := by simpa using hx
            have hs := wl_step_r HX.out HX2.out hx
            have HS := hide hs; have HXB := hide hxb; have HXN := hide hx
            clear hs hxb hx
            go_wp2_with (at_lookup; refine wpList_lookup_own_ok _ rfl _ _ 92 rfl 136 3 lawWr Tryz.underlying92 RVw (zeroI _) (.held (.int .i64 0)) [] rfl w.heap.size (k * 6 + j) D rfl hown _ _ rfl HKO.out ?_; intro vv pp hvv; clear hvv)
            refine (writesOp_c).mono ?_
            rintro e w3 ⟨rfl, b3⟩
            rw [HXB.out]
            have B3 := below_step HB9.out b3
            have K83 := HK8.out.belowAll b3
            have HW3 := hide (HW9.out.below b3)
            obtain ⟨f0, f1, f2⟩ := K83.three
            go_wp2_with fail
            refine (writesOp_c).mono ?_
            rintro e w4 ⟨rfl, b4⟩
            rw [HXB.out]
            have B4 := below_step B3 b4
            have HW4 := hide (HW3.out.below b4)
            clear f0 f1 f2
            go_wp2_with fail
            go_roundw
            case rel => exact ⟨j + 1, by omega, by go_num, by rw [HS.out]; exact HND.out, (Wrn.skip HX.out HX2.out HXN.out HW4.out).mono (by omega), B4⟩
            case measure => simp [intOf]; omega
        · obtain rfl : j = kk := by omega
          have hnx := opsTo_next HX.out (show ys.length ≤ j by rw [hyl.out]; omega)
          have HNX := hide hnx; clear hnx
          go_wp2_with fail
          go_roundw
          case rel => exact ⟨k + 1, by omega, by go_num, by rw [HNX.out]; exact HND.out, (Wrn.next HX.out (by rw [hyl.out]; exact Nat.le_refl _) HW.out).mono (by omega), bw2⟩
          case measure => simp [intOf]; omega
    · obtain rfl : k = n := by omega
      have hall := opsTo_all (show ts.length ≤ k by rw [hl.out]; omega)
      have hf : decide ((wl (allOps ts)).Nodup) = true := decide_eq_true (by rw [← hall]; exact HND.out)
      have F := hide hf; clear hall hf
      go_wp2_with fail
      refine bodyPost_ret (v := .tuple #[.map (some w.heap.size), .bool true]) (by simp [results, Tryz.results54, go_sem]) rfl ⟨_, by rw [F.out], bw, fun _ => ⟨_, rfl, by rw [hl.out]; exact HW.out.mono (by omega)⟩⟩
set_option maxRecDepth 100000 in
set_option maxHeartbeats 8000000 in
theorem WriterOf_c {A : Option Addr} {n c : Nat} {ts : List Tx} {key val : Int} {w : World} (hr : RTs w A n ts) (hh : histB ts = true) (hq : wfW (key, val)) :
    Calls Tryz.prog 113 #[.slice A n c, .int .i64 key, .int .i64 val] w fun e w' => e = .returned (.int .i64 (writerV ts key val)) ∧ Below w.heap.size w w' := by
  obtain ⟨h6, hv, hnd⟩ := histB_parts hh
  have hl := hr.1
  have hsm : SmallT ts := fun t ht => by have h : t.2.1.length ≤ 6 := txnB_lenH (hv t ht); omega
  have HH := hide hh; have HV := hide hv; have HND := hide hnd; have HQ := hide hq
  have HKO := hide (keyWr key val hq.1 hq.2)
  clear hh hv hnd hq
  go_enter Tryz.func113, Tryz.ntmps113
  go_wp2_with fail
  refine (impl_HistoryValid_c hr (by omega) hsm).mono ?_
  rintro e w2 ⟨rfl, b2⟩
  rw [HH.out]
  go_wp2_with fail
  refine (writersN_c (hr.below b2) (by omega) HV.out).mono ?_
  rintro e w3 ⟨m, rfl, b3, hm⟩
  have B3 := below_step b2 b3
  obtain ⟨b, rfl, hW⟩ := hm HND.out
  rw [decide_eq_true HND.out]
  obtain ⟨D, hown, hD, hE⟩ := hW
  have hhas := hD (key, val) HQ.out
  rw [opsTo_all (Nat.le_refl _)] at hhas
  have HHas := hide hhas
  have HE := hide hE
  have HB3 := hide B3
  clear hm hD hhas hE b2 b3 hr
  by_cases hin : (key, val) ∈ wl (allOps ts)
  · have hat : D.atKey (klW (key, val)) (.held (.int .i64 0)) = .held (.int .i64 (writerV ts key val)) := by
      obtain ⟨n', t', ht', hm'⟩ := mem_allOps (of_mem_wl hin)
      obtain ⟨j', hj', e'⟩ := List.mem_iff_getElem.1 hm'
      have := HE.out n' j' t' (2, key, val) (.inl (List.getElem?_eq_some_iff.1 ht').1) ht' (by rw [← e']; exact List.getElem?_eq_getElem hj') rfl
      rw [this, writerV_is HND.out ⟨t', ht', hm'⟩]
    have HAT := hide hat
    have HT := hide (HHas.out.trans (decide_eq_true hin))
    clear hat hin
    obtain ⟨v, hv⟩ : ∃ v, writerV ts key val = v := ⟨_, rfl⟩
    rw [hv] at HAT
    have HVV := hide hv; clear hv
    go_wp2_with (at_lookup; refine wpList_lookup_own_ok _ rfl _ _ 92 rfl 136 3 lawWr Tryz.underlying92 RVw (zeroI _) (.held (.int .i64 0)) [] rfl b 36 D rfl hown _ _ rfl HKO.out ?_; intro vv pp hvv; obtain rfl : vv = .int .i64 v := (by have h1 := HAT.out; unfold klW at h1; rw [h1] at hvv; have := congrArg (fun x => x.map Prod.fst) hvv; simpa [RVw] using this); rw [show Maps.has D (.string (keyBytes [.int .i64 key, .int .i64 val])) = true from HT.out])
    go_ret
    exact ⟨congrArg (fun x => Ending.returned (.int .i64 x)) HVV.out.symm, HB3.out⟩
  · have hno := writerV_no hin
    have HNO := hide hno
    have HT := hide (HHas.out.trans (decide_eq_false hin))
    clear hno hin
    go_wp2_with (at_lookup; refine wpList_lookup_own_ok _ rfl _ _ 92 rfl 136 3 lawWr Tryz.underlying92 RVw (zeroI _) (.held (.int .i64 0)) [] rfl b 36 D rfl hown _ _ rfl HKO.out ?_; intro vv pp hvv; clear hvv; rw [show Maps.has D (.string (keyBytes [.int .i64 key, .int .i64 val])) = false from HT.out])
    go_ret
    exact ⟨congrArg (fun x => Ending.returned (.int .i64 x)) HNO.out.symm, HB3.out⟩
end Go.Proofs.YtcfkemchekmjbaaGreatDoor
