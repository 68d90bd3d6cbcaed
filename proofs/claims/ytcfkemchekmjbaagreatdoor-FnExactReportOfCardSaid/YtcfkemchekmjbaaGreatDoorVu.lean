/- Merged (what the law reaches): Wv6, EdP. -/
import Derived.Test.YtcfkemchekmjbaaGreatDoorVt
namespace Go.Proofs.YtcfkemchekmjbaaGreatDoor
open Go.RowKit
def instU (ts : List Tx) (key : Nat) (k j : Nat) : List Int := instTo ts (key : Int) k ++ (if (txAt ts k).2.2 then instP (txAt ts k).2.1 key j else [])
theorem instU_zero (ts : List Tx) (key k : Nat) : instU ts key k 0 = instTo ts (key : Int) k := by unfold instU; simp [instP]
theorem instU_next {ts : List Tx} {key k j : Nat} {f : Int} {ys : List T3} {dn : Bool} (ht : ts[k]? = some (f, ys, dn)) (hk : key < 3) (hj : dn = false ∨ (lastW ys).length ≤ j) : instTo ts (key : Int) (k + 1) = instU ts key k j := by
  unfold instU
  rw [txAt_get ht]
  dsimp only
  cases dn with
  | false => rw [instTo_not ht rfl]; simp
  | true =>
    rw [instTo_done ht rfl, if_pos rfl, instP_all hk (by rcases hj with h | h; cases h; exact h)]
theorem instU_len (ts : List Tx) (key k j : Nat) : (instU ts key k j).length ≤ k + j := by
  have h1 := instTo_len ts (key : Int) k
  have h2 := instP_len (txAt ts k).2.1 key j
  unfold instU
  rw [List.length_append]
  split
  · omega
  · simp; omega
theorem instU_yes {ts : List Tx} {key k j : Nat} {f : Int} {ys : List T3} (ht : ts[k]? = some (f, ys, true)) {x y z : Int} (h : (lastW ys)[j]? = some (x, y, z)) (hy : y = (key : Int)) : instU ts key k (j + 1) = instU ts key k j ++ [z] := by
  unfold instU
  rw [txAt_get ht, if_pos rfl, if_pos rfl, instP_yes h hy, List.append_assoc]
theorem instU_no {ts : List Tx} {key k j : Nat} {f : Int} {ys : List T3} (ht : ts[k]? = some (f, ys, true)) {x y z : Int} (h : (lastW ys)[j]? = some (x, y, z)) (hy : y ≠ (key : Int)) : instU ts key k (j + 1) = instU ts key k j := by
  unfold instU
  rw [txAt_get ht, if_pos rfl, if_pos rfl, instP_no h hy]
set_option maxRecDepth 100000 in
set_option maxHeartbeats 16000000 in
theorem spec_Installed_c {A : Option Addr} {n c key : Nat} {ts : List Tx} {w : World} (hr : RTs w A n ts) (hh : histB ts = true) (hsum : (allOps ts).length ≤ 1048576) (hsm : SmallT ts) (hk : key < 3) :
    Calls Tryz.prog 119 #[.slice A n c, .int .i64 (key : Int)] w (RetI w (inst ts (key : Int))) := by
  obtain ⟨h6, hv, hnd⟩ := histB_parts hh
  have hl := hide hr.1
  have hn6 : n ≤ 6 := by rw [← hl.out]; exact h6
  have HH := hide hh; have HV := hide hv
  have HI := hide (show inB (key : Int) 0 2 = true from (inB_iff _ _ _).2 (by omega))
  have o0 := hide (OI.empty w)
  have b0 := hide ((Below.refl w.heap.size w).alloc (Nat.le_refl _) (.cells #[] 3))
  clear hh hv hnd h6
  go_enter Tryz.func119, Tryz.ntmps119
  go_wp2_with fail
  go_loopw [5, 6] (fun q i W => ∃ (k m : Nat), i = .int .i64 k ∧ k ≤ n ∧ OI W w.heap.size q m (instTo ts (key : Int) k) ∧ Below w.heap.size w W) (fun _ i _ => n - (intOf i).toNat)
  case atStart => exact ⟨0, 0, rfl, Nat.zero_le _, o0.out, b0.out⟩
  case round =>
    clear o0 b0
    obtain ⟨k, m, rfl, hkn0, ho, bw⟩ := hrel
    rename World => wr
    have BW0 := hide bw; have HO0 := hide ho; clear bw ho
    by_cases hkn : k < n
    · have k2 : (k : Int) < n := by omega
      go_upto_region 5 with (first | (go_at_call 118; refine (spec_HistoryValid_c (hr.below BW0.out) (by omega) hsum hsm).mono ?_; rintro e w2 ⟨rfl, b2⟩; rw [HH.out]) | (go_at_call 45; refine (l1In_c).mono ?_; rintro e w' ⟨rfl, rfl⟩; rw [HI.out]))
      have B2 := hide (below_step BW0.out b2)
      have O2 := hide (HO0.out.below b2)
      clear b2 BW0 HO0
      obtain ⟨b, off, f, ys, dn, B, kk, d, rfl, hbb, hx, q0, q1, q2, hkd, hdm, hri⟩ := hr.at_ hkn
      have hyl := hide hri.len
      have hv1 := HV.out _ (List.mem_of_getElem? hx)
      have hk6 : kk ≤ 6 := by rw [← hyl.out]; exact txnB_lenH hv1
      have HX := hide hx; have Q2 := hide q2; have HV1 := hide hv1
      have e0 := (B2.out.cell (p := ⟨b, off + k * 3, none⟩) hbb).trans q0
      have e1 := (B2.out.cell (p := ⟨b, off + k * 3 + 1, none⟩) hbb).trans q1
      have e2 := (B2.out.cell (p := ⟨b, off + k * 3 + 2, none⟩) hbb).trans q2
      have s3 : S3 w2 (.slice B kk d) kk ys := (S3.of_args hkd (by omega) hri).below B2.out
      clear q0 q1 q2 hx hv1
      go_wp2_with fail
      refine (spec_LastWrites_c s3 HV1.out).mono ?_
      rintro e w3 ⟨r3, m3, rfl, o3, b3⟩
      have B3 := hide (below_step B2.out b3)
      have O3' := hide (O2.out.below b3)
      have hlen3 := hide o3.len
      have hm3 : m3 ≤ 3 := by rw [← o3.len, ← lastTo_three]; exact lastTo_len ys 3
      have OW3 := hide (o3.mono (B' := w.heap.size) B2.out.size)
      obtain ⟨A3, c3, rfl⟩ := o3.shape
      clear b3 o3 e0 e1 e2 s3 O2 B2
      go_wp2_with fail
      go_loopw [5, 8] (fun q i W => ∃ (j m : Nat), i = .int .i64 j ∧ j ≤ m3 ∧ OI W w.heap.size q m (instU ts key k j) ∧ O3 61 W w.heap.size (.slice A3 m3 c3) m3 (lastW ys) ∧ Below w.heap.size w W) (fun _ i _ => m3 - (intOf i).toNat)
      case atStart => exact ⟨0, m, rfl, Nat.zero_le _, by rw [instU_zero]; exact O3'.out, OW3.out, B3.out⟩
      case round =>
        clear B3 O3' OW3
        obtain ⟨j, m, rfl, hj, ho, ol, bw⟩ := hrel
        rename World => w4
        have BW := hide bw; have HO := hide ho; have HOL := hide ol
        have g2 := (BW.out.cell (p := ⟨b, off + k * 3 + 2, none⟩) hbb).trans Q2.out
        have hm12 : m ≤ 12 := by rw [← ho.len]; exact Nat.le_trans (instU_len ts key k j) (by omega)
        obtain ⟨Ao, co, rfl⟩ := ho.shape
        clear bw ho
        by_cases hjm : j < m3
        · obtain ⟨A9, c9, e9, _, _, hr9⟩ := ol.s3
          injection e9 with e9 _ e10
          subst e9; subst e10
          obtain ⟨b2, off2, x, y, z, rfl, hbb2, hx2, p0, p1, p2⟩ := hr9.at_ hjm
          have HX2 := hide hx2
          have j2 : (j : Int) < m3 := by omega
          clear hx2 ol
          cases dn
          · have hnx := hide (instU_next (j := j) HX.out hk (.inl rfl))
            go_wp2_with fail
            go_roundw
            case rel => exact ⟨k + 1, m, by go_num, by omega, by rw [hnx.out]; exact HO.out, BW.out⟩
            case measure => simp [intOf]; omega
          · by_cases hy : y = (key : Int)
            · have hyb : (y == (key : Int)) = true := by simpa using hy
              have hyes := hide (instU_yes HX.out HX2.out hy)
              have oa := hide (HO.out.alloc (.cells #[.int .i64 z] 3))
              have ba := hide (BW.out.alloc BW.out.size (.cells #[.int .i64 z] 3))
              have ola := hide (HOL.out.alloc (.cells #[.int .i64 z] 3))
              have hne := own_ne2 ola.out.1 oa.out.1 (by decide)
              have sone : SI (w4.alloc (.cells #[.int .i64 z] 3)) (.slice (some ⟨w4.heap.size, 0, none⟩) 1 1) 1 [z] := SI.one _ _ _ (by omega)
              clear hy
              go_wp2_with (at_builtin; refine wpList_appI rfl _ _ rfl rfl oa.out rfl sone (by omega) (ba.out.size) ?_; intro v7 w7 o7 hg7 _)
              have B7 := Below.grown ba.out hg7 ba.out.size (fun q hq => (World.ownsRow.lt oa.out.1 q hq).1)
              have ol7 := ola.out.grown hg7 hne
              go_roundw
              case rel => exact ⟨j + 1, m + 1, by go_num, by omega, by rw [hyes.out]; exact o7, ol7, B7⟩
              case measure => simp [intOf]; omega
            · have hyb : (y == (key : Int)) = false := by simpa using hy
              have hno := hide (instU_no HX.out HX2.out hy)
              clear hy
              go_wp2_with fail
              go_roundw
              case rel => exact ⟨j + 1, m, by go_num, by omega, by rw [hno.out]; exact HO.out, HOL.out, BW.out⟩
              case measure => simp [intOf]; omega
        · obtain rfl : m3 = j := by omega
          have hnx := hide (instU_next (j := m3) HX.out hk (.inr (by rw [hlen3.out]; exact Nat.le_refl _)))
          clear ol
          go_wp2_with fail
          go_roundw
          case rel => exact ⟨k + 1, m, by go_num, by omega, by rw [hnx.out]; exact HO.out, BW.out⟩
          case measure => simp [intOf]; omega
    · obtain rfl : n = k := by omega
      have he : inst ts (key : Int) = instTo ts (key : Int) n := by unfold inst; rw [hl.out]
      have HE := hide he; clear he
      obtain ⟨Ao, co, rfl⟩ := HO0.out.shape
      go_wp2_with fail
      go_ret
      exact ⟨_, m, rfl, by rw [HE.out]; exact HO0.out, BW0.out⟩
/-- The same different numbers. -/
def sameB (a b : List Int) : Bool := b.all (fun x => decide (a.count x = 1)) && decide (a.length = b.length)
theorem perm_of_sub : ∀ (b a : List Int), b.Nodup → (∀ x ∈ b, x ∈ a) → a.length = b.length → a.Perm b
  | [], a, _, _, hl => by rw [List.eq_nil_of_length_eq_zero hl]
  | x :: b, a, hn, hs, hl => by
    obtain ⟨h1, h2⟩ := List.nodup_cons.1 hn
    have hx : x ∈ a := hs x (by simp)
    have h3 := perm_of_sub b (a.erase x) h2 (fun y hy => by
      have hne : y ≠ x := fun e => h1 (e ▸ hy)
      exact (List.mem_erase_of_ne hne).2 (hs y (by simp [hy]))) (by rw [List.length_erase_of_mem hx, hl]; simp)
    exact (List.perm_cons_erase hx).trans (h3.cons x)
theorem sameB_perm {a b : List Int} (hb : b.Nodup) : sameB a b = true ↔ a.Perm b := by
  unfold sameB
  simp only [Bool.and_eq_true, List.all_eq_true, decide_eq_true_eq]
  constructor
  · rintro ⟨h1, h2⟩
    refine perm_of_sub b a hb (fun x hx => ?_) h2
    have := h1 x hx
    exact List.count_pos_iff.1 (by omega)
  · intro h
    refine ⟨fun x hx => ?_, h.length_eq⟩
    rw [h.count_eq]
    have h1 := List.nodup_iff_count.1 hb x
    have h2 := List.count_pos_iff.2 hx
    omega
theorem count_take {a : List Int} {x : Int} {j : Nat} {y : Int} (h : a[j]? = some y) : (a.take (j + 1)).count x = (a.take j).count x + (if y = x then 1 else 0) := by
  rw [List.take_add_one, h, List.count_append]
  by_cases e : y = x
  · subst e; simp
  · rw [if_neg e]; simp [e]
set_option maxRecDepth 100000 in
set_option maxHeartbeats 4000000 in
theorem l7Same_c {u v : Value} {n m : Nat} {a b : List Int} {w : World} (hu : SI w u n a) (hv : SI w v m b) :
    Calls Tryz.prog 225 #[u, v] w fun e w' => e = .returned (.bool (sameB a b)) ∧ Below w.heap.size w w' := by
  obtain ⟨A, c, rfl, _, hn, ha⟩ := hu
  obtain ⟨B, d, rfl, _, hm, hb⟩ := hv
  have hla := hide ha.len
  have hlb := hide hb.len
  go_enter Tryz.func225, Tryz.ntmps225
  go_wp2_with fail
  go_loopw [5] (fun i W => ∃ k : Nat, i = .int .i64 k ∧ k ≤ m ∧ (b.take k).all (fun x => decide (a.count x = 1)) = true ∧ Below w.heap.size w W) (fun i _ => m - (intOf i).toNat)
  case atStart => exact ⟨0, rfl, Nat.zero_le _, by simp, Below.refl _ _⟩
  case round =>
    obtain ⟨k, rfl, hk, hall, bw⟩ := hrel
    rename World => wr
    have HALL := hide hall; have BW := hide bw; clear hall bw
    by_cases hkm : k < m
    · obtain ⟨b2, o2, y, rfl, hb2, hy, cy⟩ := hb.at_ hkm
      have HY := hide hy
      have k2 : (k : Int) < m := by omega
      clear hy
      go_wp2_with fail
      go_loopw [6, 7] (fun q i W => ∃ j : Nat, q = .int .i64 ((a.take j).count y : Nat) ∧ i = .int .i64 j ∧ j ≤ n ∧ Below w.heap.size w W) (fun _ i _ => n - (intOf i).toNat)
      case atStart => exact ⟨0, by simp, rfl, Nat.zero_le _, BW.out⟩
      case round =>
        clear BW
        obtain ⟨j, rfl, rfl, hj, bw⟩ := hrel
        rename World => w2
        have BW := hide bw; clear bw
        have hcl : (a.take j).count y ≤ j := Nat.le_trans List.count_le_length (List.length_take_le _ _)
        by_cases hjn : j < n
        · obtain ⟨b1, o1, x, rfl, hb1, hx, cx⟩ := ha.at_ hjn
          have c1 := (BW.out.cell (p := ⟨b1, o1 + j, none⟩) hb1).trans cx
          have c2 := (BW.out.cell (p := ⟨b2, o2 + k, none⟩) hb2).trans cy
          have hct := hide (count_take (x := y) hx)
          have j2 : (j : Int) < n := by omega
          generalize hq : (a.take j).count y = q at hcl hct
          have HQ := hide hq
          clear hx cx hq
          by_cases hxy : x = y
          · have hxb : (x == y) = true := by simpa using hxy
            have hc1 := hide (hct.out.trans (by rw [if_pos hxy]))
            clear hxy
            go_wp2_with fail
            go_region
            go_wp2_with fail
            go_roundw
            case rel => exact ⟨j + 1, by rw [hc1.out]; go_num, by go_num, by omega, BW.out.drew⟩
            case measure => simp [intOf]; omega
          · have hxb : (x == y) = false := by simpa using hxy
            have hc1 := hide (hct.out.trans (by rw [if_neg hxy]))
            clear hxy
            go_wp2_with fail
            go_region
            go_wp2_with fail
            go_roundw
            case rel => exact ⟨j + 1, by rw [hc1.out]; rfl, by go_num, by omega, BW.out.drew⟩
            case measure => simp [intOf]; omega
        · obtain rfl : n = j := by omega
          have hfull : (a.take n).count y = a.count y := by rw [List.take_of_length_le (by rw [hla.out]; exact Nat.le_refl _)]
          rw [hfull]
          by_cases h1 : a.count y = 1
          · have hs := hide (show (b.take (k + 1)).all (fun x => decide (a.count x = 1)) = true by
              rw [List.take_add_one, HY.out, List.all_append, HALL.out]; simp [h1])
            have h1b : (((a.count y : Nat) : Int) != 1) = false := by rw [h1]; rfl
            clear h1 hcl hfull
            go_wp2_with fail
            go_roundw
            case rel => exact ⟨k + 1, by go_num, by omega, hs.out, BW.out⟩
            case measure => simp [intOf]; omega
          · have hf : sameB a b = false := by
              cases e : sameB a b with
              | false => rfl
              | true =>
                unfold sameB at e
                simp only [Bool.and_eq_true, List.all_eq_true, decide_eq_true_eq] at e
                exact absurd (e.1 y (List.mem_of_getElem? HY.out)) h1
            have G := hide hf; clear hf
            have h1b : (((a.count y : Nat) : Int) != 1) = true := by simp; omega
            clear h1 hcl hfull
            go_wp2_with fail
            go_ret
            exact ⟨by rw [G.out]; rfl, BW.out⟩
    · obtain rfl : m = k := by omega
      have hf : sameB a b = decide (n = m) := by
        have h1 := HALL.out
        rw [List.take_of_length_le (by rw [hlb.out]; exact Nat.le_refl _)] at h1
        unfold sameB
        rw [h1, hla.out, hlb.out]; rfl
      have G := hide hf; clear hf
      go_wp2_with fail
      go_ret
      exact ⟨by rw [G.out]; simp [go_sem, Bool.beq_eq_decide_eq]; constructor <;> intro h <;> omega, BW.out⟩
set_option maxRecDepth 100000 in
set_option maxHeartbeats 8000000 in
theorem spec_OrdersValid_c {A Ao : Option Addr} {n c no co : Nat} {ts : List Tx} {os : Ls} {w : World} (hr : RTs w A n ts) (hh : histB ts = true) (hsum : (allOps ts).length ≤ 1048576) (hsm : SmallT ts) (ho : RL w Ao no os) (_hno : no ≤ 1048576) :
    Calls Tryz.prog 194 #[.slice A n c, .slice Ao no co] w fun e w' => e = .returned (.bool (ordersB ts os)) ∧ Below w.heap.size w w' := by
  have hnd := (histB_parts hh).2.2
  have hl := hide hr.1
  have hn6 : n ≤ 6 := by rw [← hl.out]; exact (histB_parts hh).1
  have HH := hide hh; have HND := hide hnd
  have hlo := hide ho.1
  clear hh hnd
  go_enter Tryz.func194, Tryz.ntmps194
  go_wp2_with fail
  go_loopw [5] (fun i W => ∃ k : Nat, i = .int .i64 k ∧ k ≤ 3 ∧ k ≤ no ∧ (∀ q : Nat, q < k → (os.getD q []).Perm (inst ts (q : Int))) ∧ Below w.heap.size w W) (fun i _ => 3 - (intOf i).toNat)
  case atStart => exact ⟨0, rfl, Nat.zero_le _, Nat.zero_le _, fun q h => by omega, Below.refl _ _⟩
  case round =>
    obtain ⟨k, rfl, hk3, hkn, hp, bw⟩ := hrel
    rename World => wr
    have HP := hide hp; have BW := hide bw; clear hp bw
    have hend : (¬ (k < 3 ∧ k < no)) → ordersB ts os = decide (no = 3) := fun hne => by
      by_cases h3 : no = 3
      · rw [decide_eq_true h3]
        exact ordersB_mk HH.out (by rw [hlo.out, h3]) (fun key hkey => HP.out key (by omega))
      · rw [decide_eq_false h3]
        cases e : ordersB ts os with
        | false => rfl
        | true => have := (ordersB_parts e).2.1; have := hlo.out; omega
    have HEND := hide hend; clear hend
    by_cases hk : k < 3
    · have k2 : (k : Int) ≤ 2 := by omega
      by_cases hkl : k < no
      · have k4 : (k : Int) < no := by omega
        obtain ⟨b, off, xs, B, kk, d, rfl, hbb, hx, hc, hkd, hkm, hri⟩ := ho.at_ hkl
        have HX := hide hx
        have s1 := hide ((SI.of_args hkd hkm hri).below BW.out)
        have hgd : os.getD k [] = xs := by rw [List.getD_eq_getElem?_getD, hx]; rfl
        have HGD := hide hgd
        have hcl : ∀ W, Below wr.heap.size wr W → W.cell? ⟨b, off + k, none⟩ = some (.slice B kk d) := fun W hW => ((BW.out.trans (hW.mono BW.out.size)).cell (p := ⟨b, off + k, none⟩) hbb).trans hc
        have HC := hide hcl
        clear hx hcl hgd hri
        go_upto_region 4 with fail
        have BZ : Below wr.heap.size wr wr.drew := (Below.refl _ _).drew
        refine wp_region_held_drew (S := (fun W => W.cell? ⟨b, off + k, none⟩ = some (.slice B kk d))) (by kernel_rfl) ?_ (fun hHeld => ?_)
        · exact HC.out _ BZ
        refine wpAnyH_take (i := 0) (v := ?vv1_0) (by rw [List.getElem?_toArray]; exact rfl) (by kernel_rfl) (by kernel_rfl) (by kernel_rfl) (by intro _ _ _ h; exact h) (Or.inl ⟨by rfl, ?hy1_0⟩) hHeld ?rest1_0
        case' hy1_0 => (intro w hSw; (try dsimp only at hSw); go_simp; try (with_reducible rfl))
        (try simp only [Act.put, List.setIfInBounds_toArray, List.set_cons_zero, List.set_cons_succ])
        refine wpAnyH_take (i := 1) (v := ?vv1_1) (by rw [List.getElem?_toArray]; exact rfl) (by kernel_rfl) (by kernel_rfl) (by kernel_rfl) (by intro _ _ _ h; exact h) (Or.inl ⟨by rfl, ?hy1_1⟩) hHeld ?rest1_1
        case' hy1_1 => (intro w hSw; (try dsimp only at hSw); go_simp; try (with_reducible rfl))
        (try simp only [Act.put, List.setIfInBounds_toArray, List.set_cons_zero, List.set_cons_succ])
        refine wpAnyH_take (i := 2) (v := ?vv1_2) (by rw [List.getElem?_toArray]; exact rfl) (by kernel_rfl) (by kernel_rfl) (by kernel_rfl) (by intro _ _ _ h; exact h) (Or.inl ⟨by rfl, ?hy1_2⟩) hHeld ?rest1_2
        case' hy1_2 => (intro w hSw; (try dsimp only at hSw); go_simp; try (with_reducible rfl))
        (try simp only [Act.put, List.setIfInBounds_toArray, List.set_cons_zero, List.set_cons_succ])
        refine wpAnyH_take (i := 3) (v := ?vv1_3) (by rw [List.getElem?_toArray]; exact rfl) (by kernel_rfl) (by kernel_rfl) (by kernel_rfl) (by intro _ _ _ h; exact h) (Or.inl ⟨by rfl, ?hy1_3⟩) hHeld ?rest1_3
        case' hy1_3 => (intro w hSw; (try dsimp only at hSw); go_simp; try (with_reducible rfl))
        (try simp only [Act.put, List.setIfInBounds_toArray, List.set_cons_zero, List.set_cons_succ])
        refine wpAnyH_take (i := 4) (v := ?vv1_4) (by rw [List.getElem?_toArray]; exact rfl) (by kernel_rfl) (by kernel_rfl) (by kernel_rfl) (by intro _ _ _ h; exact h) (Or.inl ⟨by rfl, ?hy1_4⟩) hHeld ?rest1_4
        case' hy1_4 => (intro w hSw; (try dsimp only at hSw); go_simp; try (with_reducible rfl))
        (try simp only [Act.put, List.setIfInBounds_toArray, List.set_cons_zero, List.set_cons_succ])
        refine wpAnyH_take (i := 5) (v := ?vv1_5) (by rw [List.getElem?_toArray]; exact rfl) (by kernel_rfl) (by kernel_rfl) (by kernel_rfl) (by intro _ _ _ h; exact h) (Or.inl ⟨by rfl, ?hy1_5⟩) hHeld ?rest1_5
        case' hy1_5 => (intro w hSw; (try dsimp only at hSw); go_simp; try (with_reducible rfl))
        (try simp only [Act.put, List.setIfInBounds_toArray, List.set_cons_zero, List.set_cons_succ])
        refine wpAnyH_ready (rs := [6]) (by kernel_rfl) (by simp) ?_
        refine AllReadyH.cons (by rw [List.getElem?_toArray]; exact rfl) (fun K hK => ?_) AllReadyH.nil
        go_simp
        go_at_call 119
        refine (spec_Installed_c (hr.below (BW.out.trans (BZ.mono BW.out.size))) HH.out hsum hsm (by omega)).mono ?_
        rintro e w5 ⟨r5, k5, rfl, o5, b5⟩
        replace BZ := below_step BZ b5
        clear b5
        refine hK.out _ _ ?_ (fun hHeld => ?_)
        · exact HC.out _ BZ
        clear hK K
        (try simp only [Act.put, List.setIfInBounds_toArray, List.set_cons_zero, List.set_cons_succ])
        refine wpAnyH_ready (rs := [7]) (by kernel_rfl) (by simp) ?_
        refine AllReadyH.cons (by rw [List.getElem?_toArray]; exact rfl) (fun K hK => ?_) AllReadyH.nil
        go_simp
        go_at_call 225
        refine (l7Same_c (s1.out.below BZ) o5.si).mono ?_
        rintro e w6 ⟨rfl, b6⟩
        replace BZ := below_step BZ b6
        clear b6 o5
        refine hK.out _ _ ?_ (fun hHeld => ?_)
        · exact HC.out _ BZ
        clear hK K
        (try simp only [Act.put, List.setIfInBounds_toArray, List.set_cons_zero, List.set_cons_succ])
        refine wpAnyH_take (i := 8) (v := ?vv1_8) (by rw [List.getElem?_toArray]; exact rfl) (by kernel_rfl) (by kernel_rfl) (by kernel_rfl) (by intro _ _ _ h; exact h) (Or.inl ⟨by rfl, ?hy1_8⟩) hHeld ?rest1_8
        case' hy1_8 => (intro w hSw; (try dsimp only at hSw); go_simp; try (with_reducible rfl))
        (try simp only [Act.put, List.setIfInBounds_toArray, List.set_cons_zero, List.set_cons_succ])
        refine wpAnyH_done (by kernel_rfl) ?_ _
        have B6 := hide (below_step BW.out BZ)
        have hnd := inst_nodup HND.out (k : Int)
        cases hs : sameB xs (inst ts (k : Int))
        · have hf : ordersB ts os = false := ordersB_no hk (by rw [HGD.out]; intro h; rw [(sameB_perm hnd).2 h] at hs; cases hs)
          have G := hide hf; clear hf hs hnd
          go_wp2_with fail
          go_ret
          exact ⟨by rw [G.out]; rfl, B6.out⟩
        · have hst := hide (show ∀ q : Nat, q < k + 1 → (os.getD q []).Perm (inst ts (q : Int)) from fun q hq => by
            by_cases e : q = k
            · subst e; rw [HGD.out]; exact (sameB_perm hnd).1 hs
            · exact HP.out q (by omega))
          clear hs hnd
          go_wp2_with fail
          go_roundw
          case rel => exact ⟨k + 1, by go_num, by omega, by omega, hst.out, B6.out⟩
          case measure => simp [intOf]; omega
      · have k4 : ¬ (k : Int) < no := by omega
        have hf := hide (HEND.out (by omega))
        clear HEND hk3 hkn
        go_wp2_with (go_at_call 118; refine (spec_HistoryValid_c (hr.below BW.out) (by omega) hsum hsm).mono ?_; rintro e w9 ⟨rfl, b9⟩; rw [HH.out])
        go_ret
        exact ⟨by rw [hf.out]; simp [go_sem, Bool.beq_eq_decide_eq]; constructor <;> intro h <;> omega, below_step BW.out b9⟩
    · have k2 : ¬ (k : Int) ≤ 2 := by omega
      have hf := hide (HEND.out (by omega))
      clear HEND hk3 hkn
      go_wp2_with (go_at_call 118; refine (spec_HistoryValid_c (hr.below BW.out) (by omega) hsum hsm).mono ?_; rintro e w9 ⟨rfl, b9⟩; rw [HH.out])
      go_ret
      exact ⟨by rw [hf.out]; simp [go_sem, Bool.beq_eq_decide_eq]; constructor <;> intro h <;> omega, below_step BW.out b9⟩
end Go.Proofs.YtcfkemchekmjbaaGreatDoor

namespace Go.Proofs.YtcfkemchekmjbaaGreatDoor
open Go.RowKit
/-- The value behind a value in an order; the first one behind 0. -/
def nextV (xs : List Int) (v : Int) : Option Int := if v = 0 then xs[0]? else (xs.idxOf? v).bind fun i => xs[i + 1]?
/-- Two different committed transactions. -/
def PutP (ts : List Tx) (f t : Int) : Prop := ∃ (a b : Nat) (p q : Tx), f = a ∧ t = b ∧ a ≠ b ∧ ts[a]? = some p ∧ ts[b]? = some q ∧ p.2.2 = true ∧ q.2.2 = true
/-- Edges of kind 1, of the places before (k, i). -/
def SeenW (ts : List Tx) (os : List (List Int)) (k i : Nat) (e : T3) : Prop :=
  ∃ (key j : Nat) (v v' : Int), (key < k ∨ (key = k ∧ j + 1 < i)) ∧ (os.getD key [])[j]? = some v ∧ (os.getD key [])[j + 1]? = some v' ∧ e = (writerV ts key v, writerV ts key v', 1) ∧ PutP ts e.1 e.2.1
/-- Edges of kinds 2 and 3 of a read of transaction n. -/
def EdR (ts : List Tx) (n : Nat) (o e : T3) : Prop := e = (writerV ts o.2.1 o.2.2, (n : Int), 2) ∧ PutP ts e.1 e.2.1
def EdO (ts : List Tx) (os : List (List Int)) (n : Nat) (o e : T3) : Prop := (∃ v', nextV (os.getD o.2.1.toNat []) o.2.2 = some v' ∧ e = ((n : Int), writerV ts o.2.1 v', 3)) ∧ PutP ts e.1 e.2.1
/-- Edges of the reads before read j of transaction n. -/
def SeeR (ts : List Tx) (os : List (List Int)) (n j : Nat) (e : T3) : Prop :=
  ∃ (m i : Nat) (t : Tx) (o : T3), (m < n ∨ (m = n ∧ i < j)) ∧ ts[m]? = some t ∧ t.2.2 = true ∧ (firstR t.2.1)[i]? = some o ∧ (EdR ts m o e ∨ EdO ts os m o e)
def EdgeP (ts : List Tx) (os : List (List Int)) (e : T3) : Prop := SeenW ts os 3 0 e ∨ SeeR ts os ts.length 0 e
theorem SeenW.zero {ts : List Tx} {os : List (List Int)} {i : Nat} (hi : i ≤ 1) (e : T3) : ¬ SeenW ts os 0 i e := by
  rintro ⟨key, j, v, v', h, _⟩; omega
theorem SeenW.next {ts : List Tx} {os : List (List Int)} {k i : Nat} (hi : (os.getD k []).length ≤ i) (e : T3) : SeenW ts os (k + 1) 1 e ↔ SeenW ts os k i e := by
  constructor
  · rintro ⟨key, j, v, v', h, h1, h2, h3⟩
    refine ⟨key, j, v, v', ?_, h1, h2, h3⟩
    by_cases e : key = k
    · subst e; have := (List.getElem?_eq_some_iff.1 h2).1; omega
    · omega
  · rintro ⟨key, j, v, v', h, h1⟩
    exact ⟨key, j, v, v', by omega, h1⟩
theorem SeenW.step {ts : List Tx} {os : List (List Int)} {k i : Nat} {v v' : Int} (h1 : (os.getD k [])[i]? = some v) (h2 : (os.getD k [])[i + 1]? = some v') (e : T3) :
    SeenW ts os k (i + 2) e ↔ (SeenW ts os k (i + 1) e ∨ (e = (writerV ts k v, writerV ts k v', 1) ∧ PutP ts e.1 e.2.1)) := by
  constructor
  · rintro ⟨key, j, a, b, h, g1, g2, g3, g4⟩
    by_cases e : key = k ∧ j = i
    · obtain ⟨rfl, rfl⟩ := e
      rw [h1] at g1; rw [h2] at g2
      injection g1 with g1; injection g2 with g2; subst g1; subst g2
      exact .inr ⟨g3, g4⟩
    · exact .inl ⟨key, j, a, b, by omega, g1, g2, g3, g4⟩
  · rintro (⟨key, j, a, b, h, g⟩ | ⟨g3, g4⟩)
    · exact ⟨key, j, a, b, by omega, g⟩
    · exact ⟨k, i, v, v', by omega, h1, h2, g3, g4⟩
theorem SeeR.zero {ts : List Tx} {os : List (List Int)} (e : T3) : ¬ SeeR ts os 0 0 e := by
  rintro ⟨m, i, t, o, h, _⟩; omega
theorem SeeR.skip {ts : List Tx} {os : List (List Int)} {n : Nat} {t : Tx} (ht : ts[n]? = some t) (hd : t.2.2 = false) (e : T3) : SeeR ts os (n + 1) 0 e ↔ SeeR ts os n 0 e := by
  constructor
  · rintro ⟨m, i, t', o, h, h1, h2, h3⟩
    refine ⟨m, i, t', o, ?_, h1, h2, h3⟩
    by_cases e : m = n
    · subst e; rw [ht] at h1; injection h1 with h1; subst h1; rw [hd] at h2; cases h2
    · omega
  · rintro ⟨m, i, t', o, h, h1⟩
    exact ⟨m, i, t', o, by omega, h1⟩
theorem SeeR.next {ts : List Tx} {os : List (List Int)} {n j : Nat} {t : Tx} (ht : ts[n]? = some t) (hj : (firstR t.2.1).length ≤ j) (e : T3) : SeeR ts os (n + 1) 0 e ↔ SeeR ts os n j e := by
  constructor
  · rintro ⟨m, i, t', o, h, h1, h2, h3, h4⟩
    refine ⟨m, i, t', o, ?_, h1, h2, h3, h4⟩
    by_cases e : m = n
    · subst e; rw [ht] at h1; injection h1 with h1; subst h1
      have := (List.getElem?_eq_some_iff.1 h3).1; omega
    · omega
  · rintro ⟨m, i, t', o, h, h1⟩
    exact ⟨m, i, t', o, by omega, h1⟩
theorem SeeR.step {ts : List Tx} {os : List (List Int)} {n j : Nat} {t : Tx} {o : T3} (ht : ts[n]? = some t) (hd : t.2.2 = true) (ho : (firstR t.2.1)[j]? = some o) (e : T3) :
    SeeR ts os n (j + 1) e ↔ (SeeR ts os n j e ∨ EdR ts n o e ∨ EdO ts os n o e) := by
  constructor
  · rintro ⟨m, i, t', o', h, h1, h2, h3, h4⟩
    by_cases e : m = n ∧ i = j
    · obtain ⟨rfl, rfl⟩ := e
      rw [ht] at h1; injection h1 with h1; subst h1
      rw [ho] at h3; injection h3 with h3; subst h3
      exact .inr h4
    · exact .inl ⟨m, i, t', o', by omega, h1, h2, h3, h4⟩
  · rintro (⟨m, i, t', o', h, h1⟩ | h4)
    · exact ⟨m, i, t', o', by omega, h1⟩
    · exact ⟨n, j, t, o, by omega, ht, hd, ho, h4⟩
theorem SeeR.all {ts : List Tx} {os : List (List Int)} {n j : Nat} (hn : ts.length ≤ n) (e : T3) : SeeR ts os n j e ↔ SeeR ts os ts.length 0 e := by
  constructor
  · rintro ⟨m, i, t', o, h, h1, h2⟩
    have := (List.getElem?_eq_some_iff.1 h1).1
    exact ⟨m, i, t', o, by omega, h1, h2⟩
  · rintro ⟨m, i, t', o, h, h1⟩
    exact ⟨m, i, t', o, by omega, h1⟩
/-- All that may be edges, in their order. -/
def tri : List T3 := (List.range 6).flatMap fun (a : Nat) => (List.range 6).flatMap fun (b : Nat) => [((a : Int), (b : Int), (1 : Int)), ((a : Int), (b : Int), 2), ((a : Int), (b : Int), 3), ((a : Int), (b : Int), 4)]
theorem mem_tri {e : T3} : e ∈ tri ↔ (0 ≤ e.1 ∧ e.1 < 6) ∧ (0 ≤ e.2.1 ∧ e.2.1 < 6) ∧ 1 ≤ e.2.2 ∧ e.2.2 ≤ 4 := by
  obtain ⟨x, y, z⟩ := e
  unfold tri
  simp only [List.mem_flatMap, List.mem_range, List.mem_cons, Prod.mk.injEq, List.not_mem_nil, or_false]
  constructor
  · rintro ⟨a, ha, b, hb, h⟩; omega
  · rintro ⟨⟨h1, h2⟩, ⟨h3, h4⟩, h5, h6⟩
    refine ⟨x.toNat, by omega, y.toNat, by omega, ?_⟩
    omega
noncomputable def cd (p : Prop) : Bool := @decide p (Classical.propDecidable p)
theorem cd_true {p : Prop} : cd p = true ↔ p := by unfold cd; exact @decide_eq_true_iff p (Classical.propDecidable p)
theorem cd_yes {p : Prop} (h : p) : cd p = true := cd_true.2 h
theorem cd_no {p : Prop} (h : ¬ p) : cd p = false := by
  cases e : cd p with
  | false => rfl
  | true => exact absurd (cd_true.1 e) h
theorem cd_congr {p q : Prop} (h : p ↔ q) : cd p = cd q := by rw [Bool.eq_iff_iff, cd_true, cd_true]; exact h
noncomputable def canonL (S : T3 → Prop) : List T3 := tri.filter (fun e => cd (S e))
theorem mem_canonL {S : T3 → Prop} {e : T3} : e ∈ canonL S ↔ e ∈ tri ∧ S e := by unfold canonL; rw [List.mem_filter, cd_true]
theorem canonL_congr {S S' : T3 → Prop} (h : ∀ e, e ∈ tri → (S e ↔ S' e)) : canonL S = canonL S' := by
  unfold canonL
  exact List.filter_congr (fun e he => cd_congr (h e he))
/-- The order of edges. -/
def ltE (a b : T3) : Prop := a.1 < b.1 ∨ (a.1 = b.1 ∧ (a.2.1 < b.2.1 ∨ (a.2.1 = b.2.1 ∧ a.2.2 < b.2.2)))
instance (a b : T3) : Decidable (ltE a b) := by unfold ltE; exact inferInstance
theorem ltE.irrefl {a : T3} : ¬ ltE a a := by unfold ltE; omega
theorem ltE.trans {a b c : T3} (h : ltE a b) (g : ltE b c) : ltE a c := by unfold ltE at *; omega
theorem tri_sorted : tri.Pairwise ltE := by decide +kernel
theorem canonL_sorted (S : T3 → Prop) : (canonL S).Pairwise ltE := tri_sorted.filter _
theorem sorted_ext : ∀ {a b : List T3}, a.Pairwise ltE → b.Pairwise ltE → (∀ e, e ∈ a ↔ e ∈ b) → a = b
  | [], [], _, _, _ => rfl
  | [], y :: b, _, _, h => by have := (h y).2 (by simp); simp at this
  | x :: a, [], _, _, h => by have := (h x).1 (by simp); simp at this
  | x :: a, y :: b, ha, hb, h => by
    obtain ⟨h1, h2⟩ := List.pairwise_cons.1 ha
    obtain ⟨g1, g2⟩ := List.pairwise_cons.1 hb
    have e : x = y := by
      rcases List.mem_cons.1 ((h x).1 (by simp)) with e | hx
      · exact e
      · rcases List.mem_cons.1 ((h y).2 (by simp)) with e | hy
        · exact e.symm
        · exact absurd ((g1 x hx).trans (h1 y hy)) ltE.irrefl
    subst e
    congr 1
    refine sorted_ext h2 g2 (fun e => ?_)
    constructor
    · intro he
      rcases List.mem_cons.1 ((h e).1 (by simp [he])) with e1 | e1
      · subst e1; exact absurd (h1 e he) ltE.irrefl
      · exact e1
    · intro he
      rcases List.mem_cons.1 ((h e).2 (by simp [he])) with e1 | e1
      · subst e1; exact absurd (g1 e he) ltE.irrefl
      · exact e1
theorem canonL_len (S : T3 → Prop) : (canonL S).length ≤ 144 := Nat.le_trans (List.length_filter_le _ _) (by decide +kernel)
noncomputable def edgesL (ts : List Tx) (os : List (List Int)) : List T3 := if ordersB ts os then canonL (EdgeP ts os) else []
theorem edgesL_yes {ts : List Tx} {os : List (List Int)} (h : ordersB ts os = true) : edgesL ts os = canonL (EdgeP ts os) := by unfold edgesL; rw [if_pos h]
theorem edgesL_no {ts : List Tx} {os : List (List Int)} (h : ordersB ts os = false) : edgesL ts os = [] := by unfold edgesL; rw [h]; rfl
theorem PutP.range {ts : List Tx} {f t : Int} (h : PutP ts f t) : (0 ≤ f ∧ f < ts.length) ∧ (0 ≤ t ∧ t < ts.length) ∧ f ≠ t := by
  obtain ⟨a, b, p, q, rfl, rfl, hab, h1, h2, _⟩ := h
  have := (List.getElem?_eq_some_iff.1 h1).1
  have := (List.getElem?_eq_some_iff.1 h2).1
  omega
theorem EdgeP.put {ts : List Tx} {os : List (List Int)} {e : T3} (h : EdgeP ts os e) : PutP ts e.1 e.2.1 ∧ 1 ≤ e.2.2 ∧ e.2.2 ≤ 3 := by
  rcases h with ⟨key, j, v, v', _, _, _, h1, h2⟩ | ⟨m, i, t, o, _, _, _, _, h | h⟩
  · exact ⟨h2, by rw [h1]; show (1 : Int) ≤ _; simp, by rw [h1]; show _ ≤ (3 : Int); simp⟩
  · exact ⟨h.2, by rw [h.1]; show (1 : Int) ≤ _; simp, by rw [h.1]; show _ ≤ (3 : Int); simp⟩
  · obtain ⟨⟨v', _, h1⟩, h2⟩ := h
    exact ⟨h2, by rw [h1]; show (1 : Int) ≤ _; simp, by rw [h1]; show _ ≤ (3 : Int); simp⟩
theorem EdgeP.tri {ts : List Tx} {os : List (List Int)} {e : T3} (h : EdgeP ts os e) (h6 : ts.length ≤ 6) : e ∈ tri := by
  obtain ⟨h1, h2, h3⟩ := h.put
  obtain ⟨⟨a, b⟩, ⟨c, d⟩, _⟩ := h1.range
  exact mem_tri.2 ⟨⟨a, by omega⟩, ⟨c, by omega⟩, h2, by omega⟩
theorem mem_edgesL {ts : List Tx} {os : List (List Int)} {e : T3} : e ∈ edgesL ts os ↔ ordersB ts os = true ∧ EdgeP ts os e := by
  cases h : ordersB ts os
  · rw [edgesL_no h]; simp
  · rw [edgesL_yes h, mem_canonL]
    exact ⟨fun h1 => ⟨rfl, h1.2⟩, fun h1 => ⟨h1.2.tri (histB_parts (ordersB_parts h).1).1, h1.2⟩⟩
/-- Ways of one step or more. -/
inductive Way {α : Type} (R : α → α → Prop) : α → α → Prop
  | one {i j : α} (h : R i j) : Way R i j
  | cons {i j k : α} (h : R i j) (g : Way R j k) : Way R i k
theorem Way.trans {α : Type} {R : α → α → Prop} {i j k : α} (h : Way R i j) (g : Way R j k) : Way R i k := by
  induction h with
  | one h => exact .cons h g
  | cons h _ ih => exact .cons h (ih g)
theorem Way.mono {α : Type} {R S : α → α → Prop} (hs : ∀ i j, R i j → S i j) {i j : α} (h : Way R i j) : Way S i j := by
  induction h with
  | one h => exact .one (hs _ _ h)
  | cons h _ ih => exact .cons (hs _ _ h) ih
/-- Edges of kinds up to m. -/
def Ed (es : List T3) (m : Int) (i j : Int) : Prop := ∃ k, (i, j, k) ∈ es ∧ k ≤ m
def AnomP (es : List T3) (kind : Nat) : Prop :=
  (kind = 1 ∧ ∃ i, Way (Ed es 1) i i) ∨ (kind = 2 ∧ ∃ i, Way (Ed es 2) i i) ∨ (kind = 3 ∧ ∃ i j, (i, j, 3) ∈ es ∧ Way (Ed es 2) j i) ∨ (kind = 4 ∧ ∃ i, Way (Ed es 3) i i)
noncomputable def anomB (es : List T3) (kind : Nat) : Bool := cd (AnomP es kind)
/-- One of the anomalies 1 .. k. -/
noncomputable def anyTo (es : List T3) : Nat → Bool
  | 0 => false
  | k + 1 => anyTo es k || anomB es (k + 1)
theorem anyTo_mono {es : List T3} {j : Nat} (h : anyTo es j = true) : ∀ k, j ≤ k → anyTo es k = true := by
  intro k
  induction k with
  | zero => intro hk; obtain rfl : j = 0 := by omega
            exact h
  | succ k ih =>
    intro hk
    show (anyTo es k || _) = true
    by_cases e : j = k + 1
    · subst e; exact h
    · rw [ih (by omega)]; rfl
theorem anyTo_hit {es : List T3} {k n : Nat} (h : anomB es (k + 1) = true) (hk : k + 1 ≤ n) : anyTo es n = true := anyTo_mono (j := k + 1) (by show (anyTo es k || _) = true; rw [h, Bool.or_true]) n hk
noncomputable def allowB (ts : List Tx) (os : List (List Int)) (lv : Nat) : Bool := !(anyTo (edgesL ts os) lv) && (decide (lv < 2) || rightB ts)
theorem allowB_zero (ts : List Tx) (os : List (List Int)) : allowB ts os 0 = true := rfl
noncomputable def lvFrom (ts : List Tx) (os : List (List Int)) : Nat → Nat
  | 0 => 0
  | k + 1 => if allowB ts os (k + 1) then k + 1 else lvFrom ts os k
noncomputable def levelV (ts : List Tx) (os : List (List Int)) : Int := if ordersB ts os then (lvFrom ts os 4 : Nat) else -1
end Go.Proofs.YtcfkemchekmjbaaGreatDoor
