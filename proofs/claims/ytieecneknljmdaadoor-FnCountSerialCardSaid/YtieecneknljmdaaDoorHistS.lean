/- The reference's l2Writes, HistoryValid. -/
import Derived.Test.YtieecneknljmdaaDoorHistP
import Derived.BigQuiet
import Derived.Deep.RegionHeld3
namespace Go.Proofs.YtieecneknljmdaaDoor
open Go.RowKit

theorem wl_len (os : List T3) : (wl os).length ≤ os.length := List.length_filterMap_le _ _
theorem cnt_le {ts : List Tx} {k : Nat} {t : Tx} (ht : ts[k]? = some t) (j : Nat) (q : Int × Int) : (wl (opsTo ts k j)).count q ≤ (allOps ts).length := by
  obtain ⟨r, hr⟩ := opsTo_split ht j
  have h1 := List.count_le_length (a := q) (l := wl (opsTo ts k j))
  have h2 := wl_len (opsTo ts k j)
  have h3 : (allOps ts).length = (opsTo ts k j).length + r.length := by rw [hr, List.length_append]
  omega
theorem cnt_yes {ts : List Tx} {k j : Nat} {t : Tx} {x y z key val : Int} (ht : ts[k]? = some t) (ho : t.2.1[j]? = some (x, y, z)) (hb : (x == 2 && (y == key && z == val)) = true) :
    (wl (opsTo ts k (j + 1))).count (key, val) = (wl (opsTo ts k j)).count (key, val) + 1 := by
  simp only [Bool.and_eq_true, beq_iff_eq] at hb
  obtain ⟨h1, h2, h3⟩ := hb
  rw [wl_step_w ht ho h1, List.count_append]
  subst h2; subst h3
  simp
theorem cnt_no {ts : List Tx} {k j : Nat} {t : Tx} {x y z key val : Int} (ht : ts[k]? = some t) (ho : t.2.1[j]? = some (x, y, z)) (hb : (x == 2 && (y == key && z == val)) = false) :
    (wl (opsTo ts k (j + 1))).count (key, val) = (wl (opsTo ts k j)).count (key, val) := by
  by_cases h1 : x = 2
  · rw [wl_step_w ht ho h1, List.count_append]
    have : ¬ ((y, z) = (key, val)) := by
      intro e
      simp only [Prod.mk.injEq] at e
      rw [h1, e.1, e.2] at hb; simp at hb
    simp [this]
  · rw [wl_step_r ht ho h1]
set_option maxRecDepth 100000 in
set_option maxHeartbeats 8000000 in
theorem l2Writes_c {A : Option Addr} {n c : Nat} {ts : List Tx} {key val : Int} {w : World} (hr : RTs w A n ts) (hn : n ≤ 1048576) (hsum : (allOps ts).length ≤ 1048576) (hsm : SmallT ts) :
    Calls Tryd.prog 51 #[.slice A n c, .int .i64 key, .int .i64 val] w fun e w' => e = .returned (.int .i64 ((wl (allOps ts)).count (key, val) : Nat)) ∧ Below w.heap.size w w' := by
  have hl := hide hr.1
  go_enter Tryd.func51, Tryd.ntmps51
  go_wp2_with fail
  go_loopw [7, 8] (fun v i wr => ∃ k : Nat, i = .int .i64 k ∧ k ≤ n ∧ v = .int .i64 ((wl (opsTo ts k 0)).count (key, val) : Nat) ∧ Below w.heap.size w wr) (fun _ i _ => n - (intOf i).toNat)
  case atStart => exact ⟨0, rfl, Nat.zero_le _, by rw [opsTo_zero]; rfl, Below.refl _ _⟩
  case round =>
    obtain ⟨k, rfl, hk, rfl, bw⟩ := hrel
    have BW := hide bw; clear bw
    by_cases hkn : k < n
    · obtain ⟨b, off, f, ys, dn, B, kk, d, rfl, hbb, hx, q0, q1, q2, hkd, hdm, hri⟩ := hr.at_ hkn
      have hyl := hide hri.len
      have HX := hide hx; have Q1 := hide q1
      have k0 : (0 : Int) ≤ k := by omega
      have k2 : (k : Int) < n := by omega
      have h6 : kk ≤ 1048576 := by have := hsm _ (List.mem_of_getElem? hx); dsimp only at this; rw [hyl.out] at this; exact this
      clear q0 q1 q2 hx
      go_wp2_with fail
      go_loopw [7, 9] (fun v i wr2 => ∃ j : Nat, i = .int .i64 j ∧ j ≤ kk ∧ v = .int .i64 ((wl (opsTo ts k j)).count (key, val) : Nat) ∧ Below w.heap.size w wr2) (fun _ i _ => kk - (intOf i).toNat)
      case atStart => exact ⟨0, rfl, Nat.zero_le _, rfl, BW.out⟩
      case round =>
        clear BW
        obtain ⟨j, rfl, hj, rfl, bw⟩ := hrel
        rename World => wr2
        have BW := hide bw; clear bw
        have e1 := (BW.out.cell (p := ⟨b, off + k * 3 + 1, none⟩) hbb).trans Q1.out
        by_cases hjk : j < kk
        · obtain ⟨b2, off2, x, y, z, rfl, hbb2, hx2, p0, p1, p2⟩ := hri.at_ hjk
          have a0 := (BW.out.cell (p := ⟨b2, off2 + j * 3, none⟩) hbb2).trans p0
          have a1 := (BW.out.cell (p := ⟨b2, off2 + j * 3 + 1, none⟩) hbb2).trans p1
          have a2 := (BW.out.cell (p := ⟨b2, off2 + j * 3 + 2, none⟩) hbb2).trans p2
          have hcl := cnt_le HX.out j (key, val)
          have HX2 := hide hx2
          have j0 : (0 : Int) ≤ j := by omega
          have j2 : (j : Int) < kk := by omega
          clear hx2 p0 p1 p2
          cases hb : (x == 2 && (y == key && z == val))
          · have hq : ∀ w', (binOp .eql 51 (.agg #[.int .i64 x, .int .i64 y, .int .i64 z]) (.agg #[.int .i64 2, .int .i64 key, .int .i64 val])).run Tryd.prog w' = .ok (.bool false) w' := fun w' => by rw [eqOpL, hb]
            have hno := cnt_no HX.out HX2.out hb
            have HN := hide hno
            clear hb hno
            go_wp2_with fail
            go_roundw
            case rel => exact ⟨j + 1, by go_num, by omega, by rw [HN.out], BW.out⟩
            case measure => simp [intOf]; omega
          · have hq : ∀ w', (binOp .eql 51 (.agg #[.int .i64 x, .int .i64 y, .int .i64 z]) (.agg #[.int .i64 2, .int .i64 key, .int .i64 val])).run Tryd.prog w' = .ok (.bool true) w' := fun w' => by rw [eqOpL, hb]
            have hno := cnt_yes HX.out HX2.out hb
            have HN := hide hno
            obtain ⟨q, hq2⟩ : ∃ q, (wl (opsTo ts k j)).count (key, val) = q := ⟨_, rfl⟩
            rw [hq2] at hcl HN ⊢
            clear hb hno hq2
            go_wp2_with fail
            go_roundw
            case rel => exact ⟨j + 1, by go_num, by omega, by rw [HN.out]; go_num, BW.out⟩
            case measure => simp [intOf]; omega
        · obtain rfl : j = kk := by omega
          have hnx := opsTo_next HX.out (show ys.length ≤ j by rw [hyl.out]; omega)
          have HNX := hide hnx; clear hnx
          go_wp2_with fail
          go_roundw
          case rel => exact ⟨k + 1, by go_num, by omega, by rw [HNX.out], BW.out⟩
          case measure => simp [intOf]; omega
    · obtain rfl : k = n := by omega
      have hall := opsTo_all (show ts.length ≤ k by rw [hl.out]; omega)
      have HA := hide hall; clear hall
      go_wp2_with fail
      go_ret
      exact ⟨by rw [← HA.out]; rfl, BW.out⟩

/-- No value of the first ones is written twice in the whole. -/
def OnceTo (ts : List Tx) (k j : Nat) : Prop := ∀ q ∈ wl (opsTo ts k j), (wl (allOps ts)).count q ≤ 1
theorem OnceTo.r {ts : List Tx} {k j : Nat} {t : Tx} {o : T3} (h : OnceTo ts k j) (ht : ts[k]? = some t) (ho : t.2.1[j]? = some o) (hw : o.1 ≠ 2) : OnceTo ts k (j + 1) := by
  unfold OnceTo; rw [wl_step_r ht ho hw]; exact h
theorem OnceTo.w {ts : List Tx} {k j : Nat} {t : Tx} {o : T3} (h : OnceTo ts k j) (ht : ts[k]? = some t) (ho : t.2.1[j]? = some o) (hw : o.1 = 2) (hc : (wl (allOps ts)).count (o.2.1, o.2.2) ≤ 1) : OnceTo ts k (j + 1) := by
  unfold OnceTo; rw [wl_step_w ht ho hw]
  intro q hq
  rcases List.mem_append.1 hq with hq | hq
  · exact h q hq
  · simp at hq; subst hq; exact hc
theorem once_nodup {ts : List Tx} {k : Nat} (h : OnceTo ts k 0) (hk : ts.length ≤ k) : (wl (allOps ts)).Nodup := by
  unfold OnceTo at h
  rw [opsTo_all hk] at h
  rw [List.nodup_iff_count]
  intro a
  by_cases ha : a ∈ wl (allOps ts)
  · exact h a ha
  · rw [List.count_eq_zero_of_not_mem ha]; omega
theorem histB_dup {ts : List Tx} {q : Int × Int} (h : 1 < (wl (allOps ts)).count q) : histB ts = false := by
  have : ¬ (wl (allOps ts)).Nodup := fun hn => by have := List.nodup_iff_count.1 hn q; omega
  simp [histB, this]
set_option maxRecDepth 100000 in
set_option maxHeartbeats 8000000 in
theorem spec_HistoryValid_c {A : Option Addr} {n c : Nat} {ts : List Tx} {w : World} (hr : RTs w A n ts) (hn : n ≤ 1048576) (hsum : (allOps ts).length ≤ 1048576) (hsm : SmallT ts) :
    Calls Tryd.prog 24 #[.slice A n c] w fun e w' => e = .returned (.bool (histB ts)) ∧ Below w.heap.size w w' := by
  have hl := hide hr.1
  go_enter Tryd.func24, Tryd.ntmps24
  go_wp2_with fail
  go_loopw [3] (fun i wr => ∃ k : Nat, i = .int .i64 k ∧ k ≤ n ∧ (ts.take k).all txnB = true ∧ OnceTo ts k 0 ∧ Below w.heap.size w wr) (fun i _ => n - (intOf i).toNat)
  case atStart => exact ⟨0, rfl, Nat.zero_le _, by simp, (fun q hq => by rw [opsTo_zero] at hq; simp [wl] at hq), Below.refl _ _⟩
  case round =>
    obtain ⟨k, rfl, hk, hall, hon, bw⟩ := hrel
    have HALL := hide hall; have HON := hide hon; have BW := hide bw; clear hall hon bw
    by_cases hkn : k < n
    · obtain ⟨b, off, f, ys, dn, B, kk, d, rfl, hbb, hx, q0, q1, q2, hkd, hdm, hri⟩ := hr.at_ hkn
      have e0 := (BW.out.cell (p := ⟨b, off + k * 3, none⟩) hbb).trans q0
      have e1 := (BW.out.cell (p := ⟨b, off + k * 3 + 1, none⟩) hbb).trans q1
      have e2 := (BW.out.cell (p := ⟨b, off + k * 3 + 2, none⟩) hbb).trans q2
      have hyl := hide hri.len
      have HX := hide hx; have Q1 := hide q1
      have k0 : (0 : Int) ≤ k := by omega
      have k2 : (k : Int) < n := by omega
      have h6 : kk ≤ 1048576 := by have := hsm _ (List.mem_of_getElem? hx); dsimp only at this; rw [hyl.out] at this; exact this
      have s1 : S3 w (.slice B kk d) kk ys := S3.of_args hkd h6 hri
      have hb1 := hbb
      clear q0 q1 q2 hx
      cases hv : txnB (f, ys, dn)
      · have hf := histB_bad HX.out hv
        have F := hide hf; have V := hide hv; clear hf hv
        go_wp2_with fail
        refine (spec_TxnValid_c (s1.below BW.out)).mono ?_
        rintro e w2 ⟨rfl, b2⟩
        rw [V.out]
        go_wp2_with fail
        go_ret
        exact ⟨by rw [F.out]; rfl, below_step BW.out b2⟩
      · have hal := all_snocA HALL.out HX.out hv
        have HAL := hide hal; have V := hide hv; clear hal hv
        go_wp2_with fail
        refine (spec_TxnValid_c (s1.below BW.out)).mono ?_
        rintro e w2 ⟨rfl, b2⟩
        rw [V.out]
        have B2 := hide (below_step BW.out b2)
        clear e0 e1 e2 b2
        go_wp2_with fail
        go_loopw [4] (fun i wr2 => ∃ j : Nat, i = .int .i64 j ∧ j ≤ kk ∧ OnceTo ts k j ∧ Below w.heap.size w wr2) (fun i _ => kk - (intOf i).toNat)
        case atStart => exact ⟨0, rfl, Nat.zero_le _, HON.out, B2.out⟩
        case round =>
          clear B2
          obtain ⟨j, rfl, hj, hon, bw⟩ := hrel
          rename World => wr2
          have HON2 := hide hon; have BW2 := hide bw; clear hon bw
          have e1 := (BW2.out.cell (p := ⟨b, off + k * 3 + 1, none⟩) hb1).trans Q1.out
          by_cases hjk : j < kk
          · obtain ⟨b2, off2, x, y, z, rfl, hbb2, hx2, p0, p1, p2⟩ := hri.at_ hjk
            have a0 := (BW2.out.cell (p := ⟨b2, off2 + j * 3, none⟩) hbb2).trans p0
            have a1 := (BW2.out.cell (p := ⟨b2, off2 + j * 3 + 1, none⟩) hbb2).trans p1
            have a2 := (BW2.out.cell (p := ⟨b2, off2 + j * 3 + 2, none⟩) hbb2).trans p2
            have HX2 := hide hx2
            have j0 : (0 : Int) ≤ j := by omega
            have j2 : (j : Int) < kk := by omega
            have b8 : Below w.heap.size w (wr2.alloc (.cells #[.int .i64 x, .int .i64 y, .int .i64 z] 51)) := BW2.out.alloc BW2.out.size _
            have K8 := Blk.new wr2 51 #[.int .i64 x, .int .i64 y, .int .i64 z]
            obtain ⟨f0, f1, f2⟩ := K8.three
            clear hx2 p0 p1 p2 K8
            by_cases hx : x = 2
            · subst hx
              have hct : (wl (allOps ts)).count (y, z) ≤ (allOps ts).length := by
                have h1 := List.count_le_length (a := (y, z)) (l := wl (allOps ts))
                have h2 := wl_len (allOps ts)
                omega
              by_cases hc1 : (wl (allOps ts)).count (y, z) ≤ 1
              · have hon2 := OnceTo.w HON2.out HX.out HX2.out rfl hc1
                have HO := hide hon2
                obtain ⟨C, hC⟩ : ∃ C, (wl (allOps ts)).count (y, z) = C := ⟨_, rfl⟩
                have HC := hide hC
                rw [hC] at hc1 hct
                have hc2 : ¬ ((1 : Int) < (C : Int)) := by omega
                clear hon2 hC
                go_wp2_with fail
                refine (l2Writes_c (hr.below b8) hn hsum hsm).mono ?_
                rintro e w3 ⟨rfl, b3⟩
                rw [HC.out]
                have B3 := below_step b8 b3
                go_wp2_with fail
                go_roundw
                case rel => exact ⟨j + 1, by go_num, by omega, HO.out, B3⟩
                case measure => simp [intOf]; omega
              · have hf := histB_dup (show 1 < (wl (allOps ts)).count (y, z) by omega)
                have F := hide hf
                obtain ⟨C, hC⟩ : ∃ C, (wl (allOps ts)).count (y, z) = C := ⟨_, rfl⟩
                have HC := hide hC
                rw [hC] at hc1 hct
                have hc2 : (1 : Int) < (C : Int) := by omega
                clear hf hC
                go_wp2_with fail
                refine (l2Writes_c (hr.below b8) hn hsum hsm).mono ?_
                rintro e w3 ⟨rfl, b3⟩
                rw [HC.out]
                have B3 := below_step b8 b3
                go_wp2_with fail
                go_ret
                exact ⟨by rw [F.out]; rfl, B3⟩
            · have hon2 := OnceTo.r HON2.out HX.out HX2.out hx
              have HO := hide hon2
              have hxb : (x == 2) = false := by simpa using hx
              clear hon2 hx
              go_wp2_with fail
              go_roundw
              case rel => exact ⟨j + 1, by go_num, by omega, HO.out, b8⟩
              case measure => simp [intOf]; omega
          · obtain rfl : j = kk := by omega
            have hnx := opsTo_next HX.out (show ys.length ≤ j by rw [hyl.out]; omega)
            have hon2 : OnceTo ts (k + 1) 0 := by unfold OnceTo; rw [hnx]; exact HON2.out
            have HO := hide hon2; clear hnx hon2
            go_wp2_with fail
            go_roundw
            case rel => exact ⟨k + 1, by go_num, by omega, HAL.out, HO.out, BW2.out⟩
            case measure => simp [intOf]; omega
    · obtain rfl : k = n := by omega
      have h1 := HALL.out
      rw [List.take_of_length_le (by rw [hl.out]; omega)] at h1
      have hf : histB ts = decide (k ≤ 6) := by
        unfold histB; rw [h1, decide_eq_true (once_nodup HON.out (by rw [hl.out]; omega)), hl.out]; simp
      have F := hide hf; clear hf h1
      go_wp2_with fail
      go_ret
      exact ⟨by rw [F.out]; simp [go_sem]; omega, BW.out⟩

end Go.Proofs.YtieecneknljmdaaDoor
