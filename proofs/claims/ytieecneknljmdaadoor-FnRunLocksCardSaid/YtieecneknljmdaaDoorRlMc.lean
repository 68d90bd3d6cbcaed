/- Merged: HistS, SerS, SerF, SerE. -/
import Derived.Test.YtieecneknljmdaaDoorRlMa
import Derived.Test.YtieecneknljmdaaDoorSameH
import Derived.Test.YtieecneknljmdaaDoorRlMb
import Derived.BigQuiet
import Derived.Deep.RegionHeld3
import Derived.Test.YtieecneknljmdaaDoorRlMb
import Derived.Test.YtieecneknljmdaaDoorInts
import Derived.Deep.DeepCutAuto
import Derived.Test.YtieecneknljmdaaDoorLib2
import Derived.Test.YtieecneknljmdaaDoorApp
namespace Go.Proofs.YtieecneknljmdaaDoor
open Go.RowKit

theorem wl_len (os : List T3) : (wl os).length ≤ os.length := List.length_filterMap_le _ _
theorem cnt_le {ts : List Tx} {k : Nat} {t : Tx} (ht : ts[k]? = some t) (j : Nat) (q : Int × Int) : (wl (opsTo ts k j)).count q ≤ (allOps ts).length := by
  obtain ⟨r, hr⟩ := opsTo_split ht j
  have h1 := List.count_le_length (a := q) (l := wl (opsTo ts k j))
  have h2 := wl_len (opsTo ts k j)
  have h3 : (allOps ts).length = (opsTo ts k j).length + r.length := by rw [hr, List.length_append]
  omega
theorem cnt_yes {ts : List Tx} {k j : Nat} {t : Tx} {x y z key val : Int} (ht : ts[k]? = some t) (ho : t.2.1[j]? = some (x, y, z)) (hb : (x == 2 && (y == key && z == val)) = true) :
    (wl (opsTo ts k (j + 1))).count (key, val) = (wl (opsTo ts k j)).count (key, val) + 1 := by
  simp only [Bool.and_eq_true, beq_iff_eq] at hb
  obtain ⟨h1, h2, h3⟩ := hb
  rw [wl_step_w ht ho h1, List.count_append]
  subst h2; subst h3
  simp
theorem cnt_no {ts : List Tx} {k j : Nat} {t : Tx} {x y z key val : Int} (ht : ts[k]? = some t) (ho : t.2.1[j]? = some (x, y, z)) (hb : (x == 2 && (y == key && z == val)) = false) :
    (wl (opsTo ts k (j + 1))).count (key, val) = (wl (opsTo ts k j)).count (key, val) := by
  by_cases h1 : x = 2
  · rw [wl_step_w ht ho h1, List.count_append]
    have : ¬ ((y, z) = (key, val)) := by
      intro e
      simp only [Prod.mk.injEq] at e
      rw [h1, e.1, e.2] at hb; simp at hb
    simp [this]
  · rw [wl_step_r ht ho h1]
set_option maxRecDepth 100000 in
set_option maxHeartbeats 8000000 in
theorem l2Writes_c {A : Option Addr} {n c : Nat} {ts : List Tx} {key val : Int} {w : World} (hr : RTs w A n ts) (hn : n ≤ 1048576) (hsum : (allOps ts).length ≤ 1048576) (hsm : SmallT ts) :
    Calls Tryd.prog 51 #[.slice A n c, .int .i64 key, .int .i64 val] w fun e w' => e = .returned (.int .i64 ((wl (allOps ts)).count (key, val) : Nat)) ∧ Below w.heap.size w w' := by
  have hl := hide hr.1
  go_enter Tryd.func51, Tryd.ntmps51
  go_wp2_with fail
  go_loopw [7, 8] (fun v i wr => ∃ k : Nat, i = .int .i64 k ∧ k ≤ n ∧ v = .int .i64 ((wl (opsTo ts k 0)).count (key, val) : Nat) ∧ Below w.heap.size w wr) (fun _ i _ => n - (intOf i).toNat)
  case atStart => exact ⟨0, rfl, Nat.zero_le _, by rw [opsTo_zero]; rfl, Below.refl _ _⟩
  case round =>
    obtain ⟨k, rfl, hk, rfl, bw⟩ := hrel
    have BW := hide bw; clear bw
    by_cases hkn : k < n
    · obtain ⟨b, off, f, ys, dn, B, kk, d, rfl, hbb, hx, q0, q1, q2, hkd, hdm, hri⟩ := hr.at_ hkn
      have hyl := hide hri.len
      have HX := hide hx; have Q1 := hide q1
      have k0 : (0 : Int) ≤ k := by omega
      have k2 : (k : Int) < n := by omega
      have h6 : kk ≤ 1048576 := by have := hsm _ (List.mem_of_getElem? hx); dsimp only at this; rw [hyl.out] at this; exact this
      clear q0 q1 q2 hx
      go_wp2_with fail
      go_loopw [7, 9] (fun v i wr2 => ∃ j : Nat, i = .int .i64 j ∧ j ≤ kk ∧ v = .int .i64 ((wl (opsTo ts k j)).count (key, val) : Nat) ∧ Below w.heap.size w wr2) (fun _ i _ => kk - (intOf i).toNat)
      case atStart => exact ⟨0, rfl, Nat.zero_le _, rfl, BW.out⟩
      case round =>
        clear BW
        obtain ⟨j, rfl, hj, rfl, bw⟩ := hrel
        rename World => wr2
        have BW := hide bw; clear bw
        have e1 := (BW.out.cell (p := ⟨b, off + k * 3 + 1, none⟩) hbb).trans Q1.out
        by_cases hjk : j < kk
        · obtain ⟨b2, off2, x, y, z, rfl, hbb2, hx2, p0, p1, p2⟩ := hri.at_ hjk
          have a0 := (BW.out.cell (p := ⟨b2, off2 + j * 3, none⟩) hbb2).trans p0
          have a1 := (BW.out.cell (p := ⟨b2, off2 + j * 3 + 1, none⟩) hbb2).trans p1
          have a2 := (BW.out.cell (p := ⟨b2, off2 + j * 3 + 2, none⟩) hbb2).trans p2
          have hcl := cnt_le HX.out j (key, val)
          have HX2 := hide hx2
          have j0 : (0 : Int) ≤ j := by omega
          have j2 : (j : Int) < kk := by omega
          clear hx2 p0 p1 p2
          cases hb : (x == 2 && (y == key && z == val))
          · have hq : ∀ w', (binOp .eql 51 (.agg #[.int .i64 x, .int .i64 y, .int .i64 z]) (.agg #[.int .i64 2, .int .i64 key, .int .i64 val])).run Tryd.prog w' = .ok (.bool false) w' := fun w' => by rw [eqOpL, hb]
            have hno := cnt_no HX.out HX2.out hb
            have HN := hide hno
            clear hb hno
            go_wp2_with fail
            go_roundw
            case rel => exact ⟨j + 1, by go_num, by omega, by rw [HN.out], BW.out⟩
            case measure => simp [intOf]; omega
          · have hq : ∀ w', (binOp .eql 51 (.agg #[.int .i64 x, .int .i64 y, .int .i64 z]) (.agg #[.int .i64 2, .int .i64 key, .int .i64 val])).run Tryd.prog w' = .ok (.bool true) w' := fun w' => by rw [eqOpL, hb]
            have hno := cnt_yes HX.out HX2.out hb
            have HN := hide hno
            obtain ⟨q, hq2⟩ : ∃ q, (wl (opsTo ts k j)).count (key, val) = q := ⟨_, rfl⟩
            rw [hq2] at hcl HN ⊢
            clear hb hno hq2
            go_wp2_with fail
            go_roundw
            case rel => exact ⟨j + 1, by go_num, by omega, by rw [HN.out]; go_num, BW.out⟩
            case measure => simp [intOf]; omega
        · obtain rfl : j = kk := by omega
          have hnx := opsTo_next HX.out (show ys.length ≤ j by rw [hyl.out]; omega)
          have HNX := hide hnx; clear hnx
          go_wp2_with fail
          go_roundw
          case rel => exact ⟨k + 1, by go_num, by omega, by rw [HNX.out], BW.out⟩
          case measure => simp [intOf]; omega
    · obtain rfl : k = n := by omega
      have hall := opsTo_all (show ts.length ≤ k by rw [hl.out]; omega)
      have HA := hide hall; clear hall
      go_wp2_with fail
      go_ret
      exact ⟨by rw [← HA.out]; rfl, BW.out⟩

/-- No value of the first ones is written twice in the whole. -/
def OnceTo (ts : List Tx) (k j : Nat) : Prop := ∀ q ∈ wl (opsTo ts k j), (wl (allOps ts)).count q ≤ 1
theorem OnceTo.r {ts : List Tx} {k j : Nat} {t : Tx} {o : T3} (h : OnceTo ts k j) (ht : ts[k]? = some t) (ho : t.2.1[j]? = some o) (hw : o.1 ≠ 2) : OnceTo ts k (j + 1) := by
  unfold OnceTo; rw [wl_step_r ht ho hw]; exact h
theorem OnceTo.w {ts : List Tx} {k j : Nat} {t : Tx} {o : T3} (h : OnceTo ts k j) (ht : ts[k]? = some t) (ho : t.2.1[j]? = some o) (hw : o.1 = 2) (hc : (wl (allOps ts)).count (o.2.1, o.2.2) ≤ 1) : OnceTo ts k (j + 1) := by
  unfold OnceTo; rw [wl_step_w ht ho hw]
  intro q hq
  rcases List.mem_append.1 hq with hq | hq
  · exact h q hq
  · simp at hq; subst hq; exact hc
theorem once_nodup {ts : List Tx} {k : Nat} (h : OnceTo ts k 0) (hk : ts.length ≤ k) : (wl (allOps ts)).Nodup := by
  unfold OnceTo at h
  rw [opsTo_all hk] at h
  rw [List.nodup_iff_count]
  intro a
  by_cases ha : a ∈ wl (allOps ts)
  · exact h a ha
  · rw [List.count_eq_zero_of_not_mem ha]; omega
theorem histB_dup {ts : List Tx} {q : Int × Int} (h : 1 < (wl (allOps ts)).count q) : histB ts = false := by
  have : ¬ (wl (allOps ts)).Nodup := fun hn => by have := List.nodup_iff_count.1 hn q; omega
  simp [histB, this]
set_option maxRecDepth 100000 in
set_option maxHeartbeats 8000000 in
theorem spec_HistoryValid_c {A : Option Addr} {n c : Nat} {ts : List Tx} {w : World} (hr : RTs w A n ts) (hn : n ≤ 1048576) (hsum : (allOps ts).length ≤ 1048576) (hsm : SmallT ts) :
    Calls Tryd.prog 24 #[.slice A n c] w fun e w' => e = .returned (.bool (histB ts)) ∧ Below w.heap.size w w' := by
  have hl := hide hr.1
  go_enter Tryd.func24, Tryd.ntmps24
  go_wp2_with fail
  go_loopw [3] (fun i wr => ∃ k : Nat, i = .int .i64 k ∧ k ≤ n ∧ (ts.take k).all txnB = true ∧ OnceTo ts k 0 ∧ Below w.heap.size w wr) (fun i _ => n - (intOf i).toNat)
  case atStart => exact ⟨0, rfl, Nat.zero_le _, by simp, (fun q hq => by rw [opsTo_zero] at hq; simp [wl] at hq), Below.refl _ _⟩
  case round =>
    obtain ⟨k, rfl, hk, hall, hon, bw⟩ := hrel
    have HALL := hide hall; have HON := hide hon; have BW := hide bw; clear hall hon bw
    by_cases hkn : k < n
    · obtain ⟨b, off, f, ys, dn, B, kk, d, rfl, hbb, hx, q0, q1, q2, hkd, hdm, hri⟩ := hr.at_ hkn
      have e0 := (BW.out.cell (p := ⟨b, off + k * 3, none⟩) hbb).trans q0
      have e1 := (BW.out.cell (p := ⟨b, off + k * 3 + 1, none⟩) hbb).trans q1
      have e2 := (BW.out.cell (p := ⟨b, off + k * 3 + 2, none⟩) hbb).trans q2
      have hyl := hide hri.len
      have HX := hide hx; have Q1 := hide q1
      have k0 : (0 : Int) ≤ k := by omega
      have k2 : (k : Int) < n := by omega
      have h6 : kk ≤ 1048576 := by have := hsm _ (List.mem_of_getElem? hx); dsimp only at this; rw [hyl.out] at this; exact this
      have s1 : S3 w (.slice B kk d) kk ys := S3.of_args hkd h6 hri
      have hb1 := hbb
      clear q0 q1 q2 hx
      cases hv : txnB (f, ys, dn)
      · have hf := histB_bad HX.out hv
        have F := hide hf; have V := hide hv; clear hf hv
        go_wp2_with fail
        refine (spec_TxnValid_c (s1.below BW.out)).mono ?_
        rintro e w2 ⟨rfl, b2⟩
        rw [V.out]
        go_wp2_with fail
        go_ret
        exact ⟨by rw [F.out]; rfl, below_step BW.out b2⟩
      · have hal := all_snocA HALL.out HX.out hv
        have HAL := hide hal; have V := hide hv; clear hal hv
        go_wp2_with fail
        refine (spec_TxnValid_c (s1.below BW.out)).mono ?_
        rintro e w2 ⟨rfl, b2⟩
        rw [V.out]
        have B2 := hide (below_step BW.out b2)
        clear e0 e1 e2 b2
        go_wp2_with fail
        go_loopw [4] (fun i wr2 => ∃ j : Nat, i = .int .i64 j ∧ j ≤ kk ∧ OnceTo ts k j ∧ Below w.heap.size w wr2) (fun i _ => kk - (intOf i).toNat)
        case atStart => exact ⟨0, rfl, Nat.zero_le _, HON.out, B2.out⟩
        case round =>
          clear B2
          obtain ⟨j, rfl, hj, hon, bw⟩ := hrel
          rename World => wr2
          have HON2 := hide hon; have BW2 := hide bw; clear hon bw
          have e1 := (BW2.out.cell (p := ⟨b, off + k * 3 + 1, none⟩) hb1).trans Q1.out
          by_cases hjk : j < kk
          · obtain ⟨b2, off2, x, y, z, rfl, hbb2, hx2, p0, p1, p2⟩ := hri.at_ hjk
            have a0 := (BW2.out.cell (p := ⟨b2, off2 + j * 3, none⟩) hbb2).trans p0
            have a1 := (BW2.out.cell (p := ⟨b2, off2 + j * 3 + 1, none⟩) hbb2).trans p1
            have a2 := (BW2.out.cell (p := ⟨b2, off2 + j * 3 + 2, none⟩) hbb2).trans p2
            have HX2 := hide hx2
            have j0 : (0 : Int) ≤ j := by omega
            have j2 : (j : Int) < kk := by omega
            have b8 : Below w.heap.size w (wr2.alloc (.cells #[.int .i64 x, .int .i64 y, .int .i64 z] 51)) := BW2.out.alloc BW2.out.size _
            have K8 := Blk.new wr2 51 #[.int .i64 x, .int .i64 y, .int .i64 z]
            obtain ⟨f0, f1, f2⟩ := K8.three
            clear hx2 p0 p1 p2 K8
            by_cases hx : x = 2
            · subst hx
              have hct : (wl (allOps ts)).count (y, z) ≤ (allOps ts).length := by
                have h1 := List.count_le_length (a := (y, z)) (l := wl (allOps ts))
                have h2 := wl_len (allOps ts)
                omega
              by_cases hc1 : (wl (allOps ts)).count (y, z) ≤ 1
              · have hon2 := OnceTo.w HON2.out HX.out HX2.out rfl hc1
                have HO := hide hon2
                obtain ⟨C, hC⟩ : ∃ C, (wl (allOps ts)).count (y, z) = C := ⟨_, rfl⟩
                have HC := hide hC
                rw [hC] at hc1 hct
                have hc2 : ¬ ((1 : Int) < (C : Int)) := by omega
                clear hon2 hC
                go_wp2_with fail
                refine (l2Writes_c (hr.below b8) hn hsum hsm).mono ?_
                rintro e w3 ⟨rfl, b3⟩
                rw [HC.out]
                have B3 := below_step b8 b3
                go_wp2_with fail
                go_roundw
                case rel => exact ⟨j + 1, by go_num, by omega, HO.out, B3⟩
                case measure => simp [intOf]; omega
              · have hf := histB_dup (show 1 < (wl (allOps ts)).count (y, z) by omega)
                have F := hide hf
                obtain ⟨C, hC⟩ : ∃ C, (wl (allOps ts)).count (y, z) = C := ⟨_, rfl⟩
                have HC := hide hC
                rw [hC] at hc1 hct
                have hc2 : (1 : Int) < (C : Int) := by omega
                clear hf hC
                go_wp2_with fail
                refine (l2Writes_c (hr.below b8) hn hsum hsm).mono ?_
                rintro e w3 ⟨rfl, b3⟩
                rw [HC.out]
                have B3 := below_step b8 b3
                go_wp2_with fail
                go_ret
                exact ⟨by rw [F.out]; rfl, B3⟩
            · have hon2 := OnceTo.r HON2.out HX.out HX2.out hx
              have HO := hide hon2
              have hxb : (x == 2) = false := by simpa using hx
              clear hon2 hx
              go_wp2_with fail
              go_roundw
              case rel => exact ⟨j + 1, by go_num, by omega, HO.out, b8⟩
              case measure => simp [intOf]; omega
          · obtain rfl : j = kk := by omega
            have hnx := opsTo_next HX.out (show ys.length ≤ j by rw [hyl.out]; omega)
            have hon2 : OnceTo ts (k + 1) 0 := by unfold OnceTo; rw [hnx]; exact HON2.out
            have HO := hide hon2; clear hnx hon2
            go_wp2_with fail
            go_roundw
            case rel => exact ⟨k + 1, by go_num, by omega, HAL.out, HO.out, BW2.out⟩
            case measure => simp [intOf]; omega
    · obtain rfl : k = n := by omega
      have h1 := HALL.out
      rw [List.take_of_length_le (by rw [hl.out]; omega)] at h1
      have hf : histB ts = decide (k ≤ 6) := by
        unfold histB; rw [h1, decide_eq_true (once_nodup HON.out (by rw [hl.out]; omega)), hl.out]; simp
      have F := hide hf; clear hf h1
      go_wp2_with fail
      go_ret
      exact ⟨by rw [F.out]; simp [go_sem]; omega, BW.out⟩

end Go.Proofs.YtieecneknljmdaaDoor

namespace Go.Proofs.YtieecneknljmdaaDoor
open Go.RowKit

theorem make3S (w : World) : (Instr.makeSlice 27 (.int .i64 3) (.int .i64 3)).run Tryd.prog w = .ok (.slice (some ⟨w.heap.size, 0, none⟩) 3 3) (w.alloc (.cells (List.replicate 3 (Value.int .i64 0)).toArray 3)) := run_make_ints 3 (by omega) w
theorem set_sameS {s : List Int} {k : Nat} {z : Int} (hk : k < s.length) (h : s.getD k 0 = z) : s.set k z = s := by
  apply List.ext_getElem?
  intro i
  by_cases e : k = i
  · subst e
    rw [List.getElem?_set_self hk, List.getElem?_eq_getElem hk]
    rw [List.getD_eq_getElem?_getD, List.getElem?_eq_getElem hk] at h
    simp at h; rw [h]
  · rw [List.getElem?_set_ne e]
def goesOn (ts : List Tx) (s : List Int) (ys : List T3) (r : List Int) : Bool := match followL s ys with
  | none => false
  | some s' => runsF ts s' r
set_option maxRecDepth 100000 in
set_option maxHeartbeats 8000000 in
theorem l12Runs_c {A : Option Addr} {n c q : Nat} {ts : List Tx} {u : Value} {os : List Int} {w : World} (hr : RTs w A n ts) (hu : SI w u q os) (hin : ∀ x ∈ os, 0 ≤ x ∧ x < n) (hk : ∀ t ∈ ts, ∀ o ∈ t.2.1, (o.1 = 1 ∨ o.1 = 2) ∧ 0 ≤ o.2.1 ∧ o.2.1 ≤ 2) (hsm : SmallT ts) :
    Calls Tryd.prog 27 #[.slice A n c, u] w fun e w' => e = .returned (.bool (runsF ts [0, 0, 0] os)) ∧ Below w.heap.size w w' := by
  obtain ⟨Au, cu, rfl, hqc, hq, hri⟩ := hu
  have hql := hide hri.len
  have hmk := make3S
  have o0 : OI (w.alloc (.cells (List.replicate 3 (Value.int .i64 0)).toArray 3)) w.heap.size (.slice (some ⟨w.heap.size, 0, none⟩) 3 3) 3 [0, 0, 0] := OI.of_blk (Blk.new w _ _) (Nat.le_refl _) rfl rfl (by omega)
  have B0 : Below w.heap.size w (w.alloc (.cells (List.replicate 3 (Value.int .i64 0)).toArray 3)) := (Below.refl _ _).alloc (Nat.le_refl _) _
  have O0 := hide o0; have HB0 := hide B0; clear o0 B0
  go_enter Tryd.func27, Tryd.ntmps27
  go_wp2_with fail
  go_loopw [6] (fun i wr => ∃ (k : Nat) (s : List Int), i = .int .i64 k ∧ k ≤ q ∧ OI wr w.heap.size (.slice (some ⟨w.heap.size, 0, none⟩) 3 3) 3 s ∧ runsF ts [0, 0, 0] os = runsF ts s (os.drop k) ∧ Below w.heap.size w wr) (fun i _ => q - (intOf i).toNat)
  case atStart => exact ⟨0, _, rfl, Nat.zero_le _, O0.out, rfl, HB0.out⟩
  case round =>
    clear O0 HB0
    obtain ⟨k, s, rfl, hkq, hs, he, bw⟩ := hrel
    have HS := hide hs; have HE := hide he; clear hs he
    by_cases hkl : k < q
    · obtain ⟨b1, o1, x, rfl, hb1, hx, hc1⟩ := hri.at_ hkl
      have c1 := (bw.cell (p := ⟨b1, o1 + k, none⟩) hb1).trans hc1
      obtain ⟨hx0, hx1⟩ := hin x (List.mem_of_getElem? hx)
      obtain ⟨xn, rfl⟩ : ∃ j : Nat, x = j := ⟨x.toNat, by omega⟩
      obtain ⟨b, off, f, ys, dn, B, kk, d, rfl, hbb, ht, q0, q1, q2, hkd, hdm, hry⟩ := hr.at_ (k := xn) (by omega)
      have e1 := (bw.cell (p := ⟨b, off + xn * 3 + 1, none⟩) hbb).trans q1
      have hdrop : os.drop k = (xn : Int) :: os.drop (k + 1) := by
        have hl : k < os.length := (List.getElem?_eq_some_iff.1 hx).1
        rw [List.drop_eq_getElem_cons hl]
        have := (List.getElem?_eq_some_iff.1 hx).2
        rw [this]
      have hops : opsOf ts ((xn : Int)).toNat = ys := by unfold opsOf; rw [List.getD_eq_getElem?_getD, Int.toNat_natCast, ht]; rfl
      have hgo : runsF ts [0, 0, 0] os = goesOn ts s (ys.drop 0) (os.drop (k + 1)) := by rw [HE.out, hdrop]; unfold goesOn; rw [List.drop_zero, runsF, hops]; rfl
      have HK := hide (hk _ (List.mem_of_getElem? ht))
      have hyl := hide hry.len
      have hkk : kk ≤ 1048576 := by have := hsm _ (List.mem_of_getElem? ht); have h2 := hry.len; dsimp only at this; omega
      have HGO := hide hgo; have BW := hide bw
      have k0 : (0 : Int) ≤ k := by omega
      have k2 : (k : Int) < q := by omega
      have x0 : (0 : Int) ≤ xn := by omega
      have x2 : (xn : Int) < n := by omega
      clear q0 q1 q2 hx ht hdrop hops hgo bw
      go_wp2_with fail
      go_loopw [8] (fun i wr2 => ∃ (j : Nat) (s2 : List Int), i = .int .i64 j ∧ j ≤ kk ∧ OI wr2 w.heap.size (.slice (some ⟨w.heap.size, 0, none⟩) 3 3) 3 s2 ∧ runsF ts [0, 0, 0] os = goesOn ts s2 (ys.drop j) (os.drop (k + 1)) ∧ Below w.heap.size w wr2) (fun i _ => kk - (intOf i).toNat)
      case atStart => exact ⟨0, s, rfl, Nat.zero_le _, HS.out, HGO.out, BW.out⟩
      case round =>
        clear HS HGO BW c1 e1
        rename World => wr2
        obtain ⟨j, s2, rfl, hj, hs, hg, bw⟩ := hrel
        have hsl := hs.len
        by_cases hjk : j < kk
        · obtain ⟨b2, o2, x, y, z, rfl, hbb2, hy, p0, p1, p2⟩ := hry.at_ hjk
          have a0 := (bw.cell (p := ⟨b2, o2 + j * 3, none⟩) hbb2).trans p0
          have a1 := (bw.cell (p := ⟨b2, o2 + j * 3 + 1, none⟩) hbb2).trans p1
          have a2 := (bw.cell (p := ⟨b2, o2 + j * 3 + 2, none⟩) hbb2).trans p2
          obtain ⟨hx12, hy0, hy2⟩ := HK.out (x, y, z) (List.mem_of_getElem? hy)
          dsimp only at hx12 hy0 hy2
          obtain ⟨yn, rfl⟩ : ∃ i : Nat, y = i := ⟨y.toNat, by omega⟩
          obtain ⟨sv, hsv, cz⟩ := hs.cell yn (by omega)
          have fz := hs.free yn
          have hdrop : ys.drop j = (x, (yn : Int), z) :: ys.drop (j + 1) := by
            have hl : j < ys.length := (List.getElem?_eq_some_iff.1 hy).1
            rw [List.drop_eq_getElem_cons hl, (List.getElem?_eq_some_iff.1 hy).2]
          have hgd : s2.getD yn 0 = sv := by rw [List.getD_eq_getElem?_getD, hsv]; rfl
          rw [hdrop] at hg
          have j0 : (0 : Int) ≤ j := by omega
          have j2 : (j : Int) < kk := by omega
          have j3 : decide ((j : Int) < 0) = false := by simp
          have j4 : decide (kk ≤ j) = false := by simp; omega
          have y0 : (0 : Int) ≤ yn := by omega
          have y2 : (yn : Int) < 3 := by omega
          have y3 : decide ((yn : Int) < 0) = false := by simp
          have y4 : decide (3 ≤ yn) = false := by simp; omega
          have hc : ∀ W, Below w.heap.size w W → W.cell? ⟨b2, o2 + j * 3 + 1, none⟩ = some (.int .i64 (yn : Int)) ∧ W.cell? ⟨b2, o2 + j * 3 + 2, none⟩ = some (.int .i64 z) := fun W h => ⟨(h.cell (p := ⟨b2, o2 + j * 3 + 1, none⟩) hbb2).trans p1, (h.cell (p := ⟨b2, o2 + j * 3 + 2, none⟩) hbb2).trans p2⟩
          have HC := hide hc; have HYN := hide hsv; have HGD := hide hgd; have HG := hide hg; have BW := hide bw; have HS2 := hide hs
          clear p0 p1 p2 hy hdrop hsv hgd hg hc bw hs
          rcases hx12 with rfl | rfl
          · by_cases hsz : sv = z
            · have hne : (sv != z) = false := by simpa using hsz
              go_wp2_with fail
              go_big_quiet (fail)
              go_upto_region 11 with fail
              rename Nat => nq
              have BQ : Below wr2.heap.size wr2 (wr2.drewN nq).drew := (below_drewN (Below.refl _ _) nq).drew
              have BQ2 : Below w.heap.size w (wr2.drewN nq).drew := below_step BW.out BQ
              have O5 := hide ((HS2.out.below BQ).store yn z)
              have HG2 := hide (show runsF ts [0, 0, 0] os = goesOn ts (s2.set yn z) (ys.drop (j + 1)) (os.drop (k + 1)) by
                rw [set_sameS (by omega) (by rw [HGD.out]; exact hsz), HG.out]; unfold goesOn; simp only [followL]; rw [if_neg (by decide), if_pos (by rw [Int.toNat_natCast, HGD.out]; exact hsz)])
              go_region_held3 (fun W => W.cell? ⟨b2, o2 + j * 3 + 1, none⟩ = some (.int .i64 (yn : Int)) ∧ W.cell? ⟨b2, o2 + j * 3 + 2, none⟩ = some (.int .i64 z)) (first | exact HC.out _ BQ2 | exact HC.out _ (BQ2.setCell (p := ⟨w.heap.size, yn, none⟩) (Nat.le_refl _) _)) (fail)
              go_wp2_with fail
              go_roundw
              case rel => exact ⟨j + 1, _, by go_num, by omega, O5.out, HG2.out, BQ2.setCell (p := ⟨w.heap.size, yn, none⟩) (Nat.le_refl _) _⟩
              case measure => simp [intOf]; omega
            · have hne : (sv != z) = true := by simpa using hsz
              have hf : runsF ts [0, 0, 0] os = false := by rw [HG.out]; unfold goesOn; simp only [followL]; rw [if_neg (by decide), if_neg (by rw [Int.toNat_natCast, HGD.out]; exact hsz)]
              have F := hide hf; clear hf
              go_wp2_with fail
              go_big_quiet (fail)
              go_wp2_with fail
              go_ret
              exact ⟨by rw [F.out]; rfl, below_drewN BW.out _⟩
          · go_wp2_with fail
            go_big_quiet (fail)
            go_upto_region 11 with fail
            rename Nat => nq
            have BQ : Below wr2.heap.size wr2 (wr2.drewN nq).drew := (below_drewN (Below.refl _ _) nq).drew
            have BQ2 : Below w.heap.size w (wr2.drewN nq).drew := below_step BW.out BQ
            have O5 := hide ((HS2.out.below BQ).store yn z)
            have HG2 := hide (show runsF ts [0, 0, 0] os = goesOn ts (s2.set yn z) (ys.drop (j + 1)) (os.drop (k + 1)) by
              rw [HG.out]; unfold goesOn; simp only [followL]; rw [if_pos (by decide), Int.toNat_natCast])
            go_region_held3 (fun W => W.cell? ⟨b2, o2 + j * 3 + 1, none⟩ = some (.int .i64 (yn : Int)) ∧ W.cell? ⟨b2, o2 + j * 3 + 2, none⟩ = some (.int .i64 z)) (first | exact HC.out _ BQ2 | exact HC.out _ (BQ2.setCell (p := ⟨w.heap.size, yn, none⟩) (Nat.le_refl _) _)) (fail)
            go_wp2_with fail
            go_roundw
            case rel => exact ⟨j + 1, _, by go_num, by omega, O5.out, HG2.out, BQ2.setCell (p := ⟨w.heap.size, yn, none⟩) (Nat.le_refl _) _⟩
            case measure => simp [intOf]; omega
        · obtain rfl : j = kk := by omega
          have h0 : ys.drop j = [] := List.drop_eq_nil_of_le (by rw [hyl.out]; omega)
          have he : runsF ts [0, 0, 0] os = runsF ts s2 (os.drop (k + 1)) := by rw [hg, h0]; rfl
          have HE2 := hide he; have HS2 := hide hs; have BW := hide bw
          clear h0 he hs bw hg
          go_wp2_with fail
          go_roundw
          case rel => exact ⟨k + 1, s2, by go_num, by omega, HS2.out, HE2.out, BW.out⟩
          case measure => simp [intOf]; omega
    · obtain rfl : k = q := by omega
      have h0 : os.drop k = [] := List.drop_eq_nil_of_le (by rw [hql.out]; omega)
      have he : runsF ts [0, 0, 0] os = true := by rw [HE.out, h0]; rfl
      have F := hide he; clear h0 he
      go_wp2_with fail
      go_ret
      exact ⟨by rw [F.out]; rfl, bw⟩

end Go.Proofs.YtieecneknljmdaaDoor

namespace Go.Proofs.YtieecneknljmdaaDoor
open Go.RowKit

/-- A store at block sb. -/
def StB (w : World) (sb : Nat) (s : List Int) : Prop := s.length = 3 ∧ Blk w sb 80 (s.map (Value.int .i64)).toArray
theorem StB.cell {w : World} {sb : Nat} {s : List Int} (h : StB w sb s) {k : Nat} (hk : k < 3) : ∃ v, s[k]? = some v ∧ w.cell? ⟨sb, k, none⟩ = some (.int .i64 v) := by
  have hl : k < s.length := by rw [h.1]; exact hk
  exact ⟨s[k], List.getElem?_eq_getElem hl, (h.2.cell k).trans (by simp [List.getElem?_eq_getElem hl])⟩
theorem StB.put {w : World} {sb : Nat} {s : List Int} (h : StB w sb s) (k : Nat) (v : Int) : StB (w.setCell ⟨sb, k, none⟩ (.int .i64 v)) sb (s.set k v) := by
  refine ⟨by simp [h.1], ?_⟩
  have := h.2.set_ k (.int .i64 v)
  simpa [List.map_set] using this
theorem StB.below {w w' : World} {sb : Nat} {s : List Int} (h : StB w sb s) (hb : Below w.heap.size w w') : StB w' sb s := ⟨h.1, h.2.belowAll hb⟩
theorem grownTS {a b c : World} {row : Option Nat} (h : a.grownBy b row) (k : b.grownBy c row) : a.grownBy c row :=
  ⟨k.os.trans h.os, k.tape.trans h.tape, k.output.trans h.output, Nat.le_trans h.size k.size, fun i hi hn => (k.block i (Nat.lt_of_lt_of_le hi h.size) hn).trans (h.block i hi hn)⟩
theorem grownBS {a b c : World} {row : Option Nat} (h : a.grownBy b row) (k : Below b.heap.size b c) : a.grownBy c row :=
  grownTS h ⟨k.os, k.tape, k.output, k.size, fun i hi _ => k.block i hi⟩
def FolR (wb w : World) (sb : Nat) (s : List Int) (ys : List T3) (e : Ending) (w' : World) : Prop :=
  e = .returned (.bool (followL s ys).isSome) ∧ (∀ s', followL s ys = some s' → StB w' sb s') ∧ Below wb.heap.size wb w' ∧ w.grownBy w' (some sb)
set_option maxRecDepth 100000 in
set_option maxHeartbeats 8000000 in
theorem follow_c {u : Value} {m sb : Nat} {ys : List T3} {f : Int} {dn : Bool} {s : List Int} {wb w : World} (hbw : Below wb.heap.size wb w) (hv : S3 wb u m ys) (hsb : wb.heap.size ≤ sb) (hs : StB w sb s) (hk : ∀ o ∈ ys, (o.1 = 1 ∨ o.1 = 2) ∧ 0 ≤ o.2.1 ∧ o.2.1 ≤ 2) :
    Calls Tryd.prog 49 #[.pointer (some ⟨sb, 0, none⟩), .agg #[.int .i64 f, u, .bool dn]] w (FolR wb w sb s ys) := by
  obtain ⟨A, c, rfl, hmc, hm, hry⟩ := hv
  have hyl := hide hry.len
  have B0 := hide (hbw.alloc hbw.size (.cells #[.int .i64 f, .slice A m c, .bool dn] 58))
  have G0 := hide (grownBS (World.grownBy.refl w (some sb)) ((Below.refl w.heap.size w).alloc (Nat.le_refl _) (.cells #[.int .i64 f, .slice A m c, .bool dn] 58)))
  have S0 := hide (hs.below ((Below.refl w.heap.size w).alloc (Nat.le_refl _) (.cells #[.int .i64 f, .slice A m c, .bool dn] 58)))
  go_enter Tryd.func49, Tryd.ntmps49
  go_wp2_with fail
  go_loopw [10] (fun i W => ∃ (k : Nat) (s2 : List Int), i = .int .i64 k ∧ k ≤ m ∧ StB W sb s2 ∧ followL s ys = followL s2 (ys.drop k) ∧ Below wb.heap.size wb W ∧ w.grownBy W (some sb)) (fun i _ => m - (intOf i).toNat)
  case atStart => exact ⟨0, s, rfl, Nat.zero_le _, S0.out, rfl, B0.out, G0.out⟩
  case round =>
    clear S0 B0 G0
    obtain ⟨k, s2, rfl, hkm, hst, he, bw, gw⟩ := hrel
    have HE := hide he; clear he
    by_cases hlt : k < m
    · obtain ⟨b2, o2, x, y, z, rfl, hbb2, hy, p0, p1, p2⟩ := hry.at_ hlt
      have a0 := (bw.cell (p := ⟨b2, o2 + k * 3, none⟩) hbb2).trans p0
      have a1 := (bw.cell (p := ⟨b2, o2 + k * 3 + 1, none⟩) hbb2).trans p1
      have a2 := (bw.cell (p := ⟨b2, o2 + k * 3 + 2, none⟩) hbb2).trans p2
      obtain ⟨hx12, hy0, hy2⟩ := hk (x, y, z) (List.mem_of_getElem? hy)
      dsimp only at hx12 hy0 hy2
      obtain ⟨yn, rfl⟩ : ∃ i : Nat, y = i := ⟨y.toNat, by omega⟩
      have hdrop : ys.drop k = (x, (yn : Int), z) :: ys.drop (k + 1) := by
        have hl : k < ys.length := (List.getElem?_eq_some_iff.1 hy).1
        rw [List.drop_eq_getElem_cons hl, (List.getElem?_eq_some_iff.1 hy).2]
      have hg : followL s ys = followL s2 ((x, (yn : Int), z) :: ys.drop (k + 1)) := by rw [HE.out, hdrop]
      have HG := hide hg
      have K1 := Blk.new wr 51 #[.int .i64 x, .int .i64 (yn : Int), .int .i64 z]
      have al : Below wr.heap.size wr (wr.alloc (.cells #[.int .i64 x, .int .i64 (yn : Int), .int .i64 z] 51)) := (Below.refl _ _).alloc (Nat.le_refl _) _
      have k0 : (0 : Int) ≤ k := by omega
      have k2 : (k : Int) < m := by omega
      have y0 : (0 : Int) ≤ yn := by omega
      have y2 : (yn : Int) < 3 := by omega
      clear p0 p1 p2 hy hdrop hg HE
      go_wp2_with fail
      refine (writesOp_c).mono ?_
      rintro e w2 ⟨rfl, b2⟩
      have BB := al.trans (b2.mono al.size)
      have K2 := K1.belowAll b2
      have hst2 := hst.below BB
      have bw2 := below_step bw BB
      have gw2 := grownBS gw BB
      have hlt1 : sb < wr.heap.size := hst.2.lt
      have hlt2 : wr.heap.size < w2.heap.size := K2.lt
      obtain ⟨f0, f1, f2⟩ := K2.three
      obtain ⟨sv, hsv, cz⟩ := hst2.cell (k := yn) (by omega)
      have fz := hst2.2.frozen yn
      clear a0 a1 a2 K1 al b2
      rcases hx12 with rfl | rfl
      · rw [show ((1 : Int) == 2) = false by rfl]
        have HST := hide hst2; have HBW := hide bw2; have HGW := hide gw2
        clear hst2 bw2 gw2
        by_cases hsz : sv = z
        · have hne : (sv != z) = false := by simpa using hsz
          have hf : followL s ys = followL s2 (ys.drop (k + 1)) := by
            rw [HG.out]; simp only [followL]
            rw [if_neg (by decide), if_pos (by rw [Int.toNat_natCast, List.getD_eq_getElem?_getD, hsv]; exact hsz)]
          have F := hide hf; clear hf hsv
          go_wp2_with fail
          go_big_quiet (fail)
          go_wp2_with fail
          go_roundw
          case rel => exact ⟨k + 1, s2, by go_num, by omega, HST.out, F.out, below_drewN HBW.out _, grownBS HGW.out (below_drewN (Below.refl _ _) _)⟩
          case measure => simp [intOf]; omega
        · have hne : (sv != z) = true := by simpa using hsz
          have hf : followL s ys = none := by
            rw [HG.out]; simp only [followL]
            rw [if_neg (by decide), if_neg (by rw [Int.toNat_natCast, List.getD_eq_getElem?_getD, hsv]; exact hsz)]
          have F := hide hf; clear hf hsv
          go_wp2_with fail
          go_big_quiet (fail)
          go_wp2_with fail
          go_ret
          exact ⟨by rw [F.out]; rfl, (fun s' e => by rw [F.out] at e; cases e), below_drewN HBW.out _, grownBS HGW.out (below_drewN (Below.refl _ _) _)⟩
      · rw [show ((2 : Int) == 2) = true by rfl]
        have hf : followL s ys = followL (s2.set yn z) (ys.drop (k + 1)) := by
          rw [HG.out]; simp only [followL]
          rw [if_pos (by decide), Int.toNat_natCast]
        have F := hide hf; clear hf hsv
        have hdr : Below w2.heap.size w2 w2.drew := (Below.refl _ _).drew
        have HST := hide ((hst2.below hdr).put yn z)
        have HBW := hide ((below_step bw2 hdr).setCell (p := ⟨sb, yn, none⟩) hsb (.int .i64 z))
        have HGW := hide (grown_setCell (p := ⟨sb, yn, none⟩) (grownBS gw2 hdr) (.inl rfl) (.int .i64 z))
        have K3 := (K2.belowAll hdr).far (p := ⟨sb, yn, none⟩) (by show wr.heap.size ≠ sb; omega) (.int .i64 z)
        have HK2 := hide K2; have HK3 := hide K3
        clear hst2 bw2 gw2 hdr K3
        go_upto_region 5 with fail
        go_region_held3 (fun V => V.cell? ⟨wr.heap.size, 1, none⟩ = some (.int .i64 (yn : Int)) ∧ V.cell? ⟨wr.heap.size, 2, none⟩ = some (.int .i64 z)) (first | exact ⟨HK2.out.cell 1, HK2.out.cell 2⟩ | exact ⟨HK3.out.cell 1, HK3.out.cell 2⟩) (fail)
        go_wp2_with fail
        go_roundw
        case rel => exact ⟨k + 1, _, by go_num, by omega, HST.out, F.out, HBW.out, HGW.out⟩
        case measure => simp [intOf]; omega
    · obtain rfl : k = m := by omega
      have h0 : ys.drop k = [] := List.drop_eq_nil_of_le (by rw [hyl.out]; omega)
      have he : followL s ys = some s2 := by rw [HE.out, h0]; rfl
      have F := hide he; clear h0 he
      go_wp2_with fail
      go_ret
      exact ⟨by rw [F.out]; rfl, (fun s' e => by rw [F.out] at e; injection e with e; rw [← e]; exact hst), bw, gw⟩

end Go.Proofs.YtieecneknljmdaaDoor

namespace Go.Proofs.YtieecneknljmdaaDoor
open Go.RowKit

/-- What does not change while the search runs: the world below, the history, the callback's function and what it captured, the boxes, the list of all. -/
structure EsK where
  wb : World
  A : Option Addr
  n : Nat
  c : Nat
  ts : List Tx
  cN : Nat
  caps : Array Value
  bH : Nat
  bL : Nat
  bC : Nat
  bA : Nat
  bO : Nat
  bF : Nat
  va : Value
  na : Nat
  all : List Int
  cb : Nat → Prop
/-- The search's state: the order so far is the slice v, k numbers, used. -/
structure Es (K : EsK) (w : World) (v : Value) (k : Nat) (used : List Int) : Prop where
  bw : Below K.wb.heap.size K.wb w
  hH : Blk w K.bH 23 #[.slice K.A K.n K.c]
  hL : Blk w K.bL 44 #[.func (.func 22) #[] #[]]
  hC : Blk w K.bC 45 #[.func (.func K.cN) #[] K.caps]
  hA : Blk w K.bA 27 #[K.va]
  hF : Blk w K.bF 78 #[.func (.func 48) #[] #[.pointer (some ⟨K.bO, 0, none⟩), .pointer (some ⟨K.bA, 0, none⟩), .pointer (some ⟨K.bC, 0, none⟩), .pointer (some ⟨K.bL, 0, none⟩), .pointer (some ⟨K.bH, 0, none⟩), .pointer (some ⟨K.bF, 0, none⟩)]]
  hO : Blk w K.bO 27 #[v]
  oA : OI w K.wb.heap.size K.va K.na K.all
  oO : OI w K.wb.heap.size v k used
  apart : K.va.ownBlock = none ∨ K.va.ownBlock ≠ v.ownBlock
  geO : K.wb.heap.size ≤ K.bO
  neAO : K.bA ≠ K.bO
  cbs : ∀ i, K.cb i → K.wb.heap.size ≤ i ∧ i < w.heap.size ∧ (i ≠ K.bH ∧ i ≠ K.bL ∧ i ≠ K.bC ∧ i ≠ K.bA ∧ i ≠ K.bF ∧ i ≠ K.bO) ∧ K.va.ownBlock ≠ some i ∧ v.ownBlock ≠ some i
/-- From (w, v) to (w', v') the order's box, its row and the callback's blocks alone may have changed. -/
structure Fr (K : EsK) (w : World) (v : Value) (w' : World) (v' : Value) : Prop where
  os : w'.os = w.os
  tape : w'.tape = w.tape
  output : w'.output = w.output
  size : w.heap.size ≤ w'.heap.size
  block : ∀ i, i < w.heap.size → i ≠ K.bO → ¬ K.cb i → v.ownBlock ≠ some i → w'.heap[i]? = w.heap[i]?
  row : v'.ownBlock = v.ownBlock ∨ ∀ i, v'.ownBlock = some i → w.heap.size ≤ i
section
variable {K : EsK} {w w' a b c : World} {v v' u x : Value} {k k' : Nat} {used used' : List Int}
theorem Fr.refl : Fr K w v w v := ⟨rfl, rfl, rfl, Nat.le_refl _, fun _ _ _ _ _ => rfl, .inl rfl⟩
theorem Fr.trans (h : Fr K a u b v) (g : Fr K b v c x) : Fr K a u c x := by
  refine ⟨g.os.trans h.os, g.tape.trans h.tape, g.output.trans h.output, Nat.le_trans h.size g.size, fun i hi h1 h2 h3 => (g.block i (Nat.lt_of_lt_of_le hi h.size) h1 h2 ?_).trans (h.block i hi h1 h2 h3), ?_⟩
  · rcases h.row with e | e
    · rw [e]; exact h3
    · intro e2; have := e i e2; omega
  · rcases g.row with e | e
    · rcases h.row with e2 | e2
      · exact .inl (e.trans e2)
      · exact .inr fun i hi => e2 i (e ▸ hi)
    · exact .inr fun i hi => Nat.le_trans h.size (e i hi)
theorem Fr.of_below (h : Below w.heap.size w w') : Fr K w v w' v := ⟨h.os, h.tape, h.output, h.size, fun i hi _ _ _ => h.block i hi, .inl rfl⟩
theorem Fr.below (h : Fr K a u b v) (hb : Below b.heap.size b c) : Fr K a u c v := h.trans (Fr.of_below hb)
theorem Blk.fr {g : Nat} {t : TypeId} {cs : Array Value} (h : Blk w g t cs) (hf : Fr K w v w' v') (h1 : g ≠ K.bO) (h2 : ¬ K.cb g) (h3 : v.ownBlock ≠ some g) : Blk w' g t cs := (hf.block g h.lt h1 h2 h3).trans h
theorem OI.fr {B m : Nat} {q : Value} {xs : List Int} (h : OI w B q m xs) (hf : Fr K w v w' v') (h1 : ∀ g, q.ownBlock = some g → g ≠ K.bO ∧ ¬ K.cb g ∧ v.ownBlock ≠ some g) : OI w' B q m xs := by
  refine ⟨⟨h.1.1, ?_⟩, h.2⟩
  rcases h.1.2 with hn | ⟨g, cap, cur, rfl, hb, hgg, rest⟩
  · exact .inl hn
  · obtain ⟨x1, x2, x3⟩ := h1 g rfl
    exact .inr ⟨g, cap, cur, rfl, hb, (hf.block g (Blk.lt hgg) x1 x2 x3).trans hgg, rest⟩
theorem Es.below (h : Es K w v k used) (hb : Below w.heap.size w w') : Es K w' v k used :=
  ⟨below_step h.bw hb, h.hH.belowAll hb, h.hL.belowAll hb, h.hC.belowAll hb, h.hA.belowAll hb, h.hF.belowAll hb, h.hO.belowAll hb, h.oA.below hb, h.oO.below hb, h.apart, h.geO, h.neAO,
    fun i hi => by obtain ⟨h1, h2, h3⟩ := h.cbs i hi; exact ⟨h1, Nat.lt_of_lt_of_le h2 hb.size, h3⟩⟩
theorem Es.ne_row (h : Es K w v k used) {g : Nat} {t : TypeId} {cs : Array Value} (hb : Blk w g t cs) (ht : t ≠ 3) : v.ownBlock ≠ some g := h.oO.ne_blk hb ht
theorem Es.row_lt (h : Es K w v k used) {g : Nat} (hg : v.ownBlock = some g) : K.wb.heap.size ≤ g ∧ g < w.heap.size := World.ownsRow.lt h.oO.1 g hg
theorem blk_ne {w : World} {g g' : Nat} {t t' : TypeId} {cs cs' : Array Value} (h : Blk w g t cs) (h' : Blk w g' t' cs') (ht : t ≠ t') : g ≠ g' := by
  rintro rfl
  unfold Blk at h h'
  rw [h] at h'; injection h' with h'; injection h' with _ h2; exact ht h2
/-- A new order, put into its box. -/
theorem Es.put (h : Es K w v k used) (hg : w.grownBy w' v.ownBlock) (ho : OI w' K.wb.heap.size v' k' used') (hv : v'.ownBlock = v.ownBlock ∨ ∀ i, v'.ownBlock = some i → w.heap.size ≤ i) :
    Es K (w'.setCell ⟨K.bO, 0, none⟩ v') v' k' used' ∧ Fr K w v (w'.setCell ⟨K.bO, 0, none⟩ v') v' := by
  have nH := h.ne_row h.hH (by decide); have nL := h.ne_row h.hL (by decide); have nC := h.ne_row h.hC (by decide)
  have nA := h.ne_row h.hA (by decide); have nF := h.ne_row h.hF (by decide); have nO := h.ne_row h.hO (by decide)
  have eH := blk_ne h.hH h.hO (by decide); have eL := blk_ne h.hL h.hO (by decide); have eC := blk_ne h.hC h.hO (by decide); have eF := blk_ne h.hF h.hO (by decide)
  have ks : ∀ {g : Nat} {t : TypeId} {cs : Array Value}, Blk w g t cs → v.ownBlock ≠ some g → g ≠ K.bO → Blk (w'.setCell ⟨K.bO, 0, none⟩ v') g t cs := fun hb h1 h2 => (hb.grown hg (fun e => h1 e.symm)).far (p := ⟨K.bO, 0, none⟩) h2 v'
  have hO' : Blk w' K.bO 27 #[v] := h.hO.grown hg (fun e => nO e.symm)
  have hbw : Below K.wb.heap.size K.wb w' := below_of_grown h.bw hg h.bw.size (fun g e => (h.row_lt e).1)
  have far : ∀ {q : Value} {m : Nat} {xs : List Int}, OI w' K.wb.heap.size q m xs → OI (w'.setCell ⟨K.bO, 0, none⟩ v') K.wb.heap.size q m xs := fun {q m xs} hq => by
    have hne := hq.ne_blk hO' (by decide)
    refine hq.grown (row := some K.bO) (grown_setCell (World.grownBy.refl w' (some K.bO)) (.inl rfl) v') (.inr hne)
  refine ⟨⟨hbw.setCell (p := ⟨K.bO, 0, none⟩) h.geO v', ks h.hH nH eH, ks h.hL nL eL, ks h.hC nC eC, ks h.hA nA h.neAO, ks h.hF nF eF, by simpa using hO'.set_ 0 v', ?_, far ho, ?_, h.geO, h.neAO, ?_⟩, ?_⟩
  · exact far (h.oA.grown hg h.apart)
  · rcases h.apart with e | e
    · exact .inl e
    · rcases hv with e2 | e2
      · right; rw [e2]; exact e
      · cases hq : K.va.ownBlock with
        | none => exact .inl rfl
        | some g =>
          right; intro e3
          have l1 := (World.ownsRow.lt h.oA.1 g hq).2
          have l2 := e2 g e3.symm
          omega
  · intro i hi
    obtain ⟨h1, h2, h3, h4, h5⟩ := h.cbs i hi
    refine ⟨h1, by rw [size_setCell]; exact Nat.lt_of_lt_of_le h2 hg.size, h3, h4, ?_⟩
    rcases hv with e2 | e2
    · rw [e2]; exact h5
    · intro e3; have := e2 i e3; omega
  · refine ⟨hg.os, hg.tape, hg.output, by rw [size_setCell]; exact hg.size, fun i hi h1 _ h3 => ?_, hv⟩
    exact (Below.heap_setCell w' ⟨K.bO, 0, none⟩ v' i (fun e => h1 e)).trans (hg.block i hi (fun e => h3 e.symm))
/-- Behind a call that keeps the search's state. -/
theorem Es.cb_kept (h : Es K w v k used) (hf : ∀ i, i < w.heap.size → ¬ K.cb i → w'.heap[i]? = w.heap[i]?) (ho : w'.os = w.os) (ht : w'.tape = w.tape) (hu : w'.output = w.output) (hs : w.heap.size ≤ w'.heap.size) :
    Es K w' v k used ∧ Fr K w v w' v := by
  have F : Fr K w v w' v := ⟨ho, ht, hu, hs, fun i hi _ h2 _ => hf i hi h2, .inl rfl⟩
  have ncb : ∀ {g : Nat}, (g = K.bH ∨ g = K.bL ∨ g = K.bC ∨ g = K.bA ∨ g = K.bF ∨ g = K.bO) → ¬ K.cb g := fun hg hc => by
    obtain ⟨_, _, ⟨h1, h2, h3, h4, h5, h6⟩, _⟩ := h.cbs _ hc
    rcases hg with e | e | e | e | e | e
    · exact h1 e
    · exact h2 e
    · exact h3 e
    · exact h4 e
    · exact h5 e
    · exact h6 e
  have ks : ∀ {g : Nat} {t : TypeId} {cs : Array Value}, Blk w g t cs → ¬ K.cb g → Blk w' g t cs := fun hb h1 => (hf _ hb.lt h1).trans hb
  have kr : ∀ {q : Value} {m : Nat} {xs : List Int}, OI w K.wb.heap.size q m xs → (∀ i, q.ownBlock = some i → ¬ K.cb i) → OI w' K.wb.heap.size q m xs := fun {q m xs} hq h1 => by
    refine ⟨⟨hq.1.1, ?_⟩, hq.2⟩
    rcases hq.1.2 with hn | ⟨g, cap, cur, rfl, hb, hgg, rest⟩
    · exact .inl hn
    · exact .inr ⟨g, cap, cur, rfl, hb, (hf g (Blk.lt hgg) (h1 g rfl)).trans hgg, rest⟩
  refine ⟨⟨?_, ks h.hH (ncb (by simp)), ks h.hL (ncb (by simp)), ks h.hC (ncb (by simp)), ks h.hA (ncb (by simp)), ks h.hF (ncb (by simp)), ks h.hO (ncb (by simp)), kr h.oA ?_, kr h.oO ?_, h.apart, h.geO, h.neAO, ?_⟩, F⟩
  · refine ⟨ho.trans h.bw.os, ht.trans h.bw.tape, hu.trans h.bw.output, Nat.le_trans h.bw.size hs, fun i hi => (hf i (Nat.lt_of_lt_of_le hi h.bw.size) fun hc => ?_).trans (h.bw.block i hi)⟩
    have := (h.cbs i hc).1; omega
  · intro i hi hc; exact (h.cbs i hc).2.2.2.1 hi
  · intro i hi hc; exact (h.cbs i hc).2.2.2.2 hi
  · intro i hi
    obtain ⟨h1, h2, h3⟩ := h.cbs i hi
    exact ⟨h1, Nat.lt_of_lt_of_le h2 hs, h3⟩
/-- The last number is taken away. -/
theorem Es.pop {g d : Nat} {z : Int} (h : Es K w (.slice (some ⟨g, 0, none⟩) (k + 1) d) (k + 1) (used ++ [z])) : OI w K.wb.heap.size (.slice (some ⟨g, 0, none⟩) k d) k used := by
  have hl := h.oO.len
  have h1 := h.oO.1
  rw [List.map_append, List.map_cons, List.map_nil] at h1
  have hb := h.oO.2
  exact ⟨ownsRow_pop (by simp at hl ⊢; omega) h1, by omega⟩
end
/-- The numbers of a bit mask. -/
def MaskOf (g : Nat) (used : List Int) : Prop := g < 64 ∧ ∀ x : Nat, x < 6 → (g.testBit x = used.contains (x : Int))
theorem MaskOf.zero : MaskOf 0 [] := ⟨by omega, fun x _ => by simp⟩
theorem MaskOf.snoc {g n : Nat} {used : List Int} (h : MaskOf g used) (hn : n < 6) : MaskOf (g ||| 2 ^ n) (used ++ [(n : Int)]) := by
  refine ⟨Nat.or_lt_two_pow (n := 6) h.1 (Nat.pow_lt_pow_right (by omega) hn), fun x hx => ?_⟩
  rw [Nat.testBit_or, h.2 x hx, Nat.testBit_two_pow]
  have e : (used ++ [(n : Int)]).contains (x : Int) = (used.contains (x : Int) || decide ((x : Int) = (n : Int))) := by
    rw [Bool.eq_iff_iff]; simp
  rw [e]
  congr 1
  by_cases hxn : x = n
  · subst hxn; simp
  · simp [Ne.symm hxn]; omega

end Go.Proofs.YtieecneknljmdaaDoor
