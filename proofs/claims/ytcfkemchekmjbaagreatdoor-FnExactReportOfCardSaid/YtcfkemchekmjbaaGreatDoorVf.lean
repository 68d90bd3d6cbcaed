/- Merged (what the law reaches): LwS, HistS, SerS. -/
import Derived.Test.YtcfkemchekmjbaaGreatDoorVe
import Derived.BigQuiet
import Derived.Deep.RegionHeld3
import Derived.Deep.DeepCutAuto
namespace Go.Proofs.YtcfkemchekmjbaaGreatDoor
open Go.RowKit
theorem op_cases (x y z : Int) : (inB x 1 2 = false ∧ opB (x, y, z) = false) ∨ (inB x 1 2 = true ∧ inB y 0 2 = false ∧ opB (x, y, z) = false) ∨
    (inB x 1 2 = true ∧ inB y 0 2 = true ∧ inB z 0 99 = false ∧ opB (x, y, z) = false) ∨ (inB x 1 2 = true ∧ inB y 0 2 = true ∧ inB z 0 99 = true ∧ (x == 1) = true ∧ opB (x, y, z) = true) ∨
    (inB x 1 2 = true ∧ inB y 0 2 = true ∧ inB z 0 99 = true ∧ (x == 1) = false ∧ opB (x, y, z) = decide (0 < z)) := by
  unfold opB
  cases inB x 1 2 <;> cases inB y 0 2 <;> cases inB z 0 99 <;> cases (x == 1) <;> simp
set_option maxHeartbeats 2000000 in
theorem spec_OpValid_c {x y z : Int} {w : World} :
    Calls Tryz.prog 149 #[.agg #[.int .i64 x, .int .i64 y, .int .i64 z]] w fun e w' => e = .returned (.bool (opB (x, y, z))) ∧ Below w.heap.size w w' := by
  have B0 : ∀ o, Below w.heap.size w (w.alloc o) := fun o => (Below.refl _ _).alloc (Nat.le_refl _) o
  rcases op_cases x y z with ⟨h1, hf⟩ | ⟨h1, h2, hf⟩ | ⟨h1, h2, h3, hf⟩ | ⟨h1, h2, h3, h4, hf⟩ | ⟨h1, h2, h3, h4, hf⟩
  · have F := hide hf; have H1 := hide h1; clear hf h1
    go_enter Tryz.func149, Tryz.ntmps149
    go_wp2_with (go_at_call 45; refine (l1In_c).mono ?_; rintro e w' ⟨rfl, rfl⟩; first | rw [H1.out])
    go_ret
    exact ⟨by rw [F.out]; rfl, B0 _⟩
  · have F := hide hf; have H1 := hide h1; have H2 := hide h2; clear hf h1 h2
    go_enter Tryz.func149, Tryz.ntmps149
    go_wp2_with (go_at_call 45; refine (l1In_c).mono ?_; rintro e w' ⟨rfl, rfl⟩; first | rw [H1.out] | rw [H2.out])
    go_ret
    exact ⟨by rw [F.out]; rfl, B0 _⟩
  · have F := hide hf; have H1 := hide h1; have H2 := hide h2; have H3 := hide h3; clear hf h1 h2 h3
    go_enter Tryz.func149, Tryz.ntmps149
    go_wp2_with (go_at_call 45; refine (l1In_c).mono ?_; rintro e w' ⟨rfl, rfl⟩; first | rw [H1.out] | rw [H2.out] | rw [H3.out])
    go_ret
    exact ⟨by rw [F.out]; rfl, B0 _⟩
  · have F := hide hf; have H1 := hide h1; have H2 := hide h2; have H3 := hide h3; clear hf h1 h2 h3
    go_enter Tryz.func149, Tryz.ntmps149
    go_wp2_with (go_at_call 45; refine (l1In_c).mono ?_; rintro e w' ⟨rfl, rfl⟩; first | rw [H1.out] | rw [H2.out] | rw [H3.out])
    go_ret
    exact ⟨by rw [F.out]; rfl, B0 _⟩
  · have F := hide hf; have H1 := hide h1; have H2 := hide h2; have H3 := hide h3; clear hf h1 h2 h3
    go_enter Tryz.func149, Tryz.ntmps149
    go_wp2_with (go_at_call 45; refine (l1In_c).mono ?_; rintro e w' ⟨rfl, rfl⟩; first | rw [H1.out] | rw [H2.out] | rw [H3.out])
    go_ret
    exact ⟨by rw [F.out]; simp [go_sem], B0 _⟩
theorem txnB_bad {t : Tx} {k : Nat} {o : T3} (hk : t.2.1[k]? = some o) (h : opB o = false) : txnB t = false := by simp [txnB, all_badA hk h]
set_option maxHeartbeats 4000000 in
theorem spec_TxnValid_c {v : Value} {m : Nat} {ys : List T3} {f : Int} {dn : Bool} {w : World} (hv : S3 w v m ys) :
    Calls Tryz.prog 98 #[.agg #[.int .i64 f, v, .bool dn]] w fun e w' => e = .returned (.bool (txnB (f, ys, dn))) ∧ Below w.heap.size w w' := by
  have sv := hv
  obtain ⟨A, c, rfl, hnc, hm, hr⟩ := hv
  have hl := hide hr.len
  have b1 : Below w.heap.size w (w.alloc (.cells #[.int .i64 f, .slice A m c, .bool dn] 66)) := (Below.refl _ _).alloc (Nat.le_refl _) _
  have K0 := Blk.new w 66 #[.int .i64 f, .slice A m c, .bool dn]
  go_enter Tryz.func98, Tryz.ntmps98
  go_wp2_with fail
  go_loopw [3] (fun i wr => ∃ k : Nat, k ≤ m ∧ i = .int .i64 k ∧ (ys.take k).all opB = true ∧ Blk wr w.heap.size 66 #[.int .i64 f, .slice A m c, .bool dn] ∧ Below w.heap.size w wr) (fun i _ => m - (intOf i).toNat)
  case atStart => exact ⟨0, Nat.zero_le _, rfl, by simp, K0, b1⟩
  case round =>
    clear K0 b1
    obtain ⟨k, hk, rfl, hall, KR, bw⟩ := hrel
    have Hall := hide hall; have HKR := hide KR; clear hall
    obtain ⟨g0, g1, g2⟩ := KR.three
    clear KR
    by_cases hkm : k < m
    · obtain ⟨b, off, x, y, z, rfl, hbb, hx, p0, p1, p2⟩ := hr.at_ hkm
      have a0 := (bw.cell (p := ⟨b, off + k * 3, none⟩) hbb).trans p0
      have a1 := (bw.cell (p := ⟨b, off + k * 3 + 1, none⟩) hbb).trans p1
      have a2 := (bw.cell (p := ⟨b, off + k * 3 + 2, none⟩) hbb).trans p2
      have Hx := hide hx
      clear hx p0 p1 p2
      have k0 : (0 : Int) ≤ k := by omega
      have k2 : (k : Int) < m := by omega
      cases hv : opB (x, y, z)
      · have hf := txnB_bad (t := (f, ys, dn)) Hx.out hv
        have F := hide hf; have V := hide hv; clear hf hv
        go_wp2_with fail
        refine (spec_OpValid_c).mono ?_
        rintro e w2 ⟨rfl, b2⟩
        rw [V.out]
        have B2 := below_step bw b2
        go_wp2_with fail
        go_ret
        exact ⟨by rw [F.out]; rfl, B2⟩
      · have hq := all_snocA Hall.out Hx.out hv
        have F := hide hq; have V := hide hv; clear hq hv
        go_wp2_with fail
        refine (spec_OpValid_c).mono ?_
        rintro e w2 ⟨rfl, b2⟩
        rw [V.out]
        have B2 := below_step bw b2
        have K2 := HKR.out.belowAll b2
        go_wp2_with fail
        go_roundw
        case rel => exact ⟨k + 1, by omega, by go_num, F.out, K2, B2⟩
        case measure => simp [intOf]; omega
    · obtain rfl : k = m := by omega
      have h1 := Hall.out
      rw [List.take_of_length_le (by rw [hl.out]; omega)] at h1
      cases hS : inB f 0 3
      · have hf : txnB (f, ys, dn) = false := by simp [txnB, hS]
        have F := hide hf; have Z := hide hS; clear hf hS h1
        go_wp2_with (go_at_call 45; refine (l1In_c).mono ?_; rintro e w' ⟨rfl, rfl⟩; rw [Z.out])
        go_ret
        exact ⟨by rw [F.out]; rfl, bw⟩
      · have hf : txnB (f, ys, dn) = decide (k ≤ 6) := by unfold txnB; dsimp only; rw [h1, hS, hl.out]; simp
        have F := hide hf; have Z := hide hS; clear hf hS h1
        go_wp2_with (go_at_call 45; refine (l1In_c).mono ?_; rintro e w' ⟨rfl, rfl⟩; rw [Z.out])
        go_ret
        exact ⟨by rw [F.out]; simp [go_sem]; omega, bw⟩
/-- Where a search from behind stands: nothing found from place j on. -/
def NoneK (ys : List T3) (key : Int) (j : Nat) : Prop := ∀ (i : Nat) p, j ≤ i → ys[i]? = some p → ¬ (p.1 = 2 ∧ p.2.1 = key)
def NoneO (ys : List T3) (key : Int) (j : Nat) : Prop := ∀ (i : Nat) p, j ≤ i → ys[i]? = some p → ¬ p.2.1 = key
theorem NoneK.start {ys : List T3} {key : Int} : NoneK ys key ys.length := fun i p hi hp => by have := (List.getElem?_eq_some_iff.1 hp).1; omega
theorem NoneK.step {ys : List T3} {key : Int} {j : Nat} {o : T3} (h : NoneK ys key (j + 1)) (hj : ys[j]? = some o) (ho : ¬ (o.1 = 2 ∧ o.2.1 = key)) : NoneK ys key j := fun i p hi hp => by
  by_cases e : i = j
  · subst e; rw [hj] at hp; injection hp with hp; subst hp; exact ho
  · exact h i p (by omega) hp
theorem NoneK.found {ys : List T3} {key : Int} {j : Nat} {o : T3} (h : NoneK ys key (j + 1)) (hj : ys[j]? = some o) (ho : o.1 = 2 ∧ o.2.1 = key) : lastK ys key = some o := lastK_at hj ho (fun i p hi hp => h i p hi hp)
theorem NoneK.none_ {ys : List T3} {key : Int} (h : NoneK ys key 0) : lastK ys key = none := lastK_none (fun i p hp => h i p (Nat.zero_le _) hp)
theorem NoneO.start {ys : List T3} {key : Int} : NoneO ys key ys.length := fun i p hi hp => by have := (List.getElem?_eq_some_iff.1 hp).1; omega
theorem NoneO.step {ys : List T3} {key : Int} {j : Nat} {o : T3} (h : NoneO ys key (j + 1)) (hj : ys[j]? = some o) (ho : ¬ o.2.1 = key) : NoneO ys key j := fun i p hi hp => by
  by_cases e : i = j
  · subst e; rw [hj] at hp; injection hp with hp; subst hp; exact ho
  · exact h i p (by omega) hp
theorem NoneO.found {ys : List T3} {key : Int} {j : Nat} {o : T3} (h : NoneO ys key (j + 1)) (hj : ys[j]? = some o) (ho : o.2.1 = key) : lastO ys key = some o := lastO_at hj ho (fun i p hi hp => h i p hi hp)
theorem NoneO.none_ {ys : List T3} {key : Int} (h : NoneO ys key 0) : lastO ys key = none := lastO_none (fun i p hp => h i p (Nat.zero_le _) hp)
end Go.Proofs.YtcfkemchekmjbaaGreatDoor

namespace Go.Proofs.YtcfkemchekmjbaaGreatDoor
open Go.RowKit
theorem wl_len (os : List T3) : (wl os).length ≤ os.length := List.length_filterMap_le _ _
theorem cnt_le {ts : List Tx} {k : Nat} {t : Tx} (ht : ts[k]? = some t) (j : Nat) (q : Int × Int) : (wl (opsTo ts k j)).count q ≤ (allOps ts).length := by
  obtain ⟨r, hr⟩ := opsTo_split ht j
  have h1 := List.count_le_length (a := q) (l := wl (opsTo ts k j))
  have h2 := wl_len (opsTo ts k j)
  have h3 : (allOps ts).length = (opsTo ts k j).length + r.length := by rw [hr, List.length_append]
  omega
theorem cnt_yes {ts : List Tx} {k j : Nat} {t : Tx} {x y z key val : Int} (ht : ts[k]? = some t) (ho : t.2.1[j]? = some (x, y, z)) (hb : (x == 2 && (y == key && z == val)) = true) :
    (wl (opsTo ts k (j + 1))).count (key, val) = (wl (opsTo ts k j)).count (key, val) + 1 := by
  simp only [Bool.and_eq_true, beq_iff_eq] at hb
  obtain ⟨h1, h2, h3⟩ := hb
  rw [wl_step_w ht ho h1, List.count_append]
  subst h2; subst h3
  simp
theorem cnt_no {ts : List Tx} {k j : Nat} {t : Tx} {x y z key val : Int} (ht : ts[k]? = some t) (ho : t.2.1[j]? = some (x, y, z)) (hb : (x == 2 && (y == key && z == val)) = false) :
    (wl (opsTo ts k (j + 1))).count (key, val) = (wl (opsTo ts k j)).count (key, val) := by
  by_cases h1 : x = 2
  · rw [wl_step_w ht ho h1, List.count_append]
    have : ¬ ((y, z) = (key, val)) := by
      intro e
      simp only [Prod.mk.injEq] at e
      rw [h1, e.1, e.2] at hb; simp at hb
    simp [this]
  · rw [wl_step_r ht ho h1]
set_option maxRecDepth 100000 in
set_option maxHeartbeats 8000000 in
theorem l2Writes_c {A : Option Addr} {n c : Nat} {ts : List Tx} {key val : Int} {w : World} (hr : RTs w A n ts) (hn : n ≤ 1048576) (hsum : (allOps ts).length ≤ 1048576) (hsm : SmallT ts) :
    Calls Tryz.prog 167 #[.slice A n c, .int .i64 key, .int .i64 val] w fun e w' => e = .returned (.int .i64 ((wl (allOps ts)).count (key, val) : Nat)) ∧ Below w.heap.size w w' := by
  have hl := hide hr.1
  go_enter Tryz.func167, Tryz.ntmps167
  go_wp2_with fail
  go_loopw [7, 8] (fun v i wr => ∃ k : Nat, i = .int .i64 k ∧ k ≤ n ∧ v = .int .i64 ((wl (opsTo ts k 0)).count (key, val) : Nat) ∧ Below w.heap.size w wr) (fun _ i _ => n - (intOf i).toNat)
  case atStart => exact ⟨0, rfl, Nat.zero_le _, by rw [opsTo_zero]; rfl, Below.refl _ _⟩
  case round =>
    obtain ⟨k, rfl, hk, rfl, bw⟩ := hrel
    have BW := hide bw; clear bw
    by_cases hkn : k < n
    · obtain ⟨b, off, f, ys, dn, B, kk, d, rfl, hbb, hx, q0, q1, q2, hkd, hdm, hri⟩ := hr.at_ hkn
      have hyl := hide hri.len
      have HX := hide hx; have Q1 := hide q1
      have k0 : (0 : Int) ≤ k := by omega
      have k2 : (k : Int) < n := by omega
      have h6 : kk ≤ 1048576 := by have := hsm _ (List.mem_of_getElem? hx); dsimp only at this; rw [hyl.out] at this; exact this
      clear q0 q1 q2 hx
      go_wp2_with fail
      go_loopw [7, 9] (fun v i wr2 => ∃ j : Nat, i = .int .i64 j ∧ j ≤ kk ∧ v = .int .i64 ((wl (opsTo ts k j)).count (key, val) : Nat) ∧ Below w.heap.size w wr2) (fun _ i _ => kk - (intOf i).toNat)
      case atStart => exact ⟨0, rfl, Nat.zero_le _, rfl, BW.out⟩
      case round =>
        clear BW
        obtain ⟨j, rfl, hj, rfl, bw⟩ := hrel
        rename World => wr2
        have BW := hide bw; clear bw
        have e1 := (BW.out.cell (p := ⟨b, off + k * 3 + 1, none⟩) hbb).trans Q1.out
        by_cases hjk : j < kk
        · obtain ⟨b2, off2, x, y, z, rfl, hbb2, hx2, p0, p1, p2⟩ := hri.at_ hjk
          have a0 := (BW.out.cell (p := ⟨b2, off2 + j * 3, none⟩) hbb2).trans p0
          have a1 := (BW.out.cell (p := ⟨b2, off2 + j * 3 + 1, none⟩) hbb2).trans p1
          have a2 := (BW.out.cell (p := ⟨b2, off2 + j * 3 + 2, none⟩) hbb2).trans p2
          have hcl := cnt_le HX.out j (key, val)
          have HX2 := hide hx2
          have j0 : (0 : Int) ≤ j := by omega
          have j2 : (j : Int) < kk := by omega
          clear hx2 p0 p1 p2
          cases hb : (x == 2 && (y == key && z == val))
          · have hq : ∀ w', (binOp .eql 61 (.agg #[.int .i64 x, .int .i64 y, .int .i64 z]) (.agg #[.int .i64 2, .int .i64 key, .int .i64 val])).run Tryz.prog w' = .ok (.bool false) w' := fun w' => by rw [eqOpL, hb]
            have hno := cnt_no HX.out HX2.out hb
            have HN := hide hno
            clear hb hno
            go_wp2_with fail
            go_roundw
            case rel => exact ⟨j + 1, by go_num, by omega, by rw [HN.out], BW.out⟩
            case measure => simp [intOf]; omega
          · have hq : ∀ w', (binOp .eql 61 (.agg #[.int .i64 x, .int .i64 y, .int .i64 z]) (.agg #[.int .i64 2, .int .i64 key, .int .i64 val])).run Tryz.prog w' = .ok (.bool true) w' := fun w' => by rw [eqOpL, hb]
            have hno := cnt_yes HX.out HX2.out hb
            have HN := hide hno
            obtain ⟨q, hq2⟩ : ∃ q, (wl (opsTo ts k j)).count (key, val) = q := ⟨_, rfl⟩
            rw [hq2] at hcl HN ⊢
            clear hb hno hq2
            go_wp2_with fail
            go_roundw
            case rel => exact ⟨j + 1, by go_num, by omega, by rw [HN.out]; go_num, BW.out⟩
            case measure => simp [intOf]; omega
        · obtain rfl : j = kk := by omega
          have hnx := opsTo_next HX.out (show ys.length ≤ j by rw [hyl.out]; omega)
          have HNX := hide hnx; clear hnx
          go_wp2_with fail
          go_roundw
          case rel => exact ⟨k + 1, by go_num, by omega, by rw [HNX.out], BW.out⟩
          case measure => simp [intOf]; omega
    · obtain rfl : k = n := by omega
      have hall := opsTo_all (show ts.length ≤ k by rw [hl.out]; omega)
      have HA := hide hall; clear hall
      go_wp2_with fail
      go_ret
      exact ⟨by rw [← HA.out]; rfl, BW.out⟩
/-- No value of the first ones is written twice in the whole. -/
def OnceTo (ts : List Tx) (k j : Nat) : Prop := ∀ q ∈ wl (opsTo ts k j), (wl (allOps ts)).count q ≤ 1
theorem OnceTo.r {ts : List Tx} {k j : Nat} {t : Tx} {o : T3} (h : OnceTo ts k j) (ht : ts[k]? = some t) (ho : t.2.1[j]? = some o) (hw : o.1 ≠ 2) : OnceTo ts k (j + 1) := by
  unfold OnceTo; rw [wl_step_r ht ho hw]; exact h
theorem OnceTo.w {ts : List Tx} {k j : Nat} {t : Tx} {o : T3} (h : OnceTo ts k j) (ht : ts[k]? = some t) (ho : t.2.1[j]? = some o) (hw : o.1 = 2) (hc : (wl (allOps ts)).count (o.2.1, o.2.2) ≤ 1) : OnceTo ts k (j + 1) := by
  unfold OnceTo; rw [wl_step_w ht ho hw]
  intro q hq
  rcases List.mem_append.1 hq with hq | hq
  · exact h q hq
  · simp at hq; subst hq; exact hc
theorem once_nodup {ts : List Tx} {k : Nat} (h : OnceTo ts k 0) (hk : ts.length ≤ k) : (wl (allOps ts)).Nodup := by
  unfold OnceTo at h
  rw [opsTo_all hk] at h
  rw [List.nodup_iff_count]
  intro a
  by_cases ha : a ∈ wl (allOps ts)
  · exact h a ha
  · rw [List.count_eq_zero_of_not_mem ha]; omega
theorem histB_dup {ts : List Tx} {q : Int × Int} (h : 1 < (wl (allOps ts)).count q) : histB ts = false := by
  have : ¬ (wl (allOps ts)).Nodup := fun hn => by have := List.nodup_iff_count.1 hn q; omega
  simp [histB, this]
set_option maxRecDepth 100000 in
set_option maxHeartbeats 8000000 in
theorem spec_HistoryValid_c {A : Option Addr} {n c : Nat} {ts : List Tx} {w : World} (hr : RTs w A n ts) (hn : n ≤ 1048576) (hsum : (allOps ts).length ≤ 1048576) (hsm : SmallT ts) :
    Calls Tryz.prog 118 #[.slice A n c] w fun e w' => e = .returned (.bool (histB ts)) ∧ Below w.heap.size w w' := by
  have hl := hide hr.1
  go_enter Tryz.func118, Tryz.ntmps118
  go_wp2_with fail
  go_loopw [3] (fun i wr => ∃ k : Nat, i = .int .i64 k ∧ k ≤ n ∧ (ts.take k).all txnB = true ∧ OnceTo ts k 0 ∧ Below w.heap.size w wr) (fun i _ => n - (intOf i).toNat)
  case atStart => exact ⟨0, rfl, Nat.zero_le _, by simp, (fun q hq => by rw [opsTo_zero] at hq; simp [wl] at hq), Below.refl _ _⟩
  case round =>
    obtain ⟨k, rfl, hk, hall, hon, bw⟩ := hrel
    have HALL := hide hall; have HON := hide hon; have BW := hide bw; clear hall hon bw
    by_cases hkn : k < n
    · obtain ⟨b, off, f, ys, dn, B, kk, d, rfl, hbb, hx, q0, q1, q2, hkd, hdm, hri⟩ := hr.at_ hkn
      have e0 := (BW.out.cell (p := ⟨b, off + k * 3, none⟩) hbb).trans q0
      have e1 := (BW.out.cell (p := ⟨b, off + k * 3 + 1, none⟩) hbb).trans q1
      have e2 := (BW.out.cell (p := ⟨b, off + k * 3 + 2, none⟩) hbb).trans q2
      have hyl := hide hri.len
      have HX := hide hx; have Q1 := hide q1
      have k0 : (0 : Int) ≤ k := by omega
      have k2 : (k : Int) < n := by omega
      have h6 : kk ≤ 1048576 := by have := hsm _ (List.mem_of_getElem? hx); dsimp only at this; rw [hyl.out] at this; exact this
      have s1 : S3 w (.slice B kk d) kk ys := S3.of_args hkd h6 hri
      have hb1 := hbb
      clear q0 q1 q2 hx
      cases hv : txnB (f, ys, dn)
      · have hf := histB_bad HX.out hv
        have F := hide hf; have V := hide hv; clear hf hv
        go_wp2_with fail
        refine (spec_TxnValid_c (s1.below BW.out)).mono ?_
        rintro e w2 ⟨rfl, b2⟩
        rw [V.out]
        go_wp2_with fail
        go_ret
        exact ⟨by rw [F.out]; rfl, below_step BW.out b2⟩
      · have hal := all_snocA HALL.out HX.out hv
        have HAL := hide hal; have V := hide hv; clear hal hv
        go_wp2_with fail
        refine (spec_TxnValid_c (s1.below BW.out)).mono ?_
        rintro e w2 ⟨rfl, b2⟩
        rw [V.out]
        have B2 := hide (below_step BW.out b2)
        clear e0 e1 e2 b2
        go_wp2_with fail
        go_loopw [4] (fun i wr2 => ∃ j : Nat, i = .int .i64 j ∧ j ≤ kk ∧ OnceTo ts k j ∧ Below w.heap.size w wr2) (fun i _ => kk - (intOf i).toNat)
        case atStart => exact ⟨0, rfl, Nat.zero_le _, HON.out, B2.out⟩
        case round =>
          clear B2
          obtain ⟨j, rfl, hj, hon, bw⟩ := hrel
          rename World => wr2
          have HON2 := hide hon; have BW2 := hide bw; clear hon bw
          have e1 := (BW2.out.cell (p := ⟨b, off + k * 3 + 1, none⟩) hb1).trans Q1.out
          by_cases hjk : j < kk
          · obtain ⟨b2, off2, x, y, z, rfl, hbb2, hx2, p0, p1, p2⟩ := hri.at_ hjk
            have a0 := (BW2.out.cell (p := ⟨b2, off2 + j * 3, none⟩) hbb2).trans p0
            have a1 := (BW2.out.cell (p := ⟨b2, off2 + j * 3 + 1, none⟩) hbb2).trans p1
            have a2 := (BW2.out.cell (p := ⟨b2, off2 + j * 3 + 2, none⟩) hbb2).trans p2
            have HX2 := hide hx2
            have j0 : (0 : Int) ≤ j := by omega
            have j2 : (j : Int) < kk := by omega
            have b8 : Below w.heap.size w (wr2.alloc (.cells #[.int .i64 x, .int .i64 y, .int .i64 z] 61)) := BW2.out.alloc BW2.out.size _
            have K8 := Blk.new wr2 61 #[.int .i64 x, .int .i64 y, .int .i64 z]
            obtain ⟨f0, f1, f2⟩ := K8.three
            clear hx2 p0 p1 p2 K8
            by_cases hx : x = 2
            · subst hx
              have hct : (wl (allOps ts)).count (y, z) ≤ (allOps ts).length := by
                have h1 := List.count_le_length (a := (y, z)) (l := wl (allOps ts))
                have h2 := wl_len (allOps ts)
                omega
              by_cases hc1 : (wl (allOps ts)).count (y, z) ≤ 1
              · have hon2 := OnceTo.w HON2.out HX.out HX2.out rfl hc1
                have HO := hide hon2
                obtain ⟨C, hC⟩ : ∃ C, (wl (allOps ts)).count (y, z) = C := ⟨_, rfl⟩
                have HC := hide hC
                rw [hC] at hc1 hct
                have hc2 : ¬ ((1 : Int) < (C : Int)) := by omega
                clear hon2 hC
                go_wp2_with fail
                refine (l2Writes_c (hr.below b8) hn hsum hsm).mono ?_
                rintro e w3 ⟨rfl, b3⟩
                rw [HC.out]
                have B3 := below_step b8 b3
                go_wp2_with fail
                go_roundw
                case rel => exact ⟨j + 1, by go_num, by omega, HO.out, B3⟩
                case measure => simp [intOf]; omega
              · have hf := histB_dup (show 1 < (wl (allOps ts)).count (y, z) by omega)
                have F := hide hf
                obtain ⟨C, hC⟩ : ∃ C, (wl (allOps ts)).count (y, z) = C := ⟨_, rfl⟩
                have HC := hide hC
                rw [hC] at hc1 hct
                have hc2 : (1 : Int) < (C : Int) := by omega
                clear hf hC
                go_wp2_with fail
                refine (l2Writes_c (hr.below b8) hn hsum hsm).mono ?_
                rintro e w3 ⟨rfl, b3⟩
                rw [HC.out]
                have B3 := below_step b8 b3
                go_wp2_with fail
                go_ret
                exact ⟨by rw [F.out]; rfl, B3⟩
            · have hon2 := OnceTo.r HON2.out HX.out HX2.out hx
              have HO := hide hon2
              have hxb : (x == 2) = false := by simpa using hx
              clear hon2 hx
              go_wp2_with fail
              go_roundw
              case rel => exact ⟨j + 1, by go_num, by omega, HO.out, b8⟩
              case measure => simp [intOf]; omega
          · obtain rfl : j = kk := by omega
            have hnx := opsTo_next HX.out (show ys.length ≤ j by rw [hyl.out]; omega)
            have hon2 : OnceTo ts (k + 1) 0 := by unfold OnceTo; rw [hnx]; exact HON2.out
            have HO := hide hon2; clear hnx hon2
            go_wp2_with fail
            go_roundw
            case rel => exact ⟨k + 1, by go_num, by omega, HAL.out, HO.out, BW2.out⟩
            case measure => simp [intOf]; omega
    · obtain rfl : k = n := by omega
      have h1 := HALL.out
      rw [List.take_of_length_le (by rw [hl.out]; omega)] at h1
      have hf : histB ts = decide (k ≤ 6) := by
        unfold histB; rw [h1, decide_eq_true (once_nodup HON.out (by rw [hl.out]; omega)), hl.out]; simp
      have F := hide hf; clear hf h1
      go_wp2_with fail
      go_ret
      exact ⟨by rw [F.out]; simp [go_sem]; omega, BW.out⟩
end Go.Proofs.YtcfkemchekmjbaaGreatDoor

namespace Go.Proofs.YtcfkemchekmjbaaGreatDoor
open Go.RowKit
theorem make3S (w : World) : (Instr.makeSlice 24 (.int .i64 3) (.int .i64 3)).run Tryz.prog w = .ok (.slice (some ⟨w.heap.size, 0, none⟩) 3 3) (w.alloc (.cells (List.replicate 3 (Value.int .i64 0)).toArray 3)) := run_make_ints 3 (by omega) w
theorem set_sameS {s : List Int} {k : Nat} {z : Int} (hk : k < s.length) (h : s.getD k 0 = z) : s.set k z = s := by
  apply List.ext_getElem?
  intro i
  by_cases e : k = i
  · subst e
    rw [List.getElem?_set_self hk, List.getElem?_eq_getElem hk]
    rw [List.getD_eq_getElem?_getD, List.getElem?_eq_getElem hk] at h
    simp at h; rw [h]
  · rw [List.getElem?_set_ne e]
def goesOn (ts : List Tx) (s : List Int) (ys : List T3) (r : List Int) : Bool := match followL s ys with
  | none => false
  | some s' => runsF ts s' r
set_option maxRecDepth 100000 in
set_option maxHeartbeats 8000000 in
theorem l12Runs_c {A : Option Addr} {n c q : Nat} {ts : List Tx} {u : Value} {os : List Int} {w : World} (hr : RTs w A n ts) (hu : SI w u q os) (hin : ∀ x ∈ os, 0 ≤ x ∧ x < n) (hk : ∀ t ∈ ts, ∀ o ∈ t.2.1, (o.1 = 1 ∨ o.1 = 2) ∧ 0 ≤ o.2.1 ∧ o.2.1 ≤ 2) (hsm : SmallT ts) :
    Calls Tryz.prog 170 #[.slice A n c, u] w fun e w' => e = .returned (.bool (runsF ts [0, 0, 0] os)) ∧ Below w.heap.size w w' := by
  obtain ⟨Au, cu, rfl, hqc, hq, hri⟩ := hu
  have hql := hide hri.len
  have hmk := make3S
  have o0 : OI (w.alloc (.cells (List.replicate 3 (Value.int .i64 0)).toArray 3)) w.heap.size (.slice (some ⟨w.heap.size, 0, none⟩) 3 3) 3 [0, 0, 0] := OI.of_blk (Blk.new w _ _) (Nat.le_refl _) rfl rfl (by omega)
  have B0 : Below w.heap.size w (w.alloc (.cells (List.replicate 3 (Value.int .i64 0)).toArray 3)) := (Below.refl _ _).alloc (Nat.le_refl _) _
  have O0 := hide o0; have HB0 := hide B0; clear o0 B0
  go_enter Tryz.func170, Tryz.ntmps170
  go_wp2_with fail
  go_loopw [6] (fun i wr => ∃ (k : Nat) (s : List Int), i = .int .i64 k ∧ k ≤ q ∧ OI wr w.heap.size (.slice (some ⟨w.heap.size, 0, none⟩) 3 3) 3 s ∧ runsF ts [0, 0, 0] os = runsF ts s (os.drop k) ∧ Below w.heap.size w wr) (fun i _ => q - (intOf i).toNat)
  case atStart => exact ⟨0, _, rfl, Nat.zero_le _, O0.out, rfl, HB0.out⟩
  case round =>
    clear O0 HB0
    obtain ⟨k, s, rfl, hkq, hs, he, bw⟩ := hrel
    have HS := hide hs; have HE := hide he; clear hs he
    by_cases hkl : k < q
    · obtain ⟨b1, o1, x, rfl, hb1, hx, hc1⟩ := hri.at_ hkl
      have c1 := (bw.cell (p := ⟨b1, o1 + k, none⟩) hb1).trans hc1
      obtain ⟨hx0, hx1⟩ := hin x (List.mem_of_getElem? hx)
      obtain ⟨xn, rfl⟩ : ∃ j : Nat, x = j := ⟨x.toNat, by omega⟩
      obtain ⟨b, off, f, ys, dn, B, kk, d, rfl, hbb, ht, q0, q1, q2, hkd, hdm, hry⟩ := hr.at_ (k := xn) (by omega)
      have e1 := (bw.cell (p := ⟨b, off + xn * 3 + 1, none⟩) hbb).trans q1
      have hdrop : os.drop k = (xn : Int) :: os.drop (k + 1) := by
        have hl : k < os.length := (List.getElem?_eq_some_iff.1 hx).1
        rw [List.drop_eq_getElem_cons hl]
        have := (List.getElem?_eq_some_iff.1 hx).2
        rw [this]
      have hops : opsOf ts ((xn : Int)).toNat = ys := by unfold opsOf; rw [List.getD_eq_getElem?_getD, Int.toNat_natCast, ht]; rfl
      have hgo : runsF ts [0, 0, 0] os = goesOn ts s (ys.drop 0) (os.drop (k + 1)) := by rw [HE.out, hdrop]; unfold goesOn; rw [List.drop_zero, runsF, hops]; rfl
      have HK := hide (hk _ (List.mem_of_getElem? ht))
      have hyl := hide hry.len
      have hkk : kk ≤ 1048576 := by have := hsm _ (List.mem_of_getElem? ht); have h2 := hry.len; dsimp only at this; omega
      have HGO := hide hgo; have BW := hide bw
      have k0 : (0 : Int) ≤ k := by omega
      have k2 : (k : Int) < q := by omega
      have x0 : (0 : Int) ≤ xn := by omega
      have x2 : (xn : Int) < n := by omega
      clear q0 q1 q2 hx ht hdrop hops hgo bw
      go_wp2_with fail
      go_loopw [8] (fun i wr2 => ∃ (j : Nat) (s2 : List Int), i = .int .i64 j ∧ j ≤ kk ∧ OI wr2 w.heap.size (.slice (some ⟨w.heap.size, 0, none⟩) 3 3) 3 s2 ∧ runsF ts [0, 0, 0] os = goesOn ts s2 (ys.drop j) (os.drop (k + 1)) ∧ Below w.heap.size w wr2) (fun i _ => kk - (intOf i).toNat)
      case atStart => exact ⟨0, s, rfl, Nat.zero_le _, HS.out, HGO.out, BW.out⟩
      case round =>
        clear HS HGO BW c1 e1
        rename World => wr2
        obtain ⟨j, s2, rfl, hj, hs, hg, bw⟩ := hrel
        have hsl := hs.len
        by_cases hjk : j < kk
        · obtain ⟨b2, o2, x, y, z, rfl, hbb2, hy, p0, p1, p2⟩ := hry.at_ hjk
          have a0 := (bw.cell (p := ⟨b2, o2 + j * 3, none⟩) hbb2).trans p0
          have a1 := (bw.cell (p := ⟨b2, o2 + j * 3 + 1, none⟩) hbb2).trans p1
          have a2 := (bw.cell (p := ⟨b2, o2 + j * 3 + 2, none⟩) hbb2).trans p2
          obtain ⟨hx12, hy0, hy2⟩ := HK.out (x, y, z) (List.mem_of_getElem? hy)
          dsimp only at hx12 hy0 hy2
          obtain ⟨yn, rfl⟩ : ∃ i : Nat, y = i := ⟨y.toNat, by omega⟩
          obtain ⟨sv, hsv, cz⟩ := hs.cell yn (by omega)
          have fz := hs.free yn
          have hdrop : ys.drop j = (x, (yn : Int), z) :: ys.drop (j + 1) := by
            have hl : j < ys.length := (List.getElem?_eq_some_iff.1 hy).1
            rw [List.drop_eq_getElem_cons hl, (List.getElem?_eq_some_iff.1 hy).2]
          have hgd : s2.getD yn 0 = sv := by rw [List.getD_eq_getElem?_getD, hsv]; rfl
          rw [hdrop] at hg
          have j0 : (0 : Int) ≤ j := by omega
          have j2 : (j : Int) < kk := by omega
          have j3 : decide ((j : Int) < 0) = false := by simp
          have j4 : decide (kk ≤ j) = false := by simp; omega
          have y0 : (0 : Int) ≤ yn := by omega
          have y2 : (yn : Int) < 3 := by omega
          have y3 : decide ((yn : Int) < 0) = false := by simp
          have y4 : decide (3 ≤ yn) = false := by simp; omega
          have hc : ∀ W, Below w.heap.size w W → W.cell? ⟨b2, o2 + j * 3 + 1, none⟩ = some (.int .i64 (yn : Int)) ∧ W.cell? ⟨b2, o2 + j * 3 + 2, none⟩ = some (.int .i64 z) := fun W h => ⟨(h.cell (p := ⟨b2, o2 + j * 3 + 1, none⟩) hbb2).trans p1, (h.cell (p := ⟨b2, o2 + j * 3 + 2, none⟩) hbb2).trans p2⟩
          have HC := hide hc; have HYN := hide hsv; have HGD := hide hgd; have HG := hide hg; have BW := hide bw; have HS2 := hide hs
          clear p0 p1 p2 hy hdrop hsv hgd hg hc bw hs
          rcases hx12 with rfl | rfl
          · by_cases hsz : sv = z
            · have hne : (sv != z) = false := by simpa using hsz
              go_wp2_with fail
              go_big_quiet (fail)
              go_upto_region 11 with fail
              rename Nat => nq
              have BQ : Below wr2.heap.size wr2 (wr2.drewN nq).drew := (below_drewN (Below.refl _ _) nq).drew
              have BQ2 : Below w.heap.size w (wr2.drewN nq).drew := below_step BW.out BQ
              have O5 := hide ((HS2.out.below BQ).store yn z)
              have HG2 := hide (show runsF ts [0, 0, 0] os = goesOn ts (s2.set yn z) (ys.drop (j + 1)) (os.drop (k + 1)) by
                rw [set_sameS (by omega) (by rw [HGD.out]; exact hsz), HG.out]; unfold goesOn; simp only [followL]; rw [if_neg (by decide), if_pos (by rw [Int.toNat_natCast, HGD.out]; exact hsz)])
              go_region_held3 (fun W => W.cell? ⟨b2, o2 + j * 3 + 1, none⟩ = some (.int .i64 (yn : Int)) ∧ W.cell? ⟨b2, o2 + j * 3 + 2, none⟩ = some (.int .i64 z)) (first | exact HC.out _ BQ2 | exact HC.out _ (BQ2.setCell (p := ⟨w.heap.size, yn, none⟩) (Nat.le_refl _) _)) (fail)
              go_wp2_with fail
              go_roundw
              case rel => exact ⟨j + 1, _, by go_num, by omega, O5.out, HG2.out, BQ2.setCell (p := ⟨w.heap.size, yn, none⟩) (Nat.le_refl _) _⟩
              case measure => simp [intOf]; omega
            · have hne : (sv != z) = true := by simpa using hsz
              have hf : runsF ts [0, 0, 0] os = false := by rw [HG.out]; unfold goesOn; simp only [followL]; rw [if_neg (by decide), if_neg (by rw [Int.toNat_natCast, HGD.out]; exact hsz)]
              have F := hide hf; clear hf
              go_wp2_with fail
              go_big_quiet (fail)
              go_wp2_with fail
              go_ret
              exact ⟨by rw [F.out]; rfl, below_drewN BW.out _⟩
          · go_wp2_with fail
            go_big_quiet (fail)
            go_upto_region 11 with fail
            rename Nat => nq
            have BQ : Below wr2.heap.size wr2 (wr2.drewN nq).drew := (below_drewN (Below.refl _ _) nq).drew
            have BQ2 : Below w.heap.size w (wr2.drewN nq).drew := below_step BW.out BQ
            have O5 := hide ((HS2.out.below BQ).store yn z)
            have HG2 := hide (show runsF ts [0, 0, 0] os = goesOn ts (s2.set yn z) (ys.drop (j + 1)) (os.drop (k + 1)) by
              rw [HG.out]; unfold goesOn; simp only [followL]; rw [if_pos (by decide), Int.toNat_natCast])
            go_region_held3 (fun W => W.cell? ⟨b2, o2 + j * 3 + 1, none⟩ = some (.int .i64 (yn : Int)) ∧ W.cell? ⟨b2, o2 + j * 3 + 2, none⟩ = some (.int .i64 z)) (first | exact HC.out _ BQ2 | exact HC.out _ (BQ2.setCell (p := ⟨w.heap.size, yn, none⟩) (Nat.le_refl _) _)) (fail)
            go_wp2_with fail
            go_roundw
            case rel => exact ⟨j + 1, _, by go_num, by omega, O5.out, HG2.out, BQ2.setCell (p := ⟨w.heap.size, yn, none⟩) (Nat.le_refl _) _⟩
            case measure => simp [intOf]; omega
        · obtain rfl : j = kk := by omega
          have h0 : ys.drop j = [] := List.drop_eq_nil_of_le (by rw [hyl.out]; omega)
          have he : runsF ts [0, 0, 0] os = runsF ts s2 (os.drop (k + 1)) := by rw [hg, h0]; rfl
          have HE2 := hide he; have HS2 := hide hs; have BW := hide bw
          clear h0 he hs bw hg
          go_wp2_with fail
          go_roundw
          case rel => exact ⟨k + 1, s2, by go_num, by omega, HS2.out, HE2.out, BW.out⟩
          case measure => simp [intOf]; omega
    · obtain rfl : k = q := by omega
      have h0 : os.drop k = [] := List.drop_eq_nil_of_le (by rw [hql.out]; omega)
      have he : runsF ts [0, 0, 0] os = true := by rw [HE.out, h0]; rfl
      have F := hide he; clear h0 he
      go_wp2_with fail
      go_ret
      exact ⟨by rw [F.out]; rfl, bw⟩
end Go.Proofs.YtcfkemchekmjbaaGreatDoor
