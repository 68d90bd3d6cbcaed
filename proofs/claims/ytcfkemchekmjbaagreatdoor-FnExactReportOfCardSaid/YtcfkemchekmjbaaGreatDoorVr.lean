/- Merged (what the law reaches): Wv2, Wv3. -/
import Derived.Test.YtcfkemchekmjbaaGreatDoorVq
import Derived.Deep.RegionHeld3
namespace Go.Proofs.YtcfkemchekmjbaaGreatDoor
open Go.RowKit
theorem txn0 {f : Int} {ys : List T3} {dn : Bool} (h : txnB (f, ys, dn) = true) : txnB (0, ys, true) = true := by
  unfold txnB at *
  simp only [Bool.and_eq_true, inB_iff, decide_eq_true_eq] at *
  exact ⟨h.1, ⟨by omega, by omega⟩, h.2.2⟩
theorem lastW_at {ys : List T3} (h : txnB (0, ys, true) = true) {j : Nat} {x y z : Int} (hx : (lastW ys)[j]? = some (x, y, z)) : lastK ys y = some (2, y, z) := by
  have hm := List.mem_of_getElem? hx
  obtain ⟨_, h2⟩ := lastW_mem hm
  dsimp only at h2; subst h2
  exact (lastW_mem_iff h).1 hm
theorem lastW_no {ys : List T3} {key : Int} (h0 : 0 ≤ key) (h2 : key ≤ 2) (hn : ∀ (j : Nat) (o : T3), (lastW ys)[j]? = some o → ¬ o.2.1 = key) : lastK ys key = none := by
  obtain ⟨k, rfl⟩ : ∃ k : Nat, key = k := ⟨key.toNat, by omega⟩
  have := lastW_filter (ys := ys) (key := k) (by omega)
  have he : (lastW ys).filter (fun o => decide (o.2.1 = (k : Int))) = [] := by
    rw [List.filter_eq_nil_iff]
    intro o ho
    obtain ⟨j, hj⟩ := List.getElem?_of_mem ho
    simpa using hn j o hj
  rw [he] at this
  cases hl : lastK ys (k : Int) with
  | none => rfl
  | some o => rw [hl] at this; simp at this
set_option maxRecDepth 100000 in
set_option maxHeartbeats 8000000 in
theorem l5Last_c {A : Option Addr} {n c : Nat} {ts : List Tx} {key val : Int} {w : World} (hr : RTs w A n ts) (hh : histB ts = true) :
    Calls Tryz.prog 169 #[.slice A n c, .int .i64 key, .int .i64 val] w fun e w' => e = .returned (.bool (lastB ts key val)) ∧ Below w.heap.size w w' := by
  obtain ⟨h6, hv, hnd⟩ := histB_parts hh
  have hl := hide hr.1
  have hn6 : n ≤ 6 := by rw [← hl.out]; exact h6
  have HH := hide hh; have HV := hide hv
  clear hh hv hnd h6
  cases hw : writerN ts key val with
  | none =>
    have e1 : writerV ts key val = -1 := by unfold writerV; rw [hw]
    have e2 : lastB ts key val = false := by unfold lastB; rw [hw]
    have E1 := hide e1; have E2 := hide e2
    clear hw e1 e2
    go_enter Tryz.func169, Tryz.ntmps169
    go_wp2_with fail
    refine (l5Writer_c hr HH.out).mono ?_
    rintro e w2 ⟨rfl, b2⟩
    rw [E1.out]
    go_wp2_with fail
    go_ret
    exact ⟨by rw [E2.out]; rfl, b2⟩
  | some m =>
    have e1 : writerV ts key val = m := by unfold writerV; rw [hw]
    obtain ⟨t, ht, hm⟩ := writerN_some hw
    have e2 : lastB ts key val = decide (lastK t.2.1 key = some (2, key, val)) := by unfold lastB; rw [hw]; dsimp only; rw [txAt_get ht]
    have hmn : m < n := by have := (List.getElem?_eq_some_iff.1 ht).1; have := hl.out; omega
    obtain ⟨b, off, f, ys, dn, B, kk, d, rfl, hbb, hx, q0, q1, q2, hkd, hdm, hri⟩ := hr.at_ hmn
    rw [ht] at hx; injection hx with hx; subst hx
    have hv1 := HV.out _ (List.mem_of_getElem? ht)
    have hk6 : kk ≤ 6 := by have h1 := txnB_lenH hv1; have h2 := hri.len; omega
    have hop := txnB_opH hv1 (List.getElem?_of_mem hm).choose_spec
    have hkey := opB_key hop
    have hl3 : (lastW ys).length ≤ 3 := by rw [← lastTo_three]; exact lastTo_len ys 3
    have E1 := hide e1; have E2 := hide e2; have HV1 := hide hv1
    have hky := hide hkey
    clear e1 e2 hv1 hop hkey hw hm ht
    go_enter Tryz.func169, Tryz.ntmps169
    go_wp2_with fail
    refine (l5Writer_c hr HH.out).mono ?_
    rintro e w2 ⟨rfl, b2⟩
    rw [E1.out]
    have g0 := (b2.cell (p := ⟨b, off + m * 3, none⟩) hbb).trans q0
    have g1 := (b2.cell (p := ⟨b, off + m * 3 + 1, none⟩) hbb).trans q1
    have g2 := (b2.cell (p := ⟨b, off + m * 3 + 2, none⟩) hbb).trans q2
    have s2 : S3 w2 (.slice B kk d) kk ys := (S3.of_args hkd (by omega) hri).below b2
    have m0 : (0 : Int) ≤ m := by omega
    have m2 : (m : Int) < n := by omega
    clear q0 q1 q2
    go_wp2_with fail
    refine (spec_LastWrites_c s2 HV1.out).mono ?_
    rintro e w3 ⟨r3, k3, rfl, o3, b3⟩
    have hlen : k3 = (lastW ys).length := o3.len.symm
    have B3 := hide (below_step b2 b3)
    obtain ⟨A3, c3, rfl, hk3c, _, hr3⟩ := o3.s3
    clear o3 b3 g0 g1 g2 s2 b2
    go_wp2_with fail
    go_loopw [9] (fun i W => ∃ j : Nat, i = .int .i64 j ∧ j ≤ k3 ∧ (∀ (q : Nat) (o : T3), q < j → (lastW ys)[q]? = some o → ¬ o.2.1 = key) ∧ W = w3) (fun i _ => k3 - (intOf i).toNat)
    case atStart => exact ⟨0, rfl, Nat.zero_le _, fun q o h => by omega, rfl⟩
    case round =>
      obtain ⟨j, rfl, hj, hno, rfl⟩ := hrel
      have HNO := hide hno; clear hno
      by_cases hjk : j < k3
      · obtain ⟨b2, off2, x, y, z, rfl, hbb2, hx2, p0, p1, p2⟩ := hr3.at_ hjk
        have HX := hide hx2
        have j2 : (j : Int) < k3 := by omega
        clear hx2
        by_cases hy : y = key
        · subst hy
          have hf : lastB ts y val = (z == val) := by
            rw [E2.out, lastW_at (txn0 HV1.out) HX.out, Bool.eq_iff_iff]
            simp
          have G := hide hf; clear hf
          go_wp2_with fail
          go_ret
          exact ⟨by rw [G.out]; rfl, B3.out⟩
        · have hyb : (y == key) = false := by simpa using hy
          have hs := hide (show ∀ (q : Nat) (o : T3), q < j + 1 → (lastW ys)[q]? = some o → ¬ o.2.1 = key from fun q o hq ho => by
            by_cases e : q = j
            · subst e; rw [HX.out] at ho; injection ho with ho; subst ho; exact hy
            · exact HNO.out q o (by omega) ho)
          clear hy
          go_wp2_with fail
          go_roundw
          case rel => exact ⟨j + 1, by go_num, by omega, hs.out, trivial⟩
          case measure => simp [intOf]; omega
      · obtain rfl : k3 = j := by omega
        have hnone := lastW_no hky.out.1 hky.out.2 (fun q o ho => HNO.out q o (by have := (List.getElem?_eq_some_iff.1 ho).1; omega) ho)
        have hf : lastB ts key val = false := by rw [E2.out, hnone]; rfl
        have G := hide hf; clear hf hnone
        go_wp2_with fail
        go_ret
        exact ⟨by rw [G.out]; rfl, B3.out⟩
set_option maxRecDepth 100000 in
set_option maxHeartbeats 8000000 in
theorem l6Kind_c {A : Option Addr} {n c : Nat} {ts : List Tx} {who : Nat} {x y z : Int} {w : World} (hr : RTs w A n ts) (hh : histB ts = true) :
    Calls Tryz.prog 123 #[.slice A n c, .int .i64 (who : Int), .agg #[.int .i64 x, .int .i64 y, .int .i64 z]] w fun e w' => e = .returned (.int .i64 (badK ts who (x, y, z))) ∧ Below w.heap.size w w' := by
  have hl := hide hr.1
  have HH := hide hh
  have b1 : Below w.heap.size w (w.alloc (.cells #[.int .i64 x, .int .i64 y, .int .i64 z] 61)) := (Below.refl _ _).alloc (Nat.le_refl _) _
  have K1 := Blk.new w 61 #[.int .i64 x, .int .i64 y, .int .i64 z]
  have hr1 := hr.below b1
  obtain ⟨g0, g1, g2⟩ := K1.three
  have h6 := (histB_parts hh).1
  clear hh
  by_cases h1 : x ≠ 1
  · have hf : badK ts who (x, y, z) = 0 := by unfold badK; rw [if_pos (.inl h1)]
    have hb : (x != 1) = true := by simpa using h1
    have G := hide hf; clear hf h1
    go_enter Tryz.func123, Tryz.ntmps123
    go_wp2_with fail
    refine (l5Writer_c hr1 HH.out).mono ?_
    rintro e w2 ⟨rfl, b2⟩
    have K2 := K1.belowAll b2
    clear g0 g1 g2
    obtain ⟨g0, g1, g2⟩ := K2.three
    go_wp2_with fail
    go_ret
    exact ⟨by rw [G.out]; rfl, below_step b1 b2⟩
  · obtain rfl : x = 1 := by omega
    clear h1
    by_cases h2 : z = 0
    · have hf : badK ts who (1, y, z) = 0 := by unfold badK; rw [if_pos (.inr (.inl h2))]
      have hb : (z == 0) = true := by simpa using h2
      have G := hide hf; clear hf h2
      go_enter Tryz.func123, Tryz.ntmps123
      go_wp2_with fail
      refine (l5Writer_c hr1 HH.out).mono ?_
      rintro e w2 ⟨rfl, b2⟩
      have K2 := K1.belowAll b2
      clear g0 g1 g2
      obtain ⟨g0, g1, g2⟩ := K2.three
      go_wp2_with fail
      go_ret
      exact ⟨by rw [G.out]; rfl, below_step b1 b2⟩
    · have hz : (z == 0) = false := by simpa using h2
      cases hw : writerN ts y z with
      | none =>
        have e1 : writerV ts y z = -1 := by unfold writerV; rw [hw]
        have hf : badK ts who (1, y, z) = 1 := by
          unfold badK
          rw [if_neg (by rintro (h | h | h); exact h rfl; exact h2 h; dsimp only at h; rw [e1] at h; omega)]
          dsimp only; rw [hw]
        have hwn : ((-1 : Int) == (who : Int)) = false := by simp
        have G := hide hf; have E1 := hide e1; clear hf h2 e1 hw
        go_enter Tryz.func123, Tryz.ntmps123
        go_wp2_with fail
        refine (l5Writer_c hr1 HH.out).mono ?_
        rintro e w2 ⟨rfl, b2⟩
        rw [E1.out]
        have K2 := K1.belowAll b2
        clear g0 g1 g2
        obtain ⟨g0, g1, g2⟩ := K2.three
        go_wp2_with fail
        go_ret
        exact ⟨by rw [G.out]; rfl, below_step b1 b2⟩
      | some m =>
        have e1 : writerV ts y z = m := by unfold writerV; rw [hw]
        by_cases h3 : m = who
        · subst h3
          have hf : badK ts m (1, y, z) = 0 := by unfold badK; rw [if_pos (.inr (.inr e1))]
          have G := hide hf; have E1 := hide e1; clear hf h2 e1 hw
          go_enter Tryz.func123, Tryz.ntmps123
          go_wp2_with fail
          refine (l5Writer_c hr1 HH.out).mono ?_
          rintro e w2 ⟨rfl, b2⟩
          rw [E1.out]
          have K2 := K1.belowAll b2
          clear g0 g1 g2
          obtain ⟨g0, g1, g2⟩ := K2.three
          go_wp2_with fail
          go_ret
          exact ⟨by rw [G.out]; rfl, below_step b1 b2⟩
        · have hmw : ((m : Int) == (who : Int)) = false := by simp; omega
          obtain ⟨t, ht, _⟩ := writerN_some hw
          have hmn : m < n := by have := (List.getElem?_eq_some_iff.1 ht).1; have := hl.out; omega
          obtain ⟨b, off, f, ys, dn, B, kk, d, rfl, hbb, hx, q0, q1, q2, hkd, hdm, hri⟩ := hr.at_ hmn
          rw [ht] at hx; injection hx with hx; subst hx
          have hf : badK ts who (1, y, z) = if dn then (if lastB ts y z then 0 else 3) else 2 := by
            unfold badK
            rw [if_neg (by rintro (h | h | h); exact h rfl; exact h2 h; dsimp only at h; rw [e1] at h; omega)]
            dsimp only; rw [hw]; dsimp only; rw [txAt_get ht]
          have G := hide hf; have E1 := hide e1
          have m0 : (0 : Int) ≤ m := by omega
          have m2 : (m : Int) < n := by omega
          have q2' := (b1.cell (p := ⟨b, off + m * 3 + 2, none⟩) hbb).trans q2
          clear hf h2 e1 hw ht h3 q0 q1 q2
          go_enter Tryz.func123, Tryz.ntmps123
          go_wp2_with fail
          refine (l5Writer_c hr1 HH.out).mono ?_
          rintro e w2 ⟨rfl, b2⟩
          rw [E1.out]
          have K2 := K1.belowAll b2
          have B2 := hide (below_step b1 b2)
          have hr2 := hr1.below b2
          have q22 := (b2.cell (p := ⟨b, off + m * 3 + 2, none⟩) (Nat.lt_of_lt_of_le hbb b1.size)).trans q2'
          clear g0 g1 g2 q2' b2 hr1
          obtain ⟨g0, g1, g2⟩ := K2.three
          cases dn
          · go_wp2_with fail
            go_ret
            exact ⟨by rw [G.out]; rfl, B2.out⟩
          · go_wp2_with fail
            refine (l5Last_c hr2 HH.out).mono ?_
            rintro e w3 ⟨rfl, b3⟩
            cases hlb : lastB ts y z
            · rw [hlb] at G
              go_wp2_with fail
              go_ret
              exact ⟨by rw [G.out]; rfl, below_step B2.out b3⟩
            · rw [hlb] at G
              go_wp2_with fail
              go_ret
              exact ⟨by rw [G.out]; rfl, below_step B2.out b3⟩
end Go.Proofs.YtcfkemchekmjbaaGreatDoor

namespace Go.Proofs.YtcfkemchekmjbaaGreatDoor
open Go.RowKit
set_option maxHeartbeats 4000000 in
theorem l4BeforeA_c {v : Value} {m a : Nat} {ys : List T3} {f key : Int} {dn : Bool} {w : World} (hv : S3 w v m ys) (ha : a < m) :
    Calls Tryz.prog 97 #[.agg #[.int .i64 f, v, .bool dn], .int .i64 (a : Int), .int .i64 key] w fun e w' => e = .returned (.int .i64 (ownV (ys.take a) key (-1))) ∧ Below w.heap.size w w' := by
  obtain ⟨A, c, rfl, hnc, hm, hr⟩ := hv
  have hl := hide hr.len
  have hla : (ys.take a).length = a := by rw [List.length_take, hr.len]; omega
  have b1 : Below w.heap.size w (w.alloc (.cells #[.int .i64 f, .slice A m c, .bool dn] 66)) := (Below.refl _ _).alloc (Nat.le_refl _) _
  have K0 := Blk.new w 66 #[.int .i64 f, .slice A m c, .bool dn]
  obtain ⟨g0, g1, g2⟩ := K0.three
  go_enter Tryz.func97, Tryz.ntmps97
  go_wp2_with fail
  go_loopw [7] (fun i wr => ∃ k : Nat, k ≤ a ∧ i = .int .i64 ((k : Int) - 1) ∧ NoneO (ys.take a) key k ∧ wr = w.alloc (.cells #[.int .i64 f, .slice A m c, .bool dn] 66)) (fun i _ => (intOf i + 1).toNat)
  case atStart => exact ⟨a, Nat.le_refl _, rfl, by have := NoneO.start (ys := ys.take a) (key := key); rw [hla] at this; exact this, rfl⟩
  case round =>
    obtain ⟨k, hk, rfl, hno, rfl⟩ := hrel
    have Hno := hide hno; clear hno
    cases k with
    | zero =>
      have hf : ownV (ys.take a) key (-1) = -1 := by unfold ownV; rw [Hno.out.none_]
      have F := hide hf; clear hf
      go_wp2_with fail
      go_ret
      exact ⟨by rw [F.out]; rfl, b1⟩
    | succ j =>
      obtain ⟨b, off, x, y, z, rfl, hbb, hx, p0, p1, p2⟩ := hr.at_ (show j < m by omega)
      have a0 := (b1.cell (p := ⟨b, off + j * 3, none⟩) hbb).trans p0
      have a1 := (b1.cell (p := ⟨b, off + j * 3 + 1, none⟩) hbb).trans p1
      have a2 := (b1.cell (p := ⟨b, off + j * 3 + 2, none⟩) hbb).trans p2
      have hx' : (ys.take a)[j]? = some (x, y, z) := by rw [List.getElem?_take_of_lt (by omega)]; exact hx
      have Hx := hide hx'
      clear hx hx' p0 p1 p2
      have j0 : (0 : Int) ≤ j := by omega
      have j2 : (j : Int) < m := by omega
      have hjj : ((j + 1 : Nat) : Int) - 1 = j := by omega
      rw [hjj]
      clear hjj
      by_cases hy : y = key
      · subst hy
        have hf : ownV (ys.take a) y (-1) = z := by unfold ownV; rw [Hno.out.found Hx.out rfl]
        have F := hide hf; clear hf
        go_wp2_with fail
        go_ret
        exact ⟨by rw [F.out]; rfl, b1⟩
      · have hq := Hno.out.step Hx.out hy
        have F := hide hq; clear hq
        have hyb : (y == key) = false := by simpa using hy
        clear hy
        go_wp2_with fail
        go_roundw
        case rel => exact ⟨j, by omega, by go_num, F.out, trivial⟩
        case measure => simp [intOf]
/-- Whose the own errors are, before place (k, j). -/
def whoTo (ts : List Tx) (k j : Nat) : List Nat := (List.range k).flatMap (fun i => List.replicate (badTo ts 4 i (txAt ts i).2.1 (txAt ts i).2.1.length) i) ++ List.replicate (badTo ts 4 k (txAt ts k).2.1 j) k
theorem whoTo_zero (ts : List Tx) : whoTo ts 0 0 = [] := rfl
theorem whoTo_next {ts : List Tx} {k j : Nat} {t : Tx} (ht : ts[k]? = some t) (hj : t.2.1.length = j) : whoTo ts (k + 1) 0 = whoTo ts k j := by
  unfold whoTo
  rw [List.range_succ, List.flatMap_append]
  simp [txAt_get ht, hj, badTo]
theorem whoTo_yes {ts : List Tx} {k j : Nat} {t : Tx} {o : T3} (ht : ts[k]? = some t) (ho : t.2.1[j]? = some o) (hb : ownBad t.2.1 j o = true) : whoTo ts k (j + 1) = whoTo ts k j ++ [k] := by
  unfold whoTo
  rw [txAt_get ht, badTo_yes ho (by rw [ownBad_four]; exact hb), List.replicate_succ', List.append_assoc]
theorem whoTo_no {ts : List Tx} {k j : Nat} {t : Tx} {o : T3} (ht : ts[k]? = some t) (ho : t.2.1[j]? = some o) (hb : ownBad t.2.1 j o = false) : whoTo ts k (j + 1) = whoTo ts k j := by
  unfold whoTo
  rw [txAt_get ht, badTo_no ho (by rw [ownBad_four]; exact hb)]
theorem whoTo_done (ts : List Tx) : ∀ k, (whoTo ts k 0).countP (fun q => (txAt ts q).2.2) = badAt ts 4 k
  | 0 => rfl
  | k + 1 => by
    have h := whoTo_done ts k
    have e : whoTo ts (k + 1) 0 = whoTo ts k 0 ++ List.replicate (badTo ts 4 k (txAt ts k).2.1 (txAt ts k).2.1.length) k := by
      unfold whoTo
      rw [List.range_succ, List.flatMap_append]
      simp [badTo]
    rw [e, List.countP_append, h]
    show _ = badAt ts 4 k + _
    congr 1
    rw [List.countP_replicate]
theorem whoTo_len {ts : List Tx} (hv : ∀ t ∈ ts, txnB t = true) : ∀ k j, k ≤ ts.length → (j = 0 ∨ (k < ts.length ∧ j ≤ 6)) → (whoTo ts k j).length ≤ 6 * k + j
  | 0, j, _, _ => by
    unfold whoTo; simp
    exact badTo_le _ _ _ _ _
  | k + 1, j, hk, hj => by
    have h := whoTo_len hv k 0 (by omega) (.inl rfl)
    have ht : ts[k]? = some ts[k] := List.getElem?_eq_getElem (by omega)
    have h6 : ts[k].2.1.length ≤ 6 := txnB_lenH (hv _ (List.mem_of_getElem? ht))
    have e : (whoTo ts (k + 1) j).length = (whoTo ts k 0).length + badTo ts 4 k (txAt ts k).2.1 (txAt ts k).2.1.length + badTo ts 4 (k + 1) (txAt ts (k + 1)).2.1 j := by
      unfold whoTo
      rw [List.range_succ, List.flatMap_append]
      simp [badTo, Nat.add_assoc]
    rw [e]
    have h1 := badTo_le ts 4 k (txAt ts k).2.1 (txAt ts k).2.1.length
    have h2 := badTo_le ts 4 (k + 1) (txAt ts (k + 1)).2.1 j
    rw [txAt_get ht] at h1 ⊢
    omega
theorem whoTo_lt {ts : List Tx} {q : Nat} (h : q ∈ whoTo ts ts.length 0) : q < ts.length := by
  unfold whoTo at h
  simp only [badTo, List.replicate_zero, List.append_nil, List.mem_flatMap, List.mem_range] at h
  obtain ⟨i, hi, h⟩ := h
  have := List.eq_of_mem_replicate h
  omega
/-- Places whose first numbers these are. -/
def WhoP (ws : List Nat) (n : Nat) (xs : List Int) : Prop := ws.length = n ∧ ∀ (i q : Nat), ws[i]? = some q → xs[2 * i]? = some (q : Int)
theorem WhoP.push {ws : List Nat} {n k : Nat} {xs : List Int} {y : Int} (h : WhoP ws n xs) (hx : xs.length = n * 2) : WhoP (ws ++ [k]) (n + 1) (xs ++ [(k : Int), y]) := by
  refine ⟨by rw [List.length_append, h.1]; rfl, fun i q hq => ?_⟩
  by_cases e : i < ws.length
  · rw [List.getElem?_append_left e] at hq
    rw [List.getElem?_append_left (by have := h.1; omega)]
    exact h.2 i q hq
  · have hi := (List.getElem?_eq_some_iff.1 hq).1
    simp at hi
    obtain rfl : i = ws.length := by omega
    simp at hq; subst hq
    rw [List.getElem?_append_right (by have := h.1; omega), show 2 * ws.length - xs.length = 0 by have := h.1; omega]
    rfl
/-- A new slice of places with these. -/
def RetWho (w : World) (ws : List Nat) (e : Ending) (w' : World) : Prop := ∃ r n xs, e = .returned r ∧ OF 155 2 w' w.heap.size r n xs ∧ WhoP ws n xs ∧ Below w.heap.size w w'
theorem ownBad_cases {ys : List T3} (hp : ∀ o ∈ ys, 0 ≤ o.2.2) {j : Nat} {x y z : Int} :
    (x ≠ 1 ∧ ownBad ys j (x, y, z) = false) ∨ (x = 1 ∧ ownV (ys.take j) y (-1) < 0 ∧ ownBad ys j (x, y, z) = false) ∨ (x = 1 ∧ 0 ≤ ownV (ys.take j) y (-1) ∧ ownV (ys.take j) y (-1) = z ∧ ownBad ys j (x, y, z) = false) ∨ (x = 1 ∧ 0 ≤ ownV (ys.take j) y (-1) ∧ ownV (ys.take j) y (-1) ≠ z ∧ ownBad ys j (x, y, z) = true) := by
  unfold ownBad ownV
  dsimp only
  by_cases hx : x = 1
  · right
    cases hl : lastO (ys.take j) y with
    | none => left; exact ⟨hx, by decide, by simp⟩
    | some p =>
      right
      have h0 := hp p (List.mem_of_mem_take (lastO_some hl).1)
      dsimp only
      by_cases hz : p.2.2 = z
      · left; exact ⟨hx, h0, hz, by simp [hz]⟩
      · right; exact ⟨hx, h0, hz, by simp [hz, hx]⟩
  · left; exact ⟨hx, by simp [hx]⟩
set_option maxRecDepth 100000 in
set_option maxHeartbeats 16000000 in
theorem spec_OwnErrors_c {A : Option Addr} {n c : Nat} {ts : List Tx} {w : World} (hr : RTs w A n ts) (hh : histB ts = true) (hsum : (allOps ts).length ≤ 1048576) (hsm : SmallT ts) :
    Calls Tryz.prog 122 #[.slice A n c] w (RetWho w (whoTo ts ts.length 0)) := by
  obtain ⟨h6, hv, hnd⟩ := histB_parts hh
  have hl := hide hr.1
  have hn6 : n ≤ 6 := by rw [← hl.out]; exact h6
  have HH := hide hh; have HV := hide hv
  have o0 := hide (OF.emptyP w)
  have b0 := hide ((Below.refl w.heap.size w).alloc (Nat.le_refl _) (.cells #[] 155))
  clear hh hv hnd h6
  go_enter Tryz.func122, Tryz.ntmps122
  go_wp2_with fail
  go_loopw [3, 4] (fun q i W => ∃ (k m : Nat) (xs : List Int), i = .int .i64 k ∧ k ≤ n ∧ OF 155 2 W w.heap.size q m xs ∧ WhoP (whoTo ts k 0) m xs ∧ Below w.heap.size w W) (fun _ i _ => n - (intOf i).toNat)
  case atStart => exact ⟨0, 0, [], rfl, Nat.zero_le _, o0.out, ⟨rfl, fun i q h => by rw [whoTo_zero] at h; simp at h⟩, b0.out⟩
  case round =>
    clear o0 b0
    obtain ⟨k, m, xs, rfl, hk, ho, hw, bw⟩ := hrel
    rename World => wr
    have BW := hide bw; have HO := hide ho; have HW := hide hw; clear bw ho hw
    by_cases hkn : k < n
    · have k2 : (k : Int) < n := by omega
      have hrw := hr.below BW.out
      go_wp2_with (go_at_call 118; refine (spec_HistoryValid_c hrw (by omega) hsum hsm).mono ?_; rintro e w2 ⟨rfl, b2⟩; rw [HH.out])
      obtain ⟨b, off, f, ys, dn, B, kk, d, rfl, hbb, hx, q0, q1, q2, hkd, hdm, hri⟩ := hr.at_ hkn
      have hyl := hide hri.len
      have hv1 := HV.out _ (List.mem_of_getElem? hx)
      have hk6 : kk ≤ 6 := by rw [← hyl.out]; exact txnB_lenH hv1
      have hpos : ∀ o ∈ ys, 0 ≤ o.2.2 := fun o ho => by
        obtain ⟨j, hj⟩ := List.getElem?_of_mem ho
        have := txnB_opH hv1 hj
        obtain ⟨x, y, z⟩ := o
        unfold opB at this
        simp only [Bool.and_eq_true, inB_iff] at this
        exact this.2.2.1.1
      have HX := hide hx; have HP := hide hpos
      have Q0 := hide q0; have Q1 := hide q1; have Q2 := hide q2
      have s0 := hide (S3.of_args hkd (by omega) hri)
      have B2 := hide (below_step BW.out b2)
      have O2 := hide (HO.out.below b2)
      clear q0 q1 q2 hx hpos hv1 b2 BW HO hrw
      go_loopw [3, 5] (fun q i W => ∃ (j m : Nat) (xs : List Int), i = .int .i64 j ∧ j ≤ kk ∧ OF 155 2 W w.heap.size q m xs ∧ WhoP (whoTo ts k j) m xs ∧ Below w.heap.size w W) (fun _ i _ => kk - (intOf i).toNat)
      case atStart => exact ⟨0, m, xs, rfl, Nat.zero_le _, O2.out, HW.out, B2.out⟩
      case round =>
        clear B2 O2 HW
        obtain ⟨j, m, xs, rfl, hj, ho, hw, bw⟩ := hrel
        rename World => w3
        have BW := hide bw; have HO := hide ho; have HW := hide hw; clear bw
        have hm48 : m ≤ 48 := by
          have h1 := hw.1
          have h2 := whoTo_len HV.out k j (by have := hl.out; omega) (.inr ⟨by have := hl.out; omega, by omega⟩)
          omega
        obtain ⟨Ao, co, rfl⟩ := ho.shapeP
        have g1 := (BW.out.cell (p := ⟨b, off + k * 3 + 1, none⟩) hbb).trans Q1.out
        clear ho hw
        by_cases hjk : j < kk
        · obtain ⟨b2, off2, x, y, z, rfl, hbb2, hx2, p0, p1, p2⟩ := hri.at_ hjk
          have a0 := (BW.out.cell (p := ⟨b2, off2 + j * 3, none⟩) hbb2).trans p0
          have a1 := (BW.out.cell (p := ⟨b2, off2 + j * 3 + 1, none⟩) hbb2).trans p1
          have a2 := (BW.out.cell (p := ⟨b2, off2 + j * 3 + 2, none⟩) hbb2).trans p2
          have HX2 := hide hx2
          have j2 : (j : Int) < kk := by omega
          have s1 := hide ((s0.out.below BW.out).alloc (.cells #[.int .i64 x, .int .i64 y, .int .i64 z] 61))
          have K1 := hide (Blk.new w3 61 #[.int .i64 x, .int .i64 y, .int .i64 z])
          have hb3 : b < (w3.alloc (.cells #[.int .i64 x, .int .i64 y, .int .i64 z] 61)).heap.size := by rw [World.size_alloc]; have := BW.out.size; omega
          have BA := hide (BW.out.alloc BW.out.size (.cells #[.int .i64 x, .int .i64 y, .int .i64 z] 61))
          have hc0 : ∀ W, Below (w3.alloc (.cells #[.int .i64 x, .int .i64 y, .int .i64 z] 61)).heap.size (w3.alloc (.cells #[.int .i64 x, .int .i64 y, .int .i64 z] 61)) W → (W.cell? ⟨b, off + k * 3, none⟩ = some (.int .i64 f) ∧ W.cell? ⟨b, off + k * 3 + 1, none⟩ = some (.slice (some ⟨b2, off2, none⟩) kk d) ∧ W.cell? ⟨b, off + k * 3 + 2, none⟩ = some (.bool dn) ∧ W.cell? ⟨w3.heap.size, 1, none⟩ = some (.int .i64 y)) := fun W hW =>
            ⟨((BA.out.trans (hW.mono BA.out.size)).cell (p := ⟨b, off + k * 3, none⟩) hbb).trans Q0.out, ((BA.out.trans (hW.mono BA.out.size)).cell (p := ⟨b, off + k * 3 + 1, none⟩) hbb).trans Q1.out, ((BA.out.trans (hW.mono BA.out.size)).cell (p := ⟨b, off + k * 3 + 2, none⟩) hbb).trans Q2.out, (K1.out.belowAll hW).cell 1⟩
          have HC := hide hc0
          clear hx2 p0 p1 p2 hc0
          go_upto_region 9 with fail
          have BZ : Below (w3.alloc (.cells #[.int .i64 x, .int .i64 y, .int .i64 z] 61)).heap.size (w3.alloc (.cells #[.int .i64 x, .int .i64 y, .int .i64 z] 61)) (w3.alloc (.cells #[.int .i64 x, .int .i64 y, .int .i64 z] 61)).drew := (Below.refl _ _).drew
          refine wp_region_held_drew (S := (fun W => W.cell? ⟨b, off + k * 3, none⟩ = some (.int .i64 f) ∧ W.cell? ⟨b, off + k * 3 + 1, none⟩ = some (.slice (some ⟨b2, off2, none⟩) kk d) ∧ W.cell? ⟨b, off + k * 3 + 2, none⟩ = some (.bool dn) ∧ W.cell? ⟨w3.heap.size, 1, none⟩ = some (.int .i64 y))) (by kernel_rfl) ?_ (fun hHeld => ?_)
          · exact HC.out _ BZ
          refine wpAnyH_take (i := 0) (v := ?vv1_0) (by rw [List.getElem?_toArray]; exact rfl) (by kernel_rfl) (by kernel_rfl) (by kernel_rfl) (by intro _ _ _ h; exact h) (Or.inl ⟨by rfl, ?hy1_0⟩) hHeld ?rest1_0
          case' hy1_0 => (intro w hSw; (try dsimp only at hSw); go_simp; try (with_reducible rfl))
          (try simp only [Act.put, List.setIfInBounds_toArray, List.set_cons_zero, List.set_cons_succ])
          refine wpAnyH_take (i := 1) (v := ?vv1_1) (by rw [List.getElem?_toArray]; exact rfl) (by kernel_rfl) (by kernel_rfl) (by kernel_rfl) (by intro _ _ _ h; exact h) (Or.inl ⟨by rfl, ?hy1_1⟩) hHeld ?rest1_1
          case' hy1_1 => (intro w hSw; (try dsimp only at hSw); go_simp; try (with_reducible rfl))
          (try simp only [Act.put, List.setIfInBounds_toArray, List.set_cons_zero, List.set_cons_succ])
          refine wpAnyH_take (i := 2) (v := ?vv1_2) (by rw [List.getElem?_toArray]; exact rfl) (by kernel_rfl) (by kernel_rfl) (by kernel_rfl) (by intro _ _ _ h; exact h) (Or.inl ⟨by rfl, ?hy1_2⟩) hHeld ?rest1_2
          case' hy1_2 => (intro w hSw; (try dsimp only at hSw); go_simp; try (with_reducible rfl))
          (try simp only [Act.put, List.setIfInBounds_toArray, List.set_cons_zero, List.set_cons_succ])
          refine wpAnyH_take (i := 3) (v := ?vv1_3) (by rw [List.getElem?_toArray]; exact rfl) (by kernel_rfl) (by kernel_rfl) (by kernel_rfl) (by intro _ _ _ h; exact h) (Or.inl ⟨by rfl, ?hy1_3⟩) hHeld ?rest1_3
          case' hy1_3 => (intro w hSw; (try dsimp only at hSw); go_simp; try (with_reducible rfl))
          (try simp only [Act.put, List.setIfInBounds_toArray, List.set_cons_zero, List.set_cons_succ])
          refine wpAnyH_take (i := 4) (v := ?vv1_4) (by rw [List.getElem?_toArray]; exact rfl) (by kernel_rfl) (by kernel_rfl) (by kernel_rfl) (by intro _ _ _ h; exact h) (Or.inl ⟨by rfl, ?hy1_4⟩) hHeld ?rest1_4
          case' hy1_4 => (intro w hSw; (try dsimp only at hSw); go_simp; try (with_reducible rfl))
          (try simp only [Act.put, List.setIfInBounds_toArray, List.set_cons_zero, List.set_cons_succ])
          refine wpAnyH_take (i := 5) (v := ?vv1_5) (by rw [List.getElem?_toArray]; exact rfl) (by kernel_rfl) (by kernel_rfl) (by kernel_rfl) (by intro _ _ _ h; exact h) (Or.inl ⟨by rfl, ?hy1_5⟩) hHeld ?rest1_5
          case' hy1_5 => (intro w hSw; (try dsimp only at hSw); go_simp; try (with_reducible rfl))
          (try simp only [Act.put, List.setIfInBounds_toArray, List.set_cons_zero, List.set_cons_succ])
          refine wpAnyH_take (i := 6) (v := ?vv1_6) (by rw [List.getElem?_toArray]; exact rfl) (by kernel_rfl) (by kernel_rfl) (by kernel_rfl) (by intro _ _ _ h; exact h) (Or.inl ⟨by rfl, ?hy1_6⟩) hHeld ?rest1_6
          case' hy1_6 => (intro w hSw; (try dsimp only at hSw); go_simp; try (with_reducible rfl))
          (try simp only [Act.put, List.setIfInBounds_toArray, List.set_cons_zero, List.set_cons_succ])
          refine wpAnyH_ready (rs := [7]) (by kernel_rfl) (by simp) ?_
          refine AllReadyH.cons (by rw [List.getElem?_toArray]; exact rfl) (fun K hK => ?_) AllReadyH.nil
          go_simp
          go_at_call 97
          refine (l4BeforeA_c (s1.out.below BZ) hjk).mono ?_
          rintro e w5 ⟨rfl, b5⟩
          replace BZ := below_step BZ b5
          clear b5
          refine hK.out _ _ ?_ (fun hHeld => ?_)
          · exact HC.out _ BZ
          clear hK K
          (try simp only [Act.put, List.setIfInBounds_toArray, List.set_cons_zero, List.set_cons_succ])
          refine wpAnyH_take (i := 8) (v := ?vv1_8) (by rw [List.getElem?_toArray]; exact rfl) (by kernel_rfl) (by kernel_rfl) (by kernel_rfl) (by intro _ _ _ h; exact h) (Or.inl ⟨by rfl, ?hy1_8⟩) hHeld ?rest1_8
          case' hy1_8 => (intro w hSw; (try dsimp only at hSw); go_simp; try (with_reducible rfl))
          (try simp only [Act.put, List.setIfInBounds_toArray, List.set_cons_zero, List.set_cons_succ])
          refine wpAnyH_done (by kernel_rfl) ?_ _
          have K5 := K1.out.belowAll BZ
          obtain ⟨f0, f1, f2⟩ := K5.three
          have B5 := hide (BA.out.trans (BZ.mono BA.out.size))
          have O5 := hide ((HO.out.alloc (.cells #[.int .i64 x, .int .i64 y, .int .i64 z] 61)).below BZ)
          have hcs := ownBad_cases HP.out (j := j) (x := x) (y := y) (z := z)
          clear K1 K5 BZ s1 BA HO BW HC a0 a1 a2 g1
          rcases hcs with ⟨hc1, hcb⟩ | ⟨rfl, hc2, hcb⟩ | ⟨rfl, hc2, hc3, hcb⟩ | ⟨rfl, hc2, hc3, hcb⟩
          · have hx1 : (x == 1) = false := by simpa using hc1
            have hwn := hide (whoTo_no HX.out HX2.out hcb)
            clear hc1 hcb
            go_wp2_with fail
            go_roundw
            case rel => exact ⟨j + 1, m, xs, by go_num, by omega, O5.out, by rw [hwn.out]; exact HW.out, B5.out⟩
            case measure => simp [intOf]; omega
          · have hwn := hide (whoTo_no HX.out HX2.out hcb)
            clear hcb
            go_wp2_with fail
            go_roundw
            case rel => exact ⟨j + 1, m, xs, by go_num, by omega, O5.out, by rw [hwn.out]; exact HW.out, B5.out⟩
            case measure => simp [intOf]; omega
          · have hwn := hide (whoTo_no HX.out HX2.out hcb)
            have hz : (ownV (List.take j ys) y (-1) != z) = false := by simpa using hc3
            clear hcb hc3
            go_wp2_with fail
            go_roundw
            case rel => exact ⟨j + 1, m, xs, by go_num, by omega, O5.out, by rw [hwn.out]; exact HW.out, B5.out⟩
            case measure => simp [intOf]; omega
          · have hwn := hide (whoTo_yes HX.out HX2.out hcb)
            have hz : (ownV (List.take j ys) y (-1) != z) = true := by simpa using hc3
            have ho4 := hide (O5.out.alloc (.cells #[.int .i64 (k : Int), .int .i64 (j : Int)] 155))
            have B4 := hide (B5.out.alloc B5.out.size (.cells #[.int .i64 (k : Int), .int .i64 (j : Int)] 155))
            have rd4 := hide (Rd.twoP (Blk.new w5 155 #[.int .i64 (k : Int), .int .i64 (j : Int)]))
            have hz4 := B5.out.size
            have hxl := hide O5.out.len
            clear hcb hc3
            go_wp2_with (at_builtin; refine wpList_appP rfl _ _ rfl rfl ho4.out rfl rd4.out (by omega) (by simp <;> omega) ?_; intro v8 w8 o8 hg8)
            have B8 := OF.belowG B4.out ho4.out (Nat.le_refl _) hg8
            go_roundw
            case rel => exact ⟨j + 1, m + 1, _, by go_num, by omega, o8, by rw [hwn.out]; exact HW.out.push hxl.out, B8⟩
            case measure => simp [intOf]; omega
        · obtain rfl : kk = j := by omega
          have hnx := hide (whoTo_next HX.out (show ys.length = kk from hyl.out))
          go_wp2_with fail
          go_roundw
          case rel => exact ⟨k + 1, m, xs, by go_num, by omega, HO.out, by rw [hnx.out]; exact HW.out, BW.out⟩
          case measure => simp [intOf]; omega
    · obtain rfl : n = k := by omega
      go_wp2_with fail
      go_ret
      exact ⟨_, m, xs, rfl, HO.out, by rw [hl.out]; exact HW.out, BW.out⟩
end Go.Proofs.YtcfkemchekmjbaaGreatDoor
