/- Merged (what the law reaches): Wv4, RrP. -/
import Derived.Test.YtcfkemchekmjbaaGreatDoorVr
namespace Go.Proofs.YtcfkemchekmjbaaGreatDoor
open Go.RowKit
theorem wpList_appPh {w : World} {o : Oper} {a : Act} {Q : Exit → Act → World → Prop} {ops : Array Oper} {rest : List Oper} (hgd : o.guard = none) (s x : Operand)
    (ho : o.op = .call { callee := .builtin .append, args := #[s, x], argTypes := #[105, 105] })
    {B : Nat} {v : Value} {n : Nat} {xs : List Int} (hs : a.eval s = v) (hown : OF 155 2 w B v n xs)
    {A : Option Addr} {m c : Nat} {ys : List Int} (hx : a.eval x = .slice A m c) (hr : Rd w 2 A m (ys.map (Value.int .i64))) (hnm : n + m ≤ 1048576) (hbase : B ≤ w.heap.size)
    (h : ∀ v' w', OF 155 2 w' B v' (n + m) (xs ++ ys) → w.grownBy w' v.ownBlock → (v'.ownBlock = v.ownBlock ∨ v'.ownBlock = some w.heap.size) → wpList Tryz.prog ops Q rest (a.put o.dst v') w') : wpList Tryz.prog ops Q (o :: rest) a w := by
  obtain ⟨i, hi, hz, hsz, hby⟩ := info_parts infoPl
  refine wpList_app hgd s x _ ho B 155 i (.agg #[.int .i64 0, .int .i64 0]) 2 16 Tryz.underlying105 hi hz hsz hby rfl (by omega) v n _ hs hown.1 A m c _ hx hr (ints_oneCell _ _) (by simp only [maxLen]; omega) (by omega) hbase ?_
  intro v' w' h1 h2 h3
  exact h v' w' ⟨by simpa using h1, hnm⟩ h2 h3
/-- The bad ones before (k, j). -/
def badU (ts : List Tx) (kind : Int) (k j : Nat) : Nat := badAt ts kind k + (if (txAt ts k).2.2 then badTo ts kind k (txAt ts k).2.1 j else 0)
theorem badU_zero (ts : List Tx) (kind : Int) (k : Nat) : badU ts kind k 0 = badAt ts kind k := by unfold badU; simp [badTo]
theorem badU_next {ts : List Tx} {kind : Int} {k j : Nat} {t : Tx} (ht : ts[k]? = some t) (hj : t.2.1.length = j) : badAt ts kind (k + 1) = badU ts kind k j := by
  show badAt ts kind k + _ = _
  unfold badU
  rw [txAt_get ht, hj]
theorem badU_off {ts : List Tx} {kind : Int} {k j : Nat} {t : Tx} (ht : ts[k]? = some t) (hd : t.2.2 = false) : badU ts kind k (j + 1) = badU ts kind k j := by
  unfold badU; rw [txAt_get ht, hd]; rfl
theorem badU_yes {ts : List Tx} {kind : Int} {k j : Nat} {t : Tx} {o : T3} (ht : ts[k]? = some t) (hd : t.2.2 = true) (ho : t.2.1[j]? = some o) (h4 : kind ≠ 4) (hb : badK ts k o = kind) : badU ts kind k (j + 1) = badU ts kind k j + 1 := by
  unfold badU
  rw [txAt_get ht, if_pos hd, if_pos hd, badTo_yes ho (by rw [if_neg h4]; exact decide_eq_true hb)]; rfl
theorem badU_no {ts : List Tx} {kind : Int} {k j : Nat} {t : Tx} {o : T3} (ht : ts[k]? = some t) (ho : t.2.1[j]? = some o) (h4 : kind ≠ 4) (hb : ¬ badK ts k o = kind) : badU ts kind k (j + 1) = badU ts kind k j := by
  unfold badU
  rw [txAt_get ht, badTo_no ho (by rw [if_neg h4]; exact decide_eq_false hb)]
theorem badU_le {ts : List Tx} {kind : Int} (hv : ∀ t ∈ ts, txnB t = true) {k j : Nat} (hk : k ≤ ts.length) (hj : j ≤ 6) : badU ts kind k j ≤ 6 * k + 6 := by
  have h1 := badAt_le (kind := kind) hv k hk
  have h2 := badTo_le ts kind k (txAt ts k).2.1 j
  unfold badU
  split <;> omega
set_option maxRecDepth 100000 in
set_option maxHeartbeats 16000000 in
theorem spec_BadReads_c {A : Option Addr} {n c kk0 : Nat} {ts : List Tx} {w : World} (hr : RTs w A n ts) (hh : histB ts = true) (hsum : (allOps ts).length ≤ 1048576) (hsm : SmallT ts) (hk1 : 1 ≤ kk0) (hk4 : kk0 ≤ 4) :
    Calls Tryz.prog 64 #[.slice A n c, .int .i64 (kk0 : Int)] w (RetLen w (badN ts (kk0 : Int))) := by
  obtain ⟨h6, hv, hnd⟩ := histB_parts hh
  have hl := hide hr.1
  have HH := hide hh; have HV := hide hv
  have hn6 : n ≤ 6 := by rw [← hl.out]; exact h6
  have hfin : badN ts (kk0 : Int) = badAt ts (kk0 : Int) ts.length := by unfold badN; rw [if_pos ⟨hh, by omega, by omega⟩]
  have HFIN := hide hfin
  have HI := hide (show inB (kk0 : Int) 1 4 = true from (inB_iff _ _ _).2 (by omega))
  have o0 := hide (OF.emptyP w)
  have b0 := hide ((Below.refl w.heap.size w).alloc (Nat.le_refl _) (.cells #[] 155))
  have hr0 := hr.below b0.out
  clear hh hv hnd h6 hfin
  by_cases h4 : kk0 = 4
  · have hkb : ((kk0 : Int) == 4) = true := by subst h4; rfl
    have HK := hide h4
    clear h4
    go_enter Tryz.func64, Tryz.ntmps64
    go_wp2_with (first | (go_at_call 118; refine (spec_HistoryValid_c hr0 (by omega) hsum hsm).mono ?_; rintro e w2 ⟨rfl, b2⟩; rw [HH.out]) | (go_at_call 45; refine (l1In_c).mono ?_; rintro e w' ⟨rfl, rfl⟩; rw [HI.out]))
    have hr2 := hr0.below b2
    have B2 := hide (below_step b0.out b2)
    have O2 := hide (o0.out.below b2)
    clear b2 b0 o0 hr0
    refine (spec_OwnErrors_c hr2 HH.out hsum hsm).mono ?_
    rintro e w3 ⟨r3, n3, xs3, rfl, o3, hw3, b3⟩
    have B3 := hide (below_step B2.out b3)
    have O3' := hide (O2.out.below b3)
    have AP := hide (own_apart O2.out.1 o3.1).symm
    have hx3 := hide o3.len
    have ow3 := hide (o3.mono (B' := w.heap.size) B2.out.size)
    have HW3 := hide hw3
    have hn36 : n3 ≤ 36 := by
      have h1 := hw3.1
      have h2 := whoTo_len HV.out ts.length 0 (Nat.le_refl _) (.inl rfl)
      have := hl.out; omega
    obtain ⟨A3, c3, rfl⟩ := o3.shapeP
    clear o3 b3 hr2 O2 B2 hw3
    go_wp2_with fail
    go_loopw [5, 7] (fun q i W => ∃ (j m : Nat) (xs : List Int), i = .int .i64 j ∧ j ≤ n3 ∧ OF 155 2 W w.heap.size q m xs ∧ m = ((whoTo ts ts.length 0).take j).countP (fun q => (txAt ts q).2.2) ∧ OF 155 2 W w.heap.size (.slice A3 n3 c3) n3 xs3 ∧ Apart (.slice A3 n3 c3) q ∧ Below w.heap.size w W) (fun _ i _ => n3 - (intOf i).toNat)
    case atStart => exact ⟨0, 0, [], rfl, Nat.zero_le _, O3'.out, rfl, ow3.out, AP.out, B3.out⟩
    case round =>
      clear B3 O3' AP ow3
      obtain ⟨j, m, xs, rfl, hj, ho, hm, ow, hap, bw⟩ := hrel
      rename World => wr
      have BW := hide bw; have HO := hide ho; have OW' := hide ow; have HAP := hide hap; have HM := hide hm
      have hm36 : m ≤ 36 := by rw [hm]; exact Nat.le_trans List.countP_le_length (by rw [List.length_take]; omega)
      obtain ⟨Ao, co, rfl⟩ := ho.shapeP
      by_cases hjn : j < n3
      · obtain ⟨q, hq⟩ : ∃ q, (whoTo ts ts.length 0)[j]? = some q := ⟨_, List.getElem?_eq_getElem (by have := HW3.out.1; omega)⟩
        have hqn : q < n := by rw [← hl.out]; exact whoTo_lt (List.mem_of_getElem? hq)
        have hxq := HW3.out.2 j q hq
        obtain ⟨b, off, f, ys, dn, B, kk, d, rfl, hbb, hx, q0, q1, q2, hkd, hdm, hri⟩ := hr.at_ hqn
        have g2 := (bw.cell (p := ⟨b, off + q * 3 + 2, none⟩) hbb).trans q2
        obtain ⟨A9, c9, e9, _, _, hnn, hg9⟩ := ow.form
        injection e9 with e9 _ e10
        subst e9; subst e10
        obtain ⟨a3, rfl⟩ : ∃ a3, A3 = some a3 := by
          cases A3 with
          | none => have := (hnn rfl).1; omega
          | some a3 => exact ⟨a3, rfl⟩
        obtain ⟨g3, rfl, _, _⟩ := hg9 a3 rfl
        obtain ⟨x1, hx1, cx1⟩ := ow.cell (j * 2) (by omega)
        obtain ⟨x2, hx2, cx2⟩ := ow.cell (j * 2 + 1) (by omega)
        rw [Nat.mul_comm j 2] at hx1
        rw [hxq] at hx1; injection hx1 with hx1; subst hx1
        have hct : ((whoTo ts ts.length 0).take (j + 1)).countP (fun q => (txAt ts q).2.2) = m + (if dn then 1 else 0) := by
          rw [List.take_add_one, hq, List.countP_append, ← hm]
          simp [txAt_get hx]
        have HCT := hide hct
        have j2 : (j : Int) < n3 := by omega
        have q02 : (0 : Int) ≤ q := by omega
        have q22 : (q : Int) < n := by omega
        clear hq hxq hx2 hct q0 q1 q2 hx ho ow hap bw hm
        cases dn
        · go_wp2_with fail
          go_roundw
          case rel => exact ⟨j + 1, m, xs, by go_num, by omega, HO.out, by rw [HCT.out]; rfl, OW'.out, HAP.out, BW.out⟩
          case measure => simp [intOf]; omega
        · have ho4 := hide (HO.out.alloc (.cells #[.int .i64 (q : Int), .int .i64 x2] 155))
          have ow4 := hide (OW'.out.alloc (.cells #[.int .i64 (q : Int), .int .i64 x2] 155))
          have B4 := hide (BW.out.alloc BW.out.size (.cells #[.int .i64 (q : Int), .int .i64 x2] 155))
          have rd4 := hide (Rd.twoP (Blk.new wr 155 #[.int .i64 (q : Int), .int .i64 x2]))
          have hz4 := BW.out.size
          go_wp2_with (at_builtin; refine wpList_appPh rfl _ _ rfl rfl ho4.out rfl rd4.out (by omega) (by simp <;> omega) ?_; intro v8 w8 o8 hg8 hat8)
          have B8 := OF.belowG B4.out ho4.out (Nat.le_refl _) hg8
          have ow8 := ow4.out.grown hg8 HAP.out
          have hap8 : Apart (.slice (some ⟨g3, 0, none⟩) n3 c3) v8 := by
            rcases hat8 with e | e
            · unfold Apart; rw [e]; exact HAP.out
            · right; rw [e]; intro e2
              have := (World.ownsRow.lt ow4.out.1 _ e2).2; omega
          go_roundw
          case rel => exact ⟨j + 1, m + 1, _, by go_num, by omega, o8, by rw [HCT.out]; rfl, ow8, hap8, B8⟩
          case measure => simp [intOf]; omega
      · obtain rfl : n3 = j := by omega
        have hf : badN ts (kk0 : Int) = m := by
          rw [HFIN.out, HK.out, HM.out, List.take_of_length_le (by have := HW3.out.1; omega)]
          exact (whoTo_done ts ts.length).symm
        have G := hide hf; clear hf
        go_wp2_with fail
        go_ret
        exact ⟨_, _, by rw [G.out]; rfl, BW.out⟩
  · have hkb : ((kk0 : Int) == 4) = false := by simp; omega
    have hk9 : (kk0 : Int) ≠ 4 := by omega
    have HK := hide hk9
    clear h4 hk9
    go_enter Tryz.func64, Tryz.ntmps64
    go_wp2_with (first | (go_at_call 118; refine (spec_HistoryValid_c hr0 (by omega) hsum hsm).mono ?_; rintro e w2 ⟨rfl, b2⟩; rw [HH.out]) | (go_at_call 45; refine (l1In_c).mono ?_; rintro e w' ⟨rfl, rfl⟩; rw [HI.out]))
    have B2 := hide (below_step b0.out b2)
    have O2 := hide (o0.out.below b2)
    clear b2 b0 o0 hr0
    go_loopw [5, 8] (fun q i W => ∃ (k m : Nat) (xs : List Int), i = .int .i64 k ∧ k ≤ n ∧ OF 155 2 W w.heap.size q m xs ∧ m = badAt ts (kk0 : Int) k ∧ Below w.heap.size w W) (fun _ i _ => n - (intOf i).toNat)
    case atStart => exact ⟨0, 0, [], rfl, Nat.zero_le _, O2.out, rfl, B2.out⟩
    case round =>
      clear B2 O2
      obtain ⟨k, m, xs, rfl, hk, ho, hm, bw⟩ := hrel
      rename World => wr
      have BW := hide bw; have HO := hide ho; have HM := hide hm; clear bw ho hm
      by_cases hkn : k < n
      · obtain ⟨b, off, f, ys, dn, B, kk, d, rfl, hbb, hx, q0, q1, q2, hkd, hdm, hri⟩ := hr.at_ hkn
        have hyl := hide hri.len
        have hk6 : kk ≤ 6 := by rw [← hyl.out]; exact txnB_lenH (HV.out _ (List.mem_of_getElem? hx))
        have HX := hide hx; have Q1 := hide q1; have Q2 := hide q2
        have k2 : (k : Int) < n := by omega
        clear q0 q1 q2 hx
        go_wp2_with fail
        go_loopw [5, 9] (fun q i W => ∃ (j m : Nat) (xs : List Int), i = .int .i64 j ∧ j ≤ kk ∧ OF 155 2 W w.heap.size q m xs ∧ m = badU ts (kk0 : Int) k j ∧ Below w.heap.size w W) (fun _ i _ => kk - (intOf i).toNat)
        case atStart => exact ⟨0, m, xs, rfl, Nat.zero_le _, HO.out, by rw [badU_zero]; exact HM.out, BW.out⟩
        case round =>
          clear BW HO HM
          obtain ⟨j, m, xs, rfl, hj, ho, hm, bw⟩ := hrel
          rename World => w3
          have BW := hide bw; have HO := hide ho; have HM := hide hm
          have hm48 : m ≤ 48 := by rw [hm]; have := badU_le (kind := (kk0 : Int)) HV.out (k := k) (j := j) (by have := hl.out; omega) (by omega); omega
          obtain ⟨Ao, co, rfl⟩ := ho.shapeP
          have g1 := (BW.out.cell (p := ⟨b, off + k * 3 + 1, none⟩) hbb).trans Q1.out
          clear bw ho hm
          by_cases hjk : j < kk
          · obtain ⟨b2, off2, x, y, z, rfl, hbb2, hx2, p0, p1, p2⟩ := hri.at_ hjk
            have HX2 := hide hx2
            have j2 : (j : Int) < kk := by omega
            have hrw := hr.below BW.out
            have g2 := (BW.out.cell (p := ⟨b, off + k * 3 + 2, none⟩) hbb).trans Q2.out
            have a0 := (BW.out.cell (p := ⟨b2, off2 + j * 3, none⟩) hbb2).trans p0
            have a1 := (BW.out.cell (p := ⟨b2, off2 + j * 3 + 1, none⟩) hbb2).trans p1
            have a2 := (BW.out.cell (p := ⟨b2, off2 + j * 3 + 2, none⟩) hbb2).trans p2
            clear hx2 p0 p1 p2
            cases dn
            · have hno := hide (badU_off (kind := (kk0 : Int)) (j := j) HX.out rfl)
              go_wp2_with fail
              go_roundw
              case rel => exact ⟨j + 1, m, xs, by go_num, by omega, HO.out, by rw [hno.out]; exact HM.out, BW.out⟩
              case measure => simp [intOf]; omega
            · by_cases hbk : badK ts k (x, y, z) = (kk0 : Int)
              · have hyes := hide (badU_yes HX.out rfl HX2.out HK.out hbk)
                have hb9 : (badK ts k (x, y, z) == (kk0 : Int)) = true := by simpa using hbk
                clear hbk
                go_upto_region 19 with (go_at_call 123; refine (l6Kind_c hrw HH.out).mono ?_; rintro e w5 ⟨rfl, b5⟩)
                have B5 := hide (below_step BW.out b5)
                have O5 := hide (HO.out.below b5)
                have ho4 := hide (O5.out.alloc (.cells #[.int .i64 (k : Int), .int .i64 (j : Int)] 155))
                have B4 := hide (B5.out.alloc B5.out.size (.cells #[.int .i64 (k : Int), .int .i64 (j : Int)] 155))
                have rd4 := hide (Rd.twoP (Blk.new w5 155 #[.int .i64 (k : Int), .int .i64 (j : Int)]))
                have hz4 := B5.out.size
                clear b5
                go_wp2_with (at_builtin; refine wpList_appPh rfl _ _ rfl rfl ho4.out rfl rd4.out (by omega) (by simp <;> omega) ?_; intro v8 w8 o8 hg8 _)
                have B8 := OF.belowG B4.out ho4.out (Nat.le_refl _) hg8
                go_roundw
                case rel => exact ⟨j + 1, m + 1, _, by go_num, by omega, o8, by rw [hyes.out, HM.out], B8⟩
                case measure => simp [intOf]; omega
              · have hno := hide (badU_no HX.out HX2.out HK.out hbk)
                have hb9 : (badK ts k (x, y, z) == (kk0 : Int)) = false := by simpa using hbk
                clear hbk
                go_wp2_with (go_at_call 123; refine (l6Kind_c hrw HH.out).mono ?_; rintro e w5 ⟨rfl, b5⟩)
                go_roundw
                case rel => exact ⟨j + 1, m, xs, by go_num, by omega, HO.out.below b5, by rw [hno.out]; exact HM.out, below_step BW.out b5⟩
                case measure => simp [intOf]; omega
          · obtain rfl : kk = j := by omega
            have hnx := hide (badU_next (kind := (kk0 : Int)) HX.out (show ys.length = kk from hyl.out))
            go_wp2_with fail
            go_roundw
            case rel => exact ⟨k + 1, m, xs, by go_num, by omega, HO.out, by rw [hnx.out]; exact HM.out, BW.out⟩
            case measure => simp [intOf]; omega
      · obtain rfl : n = k := by omega
        have hf : badN ts (kk0 : Int) = m := by rw [HFIN.out, hl.out, HM.out]
        have G := hide hf; clear hf
        obtain ⟨Ao, co, rfl⟩ := HO.out.shapeP
        go_wp2_with fail
        go_ret
        exact ⟨_, _, by rw [G.out]; rfl, BW.out⟩
end Go.Proofs.YtcfkemchekmjbaaGreatDoor

namespace Go.Proofs.YtcfkemchekmjbaaGreatDoor
open Go.RowKit
theorem badTo_zero {ts : List Tx} {kind : Int} {who : Nat} {ys : List T3} : ∀ m, badTo ts kind who ys m = 0 → ∀ (j : Nat) (o : T3), j < m → ys[j]? = some o → (if kind = 4 then ownBad ys j o else decide (badK ts who o = kind)) = false
  | 0, _, j, o, hj, _ => by omega
  | m + 1, h, j, o, hj, ho => by
    cases hb : (if kind = 4 then ownBad ys j o else decide (badK ts who o = kind)) with
    | false => rfl
    | true =>
      exfalso
      have hs : badTo ts kind who ys m + (match ys[m]? with | some o => if (if kind = 4 then ownBad ys m o else decide (badK ts who o = kind)) then 1 else 0 | none => 0) = 0 := h
      by_cases e : j = m
      · subst e
        rw [badTo_yes ho hb] at h; omega
      · have := badTo_zero m (Nat.add_eq_zero_iff.1 hs).1 j o (by omega) ho
        rw [hb] at this; cases this
theorem badAt_zero {ts : List Tx} {kind : Int} : ∀ m, badAt ts kind m = 0 → ∀ (k : Nat) (t : Tx), k < m → ts[k]? = some t → t.2.2 = true → badTo ts kind k t.2.1 t.2.1.length = 0
  | 0, _, k, t, hk, _, _ => by omega
  | m + 1, h, k, t, hk, ht, hd => by
    have hs : badAt ts kind m + (if (txAt ts m).2.2 then badTo ts kind m (txAt ts m).2.1 (txAt ts m).2.1.length else 0) = 0 := h
    by_cases e : k = m
    · subst e
      rw [txAt_get ht, if_pos hd] at hs; omega
    · exact badAt_zero m (Nat.add_eq_zero_iff.1 hs).1 k t (by omega) ht hd
theorem own_fine {ts : List Tx} (hh : histB ts = true) (h4 : badN ts 4 = 0) {k : Nat} {t : Tx} (ht : ts[k]? = some t) (hd : t.2.2 = true) {j : Nat} {o : T3} (ho : t.2.1[j]? = some o) : ownBad t.2.1 j o = false := by
  unfold badN at h4
  rw [if_pos ⟨hh, by decide, by decide⟩] at h4
  have h1 := badAt_zero _ h4 k t (List.getElem?_eq_some_iff.1 ht).1 ht hd
  have h2 := badTo_zero _ h1 j o (List.getElem?_eq_some_iff.1 ho).1 ho
  rw [if_pos rfl] at h2; exact h2
theorem lastO_at_lt {ys : List T3} {j : Nat} {key : Int} {p : T3} (hl : lastO (ys.take j) key = some p) : ∃ i, i < j ∧ ys[i]? = some p ∧ p.2.1 = key := by
  obtain ⟨h1, h2⟩ := lastO_some hl
  obtain ⟨i, hi⟩ := List.getElem?_of_mem h1
  rw [List.getElem?_take] at hi
  split at hi
  · exact ⟨i, by assumption, hi, h2⟩
  · cases hi
/-- A first read of a value that the transaction writes itself. -/
def ownFirst (ts : List Tx) (k : Nat) (ys : List T3) : Bool := (firstR ys).any fun o => decide (0 < o.2.2) && decide (writerV ts o.2.1 o.2.2 = (k : Int))
theorem early_first {ys : List T3} (hk : ∀ o ∈ ys, o.1 = 1 ∨ o.1 = 2) (hb : ∀ (j : Nat) (o : T3), ys[j]? = some o → ownBad ys j o = false) {key v : Int} {m : Nat} (hw : ys[m]? = some (2, key, v)) (h1 : ∀ i, i < m → ys[i]? ≠ some (2, key, v)) :
    ∀ (i : Nat), i < m → ys[i]? = some (1, key, v) → ∃ i', i' < m ∧ ys[i']? = some (1, key, v) ∧ lastO (ys.take i') key = none := by
  intro i
  induction i using Nat.strongRecOn with
  | ind i ih =>
    intro hi ho
    cases hl : lastO (ys.take i) key with
    | none => exact ⟨i, hi, ho, hl⟩
    | some p =>
      obtain ⟨i2, hi2, hp, hpk⟩ := lastO_at_lt hl
      have hob := hb i _ ho
      unfold ownBad at hob
      dsimp only at hob
      rw [hl] at hob
      have hv : p.2.2 = v := by simpa using hob
      obtain ⟨a, b, c⟩ := p
      dsimp only at hpk hv
      subst hpk; subst hv
      rcases hk _ (List.mem_of_getElem? hp) with e | e
      · dsimp only at e; subst e
        exact ih i2 hi2 (by omega) hp
      · dsimp only at e; subst e
        exact absurd hp (h1 i2 (by omega))
theorem earlyB_own {ts : List Tx} (hh : histB ts = true) (h4 : badN ts 4 = 0) {k : Nat} {t : Tx} (ht : ts[k]? = some t) (hd : t.2.2 = true) : earlyB t.2.1 = ownFirst ts k t.2.1 := by
  obtain ⟨h6, hv, hnd⟩ := histB_parts hh
  have hop : ∀ o ∈ t.2.1, opB o = true := fun o ho => by
    have := hv t (List.mem_of_getElem? ht)
    unfold txnB at this
    simp only [Bool.and_eq_true, List.all_eq_true] at this
    exact this.1 o ho
  have hkind : ∀ o ∈ t.2.1, o.1 = 1 ∨ o.1 = 2 := fun o ho => by
    have := hop o ho
    unfold opB at this
    simp only [Bool.and_eq_true, inB_iff] at this
    omega
  have hpos : ∀ o ∈ t.2.1, o.1 = 2 → 0 < o.2.2 := fun o ho h2 => by
    have := hop o ho
    unfold opB at this
    simp only [Bool.and_eq_true, Bool.or_eq_true, decide_eq_true_eq, beq_iff_eq] at this
    omega
  rw [Bool.eq_iff_iff]
  unfold earlyB ownFirst
  simp only [List.any_eq_true, List.mem_range, Bool.and_eq_true, decide_eq_true_eq]
  constructor
  · rintro ⟨i, hi, h⟩
    rw [List.getElem?_eq_getElem hi] at h
    simp only [Bool.and_eq_true, decide_eq_true_eq, List.any_eq_true] at h
    obtain ⟨h1, p, hp, rfl⟩ := h
    generalize ho : t.2.1[i] = o at h1 hp
    have ho' : t.2.1[i]? = some o := by rw [List.getElem?_eq_getElem hi, ho]
    obtain ⟨q, key, v⟩ := o
    dsimp only at h1 hp
    subst h1
    obtain ⟨j, hj⟩ := List.getElem?_of_mem hp
    rw [List.getElem?_drop] at hj
    have huniq : ∀ i', i' < i + 1 + j → t.2.1[i']? ≠ some (2, key, v) := fun i' hi' he => by
      have := (place_one hnd ht he ht hj rfl).2
      omega
    obtain ⟨i', hi', ho2, hl⟩ := early_first hkind (fun j o h => own_fine hh h4 ht hd h) hj huniq i (by omega) ho'
    refine ⟨(1, key, v), mem_firstR.2 ⟨i', ho2, rfl, hl⟩, hpos (2, key, v) (List.mem_of_getElem? hj) rfl, ?_⟩
    exact writerV_is hnd ⟨t, ht, List.mem_of_getElem? hj⟩
  · rintro ⟨o, ho, h0, hw⟩
    obtain ⟨i, hi, h1, hl⟩ := mem_firstR.1 ho
    obtain ⟨q, key, v⟩ := o
    dsimp only at h0 hw h1 hl
    subst h1
    have hil := (List.getElem?_eq_some_iff.1 hi).1
    have hwn : writerN ts key v = some k := by
      unfold writerV at hw
      cases e : writerN ts key v with
      | none => rw [e] at hw; dsimp only at hw; omega
      | some n => rw [e] at hw; dsimp only at hw; rw [show n = k by omega]
    obtain ⟨t', ht', hm⟩ := writerN_some hwn
    rw [ht] at ht'; injection ht' with ht'; subst ht'
    obtain ⟨j, hj⟩ := List.getElem?_of_mem hm
    have hij : i < j := by
      rcases Nat.lt_trichotomy i j with h | h | h
      · exact h
      · subst h; rw [hi] at hj; cases hj
      · exfalso
        have h2 : (2, key, v) ∈ t.2.1.take i := by
          have : (t.2.1.take i)[j]? = some (2, key, v) := by rw [List.getElem?_take_of_lt h]; exact hj
          exact List.mem_of_getElem? this
        have h3 : lastO (t.2.1.take i) key ≠ none := fun hn => by
          unfold lastO at hn
          rw [List.find?_eq_none] at hn
          have := hn _ (List.mem_reverse.2 h2)
          simp at this
        exact h3 hl
    refine ⟨i, hil, ?_⟩
    rw [hi]
    simp only [Bool.and_eq_true, decide_eq_true_eq, List.any_eq_true]
    refine ⟨trivial, (2, key, v), ?_, rfl⟩
    have : (t.2.1.drop (i + 1))[j - (i + 1)]? = some (2, key, v) := by rw [List.getElem?_drop, show i + 1 + (j - (i + 1)) = j by omega]; exact hj
    exact List.mem_of_getElem? this
/-- Up to transaction k no committed one reads what it writes later. -/
def ownTo (ts : List Tx) (k : Nat) : Bool := (List.range k).all fun i => !((txAt ts i).2.2 && ownFirst ts i (txAt ts i).2.1)
theorem rightB_spec {ts : List Tx} : rightB ts = (decide (badN ts 1 = 0) && (decide (badN ts 2 = 0) && (decide (badN ts 3 = 0) && (decide (badN ts 4 = 0) && (ownTo ts ts.length && histB ts))))) := by
  unfold rightB
  cases hh : histB ts with
  | false => simp
  | true =>
    cases h4 : decide (badN ts 4 = 0) with
    | false => simp
    | true =>
      have e : ts.all (fun t => !(t.2.2 && earlyB t.2.1)) = ownTo ts ts.length := by
        rw [Bool.eq_iff_iff]
        unfold ownTo
        simp only [List.all_eq_true, List.mem_range]
        constructor
        · intro h i hi
          have ht : ts[i]? = some ts[i] := List.getElem?_eq_getElem hi
          rw [txAt_get ht]
          have := h _ (List.mem_of_getElem? ht)
          cases hd : ts[i].2.2 with
          | false => rfl
          | true => rw [hd, earlyB_own hh (by simpa using h4) ht hd] at this; exact this
        · intro h t ht
          obtain ⟨i, hi⟩ := List.getElem?_of_mem ht
          have := h i (List.getElem?_eq_some_iff.1 hi).1
          rw [txAt_get hi] at this
          cases hd : t.2.2 with
          | false => rfl
          | true => rw [hd] at this; rw [earlyB_own hh (by simpa using h4) hi hd]; exact this
      rw [e]; simp
end Go.Proofs.YtcfkemchekmjbaaGreatDoor
