/- Merged (what the law reaches): WrN, Bad1, Bad2. -/
import Derived.Test.YtcfkemchekmjbaaGreatDoorQx
namespace Go.Proofs.YtcfkemchekmjbaaGreatDoor
open Go.RowKit Go.Maps
def Wrn (w : World) (b n : Nat) (ts : List Tx) (k j : Nat) : Prop :=
  ∃ D : DataW Value, w.ownsMap Tryz.prog 136 RVw b n D ∧ (∀ q, wfW q → Maps.has D (klW q) = decide (q ∈ wl (opsTo ts k j))) ∧
    (∀ (k' j' : Nat) (t : Tx) (o : T3), (k' < k ∨ (k' = k ∧ j' < j)) → ts[k']? = some t → t.2.1[j']? = some o → o.1 = 2 → D.atKey (klW (o.2.1, o.2.2)) (.held (.int .i64 0)) = .held (.int .i64 (k' : Int)))
theorem Wrn.zero (w : World) (ts : List Tx) : Wrn (w.alloc (.map #[] 0)) w.heap.size 0 ts 0 0 :=
  ⟨_, World.ownsMap_made w _ _ _, fun _ _ => by rw [opsTo_zero]; rfl, fun k' j' t o h => by omega⟩
theorem Wrn.lt {w : World} {b n : Nat} {ts : List Tx} {k j : Nat} (h : Wrn w b n ts k j) : b < w.heap.size := by obtain ⟨D, ho, _⟩ := h; exact ho.lt
theorem Wrn.below {w w' : World} {b n : Nat} {ts : List Tx} {k j : Nat} (h : Wrn w b n ts k j) (hb : Below w.heap.size w w') : Wrn w' b n ts k j := by
  obtain ⟨D, ho, h2⟩ := h
  have hlt := ho.lt
  obtain ⟨es, cl, h3, h4⟩ := ho
  exact ⟨D, ⟨es, cl, (hb.block b hlt).trans h3, h4⟩, h2⟩
theorem Wrn.alloc {w : World} {b n : Nat} {ts : List Tx} {k j : Nat} (h : Wrn w b n ts k j) (o : Obj) : Wrn (w.alloc o) b n ts k j := h.below ((Below.refl _ _).alloc (Nat.le_refl _) _)
theorem Wrn.mono {w : World} {b n m : Nat} {ts : List Tx} {k j : Nat} (h : Wrn w b n ts k j) (hm : n ≤ m) : Wrn w b m ts k j := by
  obtain ⟨D, h1, h2⟩ := h; exact ⟨D, h1.mono hm, h2⟩
theorem wfW_op {ts : List Tx} {k j : Nat} {t : Tx} {o : T3} (hv : ∀ t ∈ ts, txnB t = true) (ht : ts[k]? = some t) (ho : t.2.1[j]? = some o) : wfW (o.2.1, o.2.2) := by
  have := txnB_opH (hv t (List.mem_of_getElem? ht)) ho
  unfold opB at this
  simp only [Bool.and_eq_true, inB_iff] at this
  exact ⟨WalkArith.wf_i64 (by dsimp only; omega), WalkArith.wf_i64 (by dsimp only; omega)⟩
theorem Wrn.step {w' : World} {b n : Nat} {ts : List Tx} {k j : Nat} {t : Tx} {o : T3} {D : DataW Value} (hm : IsMap D)
    (h2 : ∀ q, wfW q → Maps.has D (klW q) = decide (q ∈ wl (opsTo ts k j)))
    (h3 : ∀ (k' j' : Nat) (t : Tx) (o : T3), (k' < k ∨ (k' = k ∧ j' < j)) → ts[k']? = some t → t.2.1[j']? = some o → o.1 = 2 → D.atKey (klW (o.2.1, o.2.2)) (.held (.int .i64 0)) = .held (.int .i64 (k' : Int)))
    (hq : wfW (o.2.1, o.2.2)) (ht : ts[k]? = some t) (ho : t.2.1[j]? = some o) (hw : o.1 = 2) (hn : (o.2.1, o.2.2) ∉ wl (opsTo ts k j)) (hv : ∀ t ∈ ts, txnB t = true)
    (h : w'.ownsMap Tryz.prog 136 RVw b n (D.put (klW (o.2.1, o.2.2)) (.held (.int .i64 (k : Int))))) : Wrn w' b n ts k (j + 1) := by
  refine ⟨_, h, fun q hqw => ?_, fun k' j' t' o' hb' ht' ho' hw' => ?_⟩
  · rw [wl_step_w ht ho hw]
    by_cases e : q = (o.2.1, o.2.2)
    · subst e
      rw [has_put_same hm (show Go.WideAt.IsKeyLit (klW _) from trivial)]; simp
    · rw [has_put_other (fun h => e (klW_inj hqw hq h)), h2 q hqw]; simp [e]
  · by_cases e : k' = k ∧ j' = j
    · obtain ⟨rfl, rfl⟩ := e
      rw [ht] at ht'; injection ht' with ht'; subst ht'
      rw [ho] at ho'; injection ho' with ho'; subst ho'
      rw [atKey_put_same hm (show Go.WideAt.IsKeyLit (klW _) from trivial)]
    · have hbb : k' < k ∨ (k' = k ∧ j' < j) := by omega
      have hne : (o'.2.1, o'.2.2) ≠ (o.2.1, o.2.2) := fun e => hn (by rw [← e]; exact mem_wl (mem_opsTo ht' ho' hbb) hw')
      rw [atKey_put_other (fun h => hne (klW_inj (wfW_op hv ht' ho') hq h))]
      exact h3 k' j' t' o' hbb ht' ho' hw'
theorem Wrn.skip {w : World} {b n : Nat} {ts : List Tx} {k j : Nat} {t : Tx} {o : T3} (ht : ts[k]? = some t) (ho : t.2.1[j]? = some o) (hw : o.1 ≠ 2) (h : Wrn w b n ts k j) : Wrn w b n ts k (j + 1) := by
  obtain ⟨D, h1, h2, h3⟩ := h
  refine ⟨D, h1, fun q hq => by rw [wl_step_r ht ho hw]; exact h2 q hq, fun k' j' t' o' hb' ht' ho' hw' => ?_⟩
  by_cases e : k' = k ∧ j' = j
  · obtain ⟨rfl, rfl⟩ := e
    rw [ht] at ht'; injection ht' with ht'; subst ht'
    rw [ho] at ho'; injection ho' with ho'; subst ho'
    exact absurd hw' hw
  · exact h3 k' j' t' o' (by omega) ht' ho' hw'
theorem Wrn.next {w : World} {b n : Nat} {ts : List Tx} {k j : Nat} {t : Tx} (ht : ts[k]? = some t) (hj : t.2.1.length ≤ j) (h : Wrn w b n ts k j) : Wrn w b n ts (k + 1) 0 := by
  obtain ⟨D, h1, h2, h3⟩ := h
  refine ⟨D, h1, fun q hq => by rw [opsTo_next ht hj]; exact h2 q hq, fun k' j' t' o' hb' ht' ho' hw' => ?_⟩
  refine h3 k' j' t' o' ?_ ht' ho' hw'
  by_cases e : k' = k
  · subst e; rw [ht] at ht'; injection ht' with ht'; subst ht'
    have := (List.getElem?_eq_some_iff.1 ho').1
    omega
  · omega
set_option maxRecDepth 100000 in
set_option maxHeartbeats 16000000 in
theorem writersN_c {A : Option Addr} {n c : Nat} {ts : List Tx} {w : World} (hr : RTs w A n ts) (hn : n ≤ 6) (hv : ∀ t ∈ ts, txnB t = true) :
    Calls Tryz.prog 54 #[.slice A n c] w fun e w' => ∃ m, e = .returned (.tuple #[m, .bool (decide ((wl (allOps ts)).Nodup))]) ∧ Below w.heap.size w w' ∧ ((wl (allOps ts)).Nodup → ∃ b, m = .map (some b) ∧ Wrn w' b 36 ts ts.length 0) := by
  have hl := hide hr.1
  have HV := hide hv
  have hmk := fun (v : World) => run_makeMap (P := Tryz.prog) 92 v
  have M0 := Wrn.zero w ts
  have B0 : Below w.heap.size w (w.alloc (.map #[] 0)) := (Below.refl _ _).alloc (Nat.le_refl _) _
  go_enter Tryz.func54, Tryz.ntmps54
  go_wp2_with fail
  go_loopw [15] (fun i wr => ∃ k : Nat, k ≤ n ∧ i = .int .i64 k ∧ (wl (opsTo ts k 0)).Nodup ∧ Wrn wr w.heap.size (k * 6) ts k 0 ∧ Below w.heap.size w wr) (fun i _ => n - (intOf i).toNat)
  case atStart => exact ⟨0, Nat.zero_le _, rfl, by rw [opsTo_zero]; exact List.Pairwise.nil, M0, B0⟩
  case round =>
    clear M0 B0
    obtain ⟨k, hk, rfl, hnd, hwr, bw⟩ := hrel
    have HND := hide hnd; have HW := hide hwr; clear hnd hwr
    have hz1 := HW.out.lt
    by_cases hkn : k < n
    · obtain ⟨b, off, f, ys, dn, B, kk, d, rfl, hbb, hx, q0, q1, q2, hkd, hdm, hri⟩ := hr.at_ hkn
      have e0 := (bw.cell (p := ⟨b, off + k * 3, none⟩) hbb).trans q0
      have e1 := (bw.cell (p := ⟨b, off + k * 3 + 1, none⟩) hbb).trans q1
      have e2 := (bw.cell (p := ⟨b, off + k * 3 + 2, none⟩) hbb).trans q2
      have htx := hv _ (List.mem_of_getElem? hx)
      have HTX := hide htx
      have hyl := hide hri.len
      have h6 : kk ≤ 6 := by have := txnB_lenH htx; rw [hyl.out] at this; exact this
      have HX := hide hx
      have k0 : (0 : Int) ≤ k := by omega
      have k2 : (k : Int) < n := by omega
      have K1 := Blk.new wr 66 #[.int .i64 f, .slice B kk d, .bool dn]
      have HW1 := hide (HW.out.alloc (.cells #[.int .i64 f, .slice B kk d, .bool dn] 66))
      have HB1 := hide (bw.alloc bw.size (.cells #[.int .i64 f, .slice B kk d, .bool dn] 66))
      obtain ⟨g0, g1, g2⟩ := K1.three
      clear q0 q1 q2 hx htx K1
      go_wp2_with fail
      go_loopw [23] (fun i wr2 => ∃ j : Nat, j ≤ kk ∧ i = .int .i64 j ∧ (wl (opsTo ts k j)).Nodup ∧ Wrn wr2 w.heap.size (k * 6 + j) ts k j ∧ Below w.heap.size w wr2) (fun i _ => kk - (intOf i).toNat)
      case atStart => exact ⟨0, Nat.zero_le _, rfl, HND.out, HW1.out, HB1.out⟩
      case round =>
        clear HW1 HB1 g0 g1 g2 e0 e1 e2 HW HND
        rename World => wr2
        obtain ⟨j, hj, rfl, hnd, hwr, bw2⟩ := hrel
        have HND := hide hnd; have HW := hide hwr; clear hnd hwr
        by_cases hjk : j < kk
        · obtain ⟨b2, off2, x, y, z, rfl, hbb2, hx2, p0, p1, p2⟩ := hri.at_ hjk
          have a0 := (bw2.cell (p := ⟨b2, off2 + j * 3, none⟩) hbb2).trans p0
          have a1 := (bw2.cell (p := ⟨b2, off2 + j * 3 + 1, none⟩) hbb2).trans p1
          have a2 := (bw2.cell (p := ⟨b2, off2 + j * 3 + 2, none⟩) hbb2).trans p2
          have hop := txnB_opH HTX.out hx2
          unfold opB at hop
          simp only [Bool.and_eq_true, inB_iff] at hop
          obtain ⟨ho1, ho2, ho3, _⟩ := hop
          have hwq : wfW (y, z) := ⟨WalkArith.wf_i64 (by dsimp only; omega), WalkArith.wf_i64 (by dsimp only; omega)⟩
          have HWQ := hide hwq
          have HKO := hide (keyWr y z hwq.1 hwq.2)
          have HX2 := hide hx2
          have j0 : (0 : Int) ≤ j := by omega
          have j2 : (j : Int) < kk := by omega
          have b8 : Below w.heap.size w (wr2.alloc (.cells #[.int .i64 x, .int .i64 y, .int .i64 z] 61)) := bw2.alloc bw2.size _
          have b9 : Below w.heap.size w ((wr2.alloc (.cells #[.int .i64 x, .int .i64 y, .int .i64 z] 61)).alloc (.cells #[.int .i64 y, .int .i64 z] 136)) := b8.alloc b8.size _
          have K8 := (Blk.new wr2 61 #[.int .i64 x, .int .i64 y, .int .i64 z]).alloc (.cells #[.int .i64 y, .int .i64 z] 136)
          have K9 := Blk.new (wr2.alloc (.cells #[.int .i64 x, .int .i64 y, .int .i64 z] 61)) 136 #[.int .i64 y, .int .i64 z]
          simp only [World.size_alloc] at K9
          have HW9 := hide ((HW.out.alloc (.cells #[.int .i64 x, .int .i64 y, .int .i64 z] 61)).alloc (.cells #[.int .i64 y, .int .i64 z] 136))
          obtain ⟨D, hown, hD, hDE⟩ := HW9.out
          have hhas := hD (y, z) hwq
          have HH := hide hhas
          have HK8 := hide K8; have HK9 := hide K9; have HB9 := hide b9
          clear hwq ho1 ho2 ho3 hx2 p0 p1 p2 hD hhas b8 b9 K8 K9 hDE
          by_cases hx : x = 2
          · subst hx
            by_cases hm : (y, z) ∈ wl (opsTo ts k j)
            · have hf : decide ((wl (allOps ts)).Nodup) = false := decide_eq_false (histB_twice HX.out HX2.out rfl hm)
              have F := hide hf
              have HT := hide (HH.out.trans (decide_eq_true hm))
              clear hf hm
              go_wp2_with (at_lookup; refine wpList_lookup_own_ok _ rfl _ _ 92 rfl 136 3 lawWr Tryz.underlying92 RVw (zeroI _) (.held (.int .i64 0)) [] rfl w.heap.size (k * 6 + j) D rfl hown _ _ rfl HKO.out ?_; intro vv pp hvv; clear hvv; rw [show Maps.has D (.string (keyBytes [.int .i64 y, .int .i64 z])) = true from HT.out])
              refine (writesOp_c).mono ?_
              rintro e w3 ⟨rfl, b3⟩
              rw [show ((2 : Int) == 2) = true by rfl]
              go_wp2_with fail
              refine bodyPost_ret (v := .tuple #[.map none, .bool false]) (by simp [results, Tryz.results54, go_sem]) rfl ⟨_, by rw [F.out], below_step HB9.out b3, fun hnd' => by have := F.out; rw [decide_eq_true hnd'] at this; cases this⟩
            · have hn' := nodup_snoc HND.out hm
              have HMN := hide hm
              rw [← wl_step_w HX.out HX2.out rfl] at hn'
              have HN' := hide hn'
              have HT := hide (HH.out.trans (decide_eq_false hm))
              clear hn' hm
              go_wp2_with (at_lookup; refine wpList_lookup_own_ok _ rfl _ _ 92 rfl 136 3 lawWr Tryz.underlying92 RVw (zeroI _) (.held (.int .i64 0)) [] rfl w.heap.size (k * 6 + j) D rfl hown _ _ rfl HKO.out ?_; intro vv pp hvv; clear hvv; rw [show Maps.has D (.string (keyBytes [.int .i64 y, .int .i64 z])) = false from HT.out])
              refine (writesOp_c).mono ?_
              rintro e w3 ⟨rfl, b3⟩
              rw [show ((2 : Int) == 2) = true by rfl]
              have B3 := below_step HB9.out b3
              have K83 := HK8.out.belowAll b3
              have K93 := HK9.out.belowAll b3
              have HW3 := hide (HW9.out.below b3)
              obtain ⟨f0, f1, f2⟩ := K83.three
              go_wp2_with fail
              refine (writesOp_c).mono ?_
              rintro e w4 ⟨rfl, b4⟩
              rw [show ((2 : Int) == 2) = true by rfl]
              have B4 := below_step B3 b4
              have K94 := K93.belowAll b4
              obtain ⟨D2, hown2, hD2, hDE2⟩ := HW3.out.below b4
              have HM2 := hide hown2.isMap
              have HD2 := hide hD2; have HDE2 := hide hDE2
              obtain ⟨f3, f4, _, _⟩ := K94.two
              clear hD2 hDE2 f0 f1 f2 hown D HH HT
              go_wp2_with (at_mapUpdate; refine wpList_mapUpdate_own _ rfl _ _ _ 92 rfl 136 3 lawWr Tryz.underlying92 RVw w.heap.size (k * 6 + j) D2 rfl hown2 (by unfold maxLen; omega) _ _ _ rfl rfl HKO.out _ [] rfl ?_; intro w5 hown5 hgrow5)
              go_roundw
              case rel => exact ⟨j + 1, by omega, by go_num, HN'.out, Wrn.step HM2.out HD2.out HDE2.out HWQ.out HX.out HX2.out rfl HMN.out HV.out hown5, B4.grown hgrow5 B4.size (fun j e => by cases e; exact Nat.le_refl _)⟩
              case measure => simp [intOf]; omega
          · have hxb : (x == 2) = false := by simpa using hx
            have hs := wl_step_r HX.out HX2.out hx
            have HS := hide hs; have HXB := hide hxb; have HXN := hide hx
            clear hs hxb hx
            go_wp2_with (at_lookup; refine wpList_lookup_own_ok _ rfl _ _ 92 rfl 136 3 lawWr Tryz.underlying92 RVw (zeroI _) (.held (.int .i64 0)) [] rfl w.heap.size (k * 6 + j) D rfl hown _ _ rfl HKO.out ?_; intro vv pp hvv; clear hvv)
            refine (writesOp_c).mono ?_
            rintro e w3 ⟨rfl, b3⟩
            rw [HXB.out]
            have B3 := below_step HB9.out b3
            have K83 := HK8.out.belowAll b3
            have HW3 := hide (HW9.out.below b3)
            obtain ⟨f0, f1, f2⟩ := K83.three
            go_wp2_with fail
            refine (writesOp_c).mono ?_
            rintro e w4 ⟨rfl, b4⟩
            rw [HXB.out]
            have B4 := below_step B3 b4
            have HW4 := hide (HW3.out.below b4)
            clear f0 f1 f2
            go_wp2_with fail
            go_roundw
            case rel => exact ⟨j + 1, by omega, by go_num, by rw [HS.out]; exact HND.out, (Wrn.skip HX.out HX2.out HXN.out HW4.out).mono (by omega), B4⟩
            case measure => simp [intOf]; omega
        · obtain rfl : j = kk := by omega
          have hnx := opsTo_next HX.out (show ys.length ≤ j by rw [hyl.out]; omega)
          have HNX := hide hnx; clear hnx
          go_wp2_with fail
          go_roundw
          case rel => exact ⟨k + 1, by omega, by go_num, by rw [HNX.out]; exact HND.out, (Wrn.next HX.out (by rw [hyl.out]; exact Nat.le_refl _) HW.out).mono (by omega), bw2⟩
          case measure => simp [intOf]; omega
    · obtain rfl : k = n := by omega
      have hall := opsTo_all (show ts.length ≤ k by rw [hl.out]; omega)
      have hf : decide ((wl (allOps ts)).Nodup) = true := decide_eq_true (by rw [← hall]; exact HND.out)
      have F := hide hf; clear hall hf
      go_wp2_with fail
      refine bodyPost_ret (v := .tuple #[.map (some w.heap.size), .bool true]) (by simp [results, Tryz.results54, go_sem]) rfl ⟨_, by rw [F.out], bw, fun _ => ⟨_, rfl, by rw [hl.out]; exact HW.out.mono (by omega)⟩⟩
set_option maxRecDepth 100000 in
set_option maxHeartbeats 8000000 in
theorem WriterOf_c {A : Option Addr} {n c : Nat} {ts : List Tx} {key val : Int} {w : World} (hr : RTs w A n ts) (hh : histB ts = true) (hq : wfW (key, val)) :
    Calls Tryz.prog 113 #[.slice A n c, .int .i64 key, .int .i64 val] w fun e w' => e = .returned (.int .i64 (writerV ts key val)) ∧ Below w.heap.size w w' := by
  obtain ⟨h6, hv, hnd⟩ := histB_parts hh
  have hl := hr.1
  have hsm : SmallT ts := fun t ht => by have h : t.2.1.length ≤ 6 := txnB_lenH (hv t ht); omega
  have HH := hide hh; have HV := hide hv; have HND := hide hnd; have HQ := hide hq
  have HKO := hide (keyWr key val hq.1 hq.2)
  clear hh hv hnd hq
  go_enter Tryz.func113, Tryz.ntmps113
  go_wp2_with fail
  refine (impl_HistoryValid_c hr (by omega) hsm).mono ?_
  rintro e w2 ⟨rfl, b2⟩
  rw [HH.out]
  go_wp2_with fail
  refine (writersN_c (hr.below b2) (by omega) HV.out).mono ?_
  rintro e w3 ⟨m, rfl, b3, hm⟩
  have B3 := below_step b2 b3
  obtain ⟨b, rfl, hW⟩ := hm HND.out
  rw [decide_eq_true HND.out]
  obtain ⟨D, hown, hD, hE⟩ := hW
  have hhas := hD (key, val) HQ.out
  rw [opsTo_all (Nat.le_refl _)] at hhas
  have HHas := hide hhas
  have HE := hide hE
  have HB3 := hide B3
  clear hm hD hhas hE b2 b3 hr
  by_cases hin : (key, val) ∈ wl (allOps ts)
  · have hat : D.atKey (klW (key, val)) (.held (.int .i64 0)) = .held (.int .i64 (writerV ts key val)) := by
      obtain ⟨n', t', ht', hm'⟩ := mem_allOps (of_mem_wl hin)
      obtain ⟨j', hj', e'⟩ := List.mem_iff_getElem.1 hm'
      have := HE.out n' j' t' (2, key, val) (.inl (List.getElem?_eq_some_iff.1 ht').1) ht' (by rw [← e']; exact List.getElem?_eq_getElem hj') rfl
      rw [this, writerV_is HND.out ⟨t', ht', hm'⟩]
    have HAT := hide hat
    have HT := hide (HHas.out.trans (decide_eq_true hin))
    clear hat hin
    obtain ⟨v, hv⟩ : ∃ v, writerV ts key val = v := ⟨_, rfl⟩
    rw [hv] at HAT
    have HVV := hide hv; clear hv
    go_wp2_with (at_lookup; refine wpList_lookup_own_ok _ rfl _ _ 92 rfl 136 3 lawWr Tryz.underlying92 RVw (zeroI _) (.held (.int .i64 0)) [] rfl b 36 D rfl hown _ _ rfl HKO.out ?_; intro vv pp hvv; obtain rfl : vv = .int .i64 v := (by have h1 := HAT.out; unfold klW at h1; rw [h1] at hvv; have := congrArg (fun x => x.map Prod.fst) hvv; simpa [RVw] using this); rw [show Maps.has D (.string (keyBytes [.int .i64 key, .int .i64 val])) = true from HT.out])
    go_ret
    exact ⟨congrArg (fun x => Ending.returned (.int .i64 x)) HVV.out.symm, HB3.out⟩
  · have hno := writerV_no hin
    have HNO := hide hno
    have HT := hide (HHas.out.trans (decide_eq_false hin))
    clear hno hin
    go_wp2_with (at_lookup; refine wpList_lookup_own_ok _ rfl _ _ 92 rfl 136 3 lawWr Tryz.underlying92 RVw (zeroI _) (.held (.int .i64 0)) [] rfl b 36 D rfl hown _ _ rfl HKO.out ?_; intro vv pp hvv; clear hvv; rw [show Maps.has D (.string (keyBytes [.int .i64 key, .int .i64 val])) = false from HT.out])
    go_ret
    exact ⟨congrArg (fun x => Ending.returned (.int .i64 x)) HNO.out.symm, HB3.out⟩
end Go.Proofs.YtcfkemchekmjbaaGreatDoor

namespace Go.Proofs.YtcfkemchekmjbaaGreatDoor
open Go.RowKit
set_option maxHeartbeats 2000000 in
theorem IndexOp_c {u : Value} {n : Nat} {zs : List T3} {x y z : Int} {w : World} (hu : S3 w u n zs) :
    Calls Tryz.prog 233 #[u, .agg #[.int .i64 x, .int .i64 y, .int .i64 z]] w fun e w' => ∃ i : Int, e = .returned (.int .i64 i) ∧ (0 ≤ i ↔ (x, y, z) ∈ zs) ∧ Below w.heap.size w w' := by
  obtain ⟨A, c, rfl, _, hn, ha⟩ := hu
  have hl := hide ha.len
  have B0 := hide ((Below.refl w.heap.size w).alloc (Nat.le_refl _) (.cells #[.int .i64 x, .int .i64 y, .int .i64 z] 61))
  have KB := hide (Blk.new w 61 #[.int .i64 x, .int .i64 y, .int .i64 z])
  have hlt := KB.out.lt
  have hq := eqOpL
  go_enter Tryz.func233, Tryz.ntmps233
  go_wp2_with fail
  go_loopw [8] (fun i wr => ∃ k : Nat, k ≤ n ∧ i = .int .i64 k ∧ (x, y, z) ∉ zs.take k ∧ Blk wr w.heap.size 61 #[.int .i64 x, .int .i64 y, .int .i64 z] ∧ Below w.heap.size w wr) (fun i _ => n - (intOf i).toNat)
  case atStart => exact ⟨0, Nat.zero_le _, rfl, by simp, KB.out, B0.out⟩
  case round =>
    clear KB B0 hlt
    obtain ⟨k, hk, rfl, hno, hK, hbel⟩ := hrel
    have HNO := hide hno; clear hno
    by_cases hlt : k < n
    · obtain ⟨b2, o2, x', y', z', rfl, hb2, hx', q0, q1, q2⟩ := ha.at_ hlt
      have d0 := (hbel.cell (p := ⟨b2, o2 + k * 3, none⟩) hb2).trans q0
      have d1 := (hbel.cell (p := ⟨b2, o2 + k * 3 + 1, none⟩) hb2).trans q1
      have d2 := (hbel.cell (p := ⟨b2, o2 + k * 3 + 2, none⟩) hb2).trans q2
      obtain ⟨e0, e1, e2⟩ := hK.three
      have HK := hide hK
      have k0 : (0 : Int) ≤ k := by omega
      have k1 : (k : Int) < n := by omega
      have HX := hide hx'
      clear q0 q1 q2 hx' hK
      by_cases he : (x, y, z) = (x', y', z')
      · have hmem : (x, y, z) ∈ zs := by rw [he]; exact List.mem_of_getElem? HX.out
        have HM := hide hmem
        have hb : (x == x' && (y == y' && z == z')) = true := by simpa using he
        clear hmem he
        go_wp2_with fail
        go_region
        all_goals
          go_wp2_with fail
          go_ret
          exact ⟨k, rfl, ⟨fun _ => HM.out, fun _ => k0⟩, hbel.drew⟩
      · have hno2 : (x, y, z) ∉ zs.take (k + 1) := by
          rw [List.take_add_one, HX.out]
          intro hm
          rcases List.mem_append.1 hm with hm | hm
          · exact HNO.out hm
          · simp at hm; exact he (by rw [hm.1, hm.2.1, hm.2.2])
        have HN2 := hide hno2
        have hb : (x == x' && (y == y' && z == z')) = false := by simpa using he
        clear hno2 he
        go_wp2_with fail
        go_region
        all_goals
          go_wp2_with fail
          go_roundw
        case rel => exact ⟨k + 1, by omega, by go_num, HN2.out, HK.out.drew, hbel.drew⟩
        case measure => simp [intOf]; omega
    · obtain rfl : k = n := by omega
      have hnm : (x, y, z) ∉ zs := by have := HNO.out; rwa [← hl.out, List.take_length] at this
      have HNM := hide hnm; clear hnm
      go_wp2_with fail
      go_ret
      exact ⟨-1, rfl, ⟨fun h => by omega, fun h => absurd h HNM.out⟩, hbel⟩
set_option maxHeartbeats 2000000 in
theorem ContainsOp_c {u : Value} {n : Nat} {zs : List T3} {x y z : Int} {w : World} (hu : S3 w u n zs) :
    Calls Tryz.prog 198 #[u, .agg #[.int .i64 x, .int .i64 y, .int .i64 z]] w fun e w' => e = .returned (.bool (decide ((x, y, z) ∈ zs))) ∧ Below w.heap.size w w' := by
  have hb := (Below.refl w.heap.size w).alloc (Nat.le_refl _) (.cells #[.int .i64 x, .int .i64 y, .int .i64 z] 61)
  obtain ⟨e0, e1, e2⟩ := (Blk.new w 61 #[.int .i64 x, .int .i64 y, .int .i64 z]).three
  have hu2 := hu.below hb
  obtain ⟨A, c, rfl⟩ := hu.shape
  go_enter Tryz.func198, Tryz.ntmps198
  go_wp2_with fail
  refine (IndexOp_c hu2).mono ?_
  rintro e w2 ⟨i, rfl, hi, b2⟩
  have hd : decide (0 ≤ i) = decide ((x, y, z) ∈ zs) := by rw [decide_eq_decide]; exact hi
  have HD := hide hd
  clear hi hd e0 e1 e2
  go_wp2_with fail
  go_ret
  exact ⟨congrArg (fun b => Ending.returned (.bool b)) HD.out, hb.trans (b2.mono hb.size)⟩
theorem lastW_mem_iff {ys : List T3} {key val : Int} (h : txnB (0, ys, true) = true) : (2, key, val) ∈ lastW ys ↔ lastK ys key = some (2, key, val) := by
  unfold lastW
  simp only [List.mem_append, Option.mem_toList]
  constructor
  · rintro (h | h | h)
    · have := (lastK_some h).2.2; dsimp only at this; subst this; exact h
    · have := (lastK_some h).2.2; dsimp only at this; subst this; exact h
    · have := (lastK_some h).2.2; dsimp only at this; subst this; exact h
  · intro hl
    have hm := (lastK_some hl).1
    obtain ⟨j, hj⟩ := List.getElem?_of_mem hm
    have := txnB_opH h hj
    unfold opB at this
    simp only [Bool.and_eq_true, inB_iff] at this
    have hk := this.2.1
    have : key = 0 ∨ key = 1 ∨ key = 2 := by omega
    rcases this with rfl | rfl | rfl
    · exact .inl hl
    · exact .inr (.inl hl)
    · exact .inr (.inr hl)
theorem txnB_any {f : Int} {ys : List T3} {dn : Bool} (h : txnB (f, ys, dn) = true) : txnB (0, ys, true) = true := by
  unfold txnB at *
  simp only [Bool.and_eq_true, inB_iff] at *
  exact ⟨h.1, by omega, h.2.2⟩
set_option maxRecDepth 100000 in
set_option maxHeartbeats 4000000 in
theorem LastValue_c {A : Option Addr} {n c : Nat} {ts : List Tx} {key val : Int} {w : World} (hr : RTs w A n ts) (hh : histB ts = true) (hq : wfW (key, val)) :
    Calls Tryz.prog 173 #[.slice A n c, .int .i64 key, .int .i64 val] w fun e w' => e = .returned (.bool (lastB ts key val)) ∧ Below w.heap.size w w' := by
  obtain ⟨h6, hv, hnd⟩ := histB_parts hh
  have HH := hide hh; have HV := hide hv; have HL := hide hr.1
  clear hh hv hnd
  go_enter Tryz.func173, Tryz.ntmps173
  go_wp2_with fail
  refine (WriterOf_c hr HH.out hq).mono ?_
  rintro e w2 ⟨rfl, b2⟩
  have hr2 := hr.below b2
  clear hr
  cases hw : writerN ts key val with
  | none =>
    have hf : lastB ts key val = false := by unfold lastB; rw [hw]
    have hwv : writerV ts key val = -1 := by unfold writerV; rw [hw]
    have F := hide hf
    rw [hwv]
    clear hf hwv hw
    go_wp2_with fail
    go_ret
    exact ⟨congrArg (fun b => Ending.returned (.bool b)) F.out.symm, b2⟩
  | some m =>
    have hwv : writerV ts key val = (m : Int) := by unfold writerV; rw [hw]
    obtain ⟨t, ht, _⟩ := writerN_some hw
    have hmn : m < n := by have := (List.getElem?_eq_some_iff.1 ht).1; have := HL.out; omega
    obtain ⟨b, off, f, ys, dn, B, kk, d, rfl, hbb, hx, q0, q1, q2, hkd, hdm, hri⟩ := hr2.at_ hmn
    have htv := HV.out _ (List.mem_of_getElem? hx)
    have h6k : kk ≤ 6 := by have h1 := txnB_lenH htv; have h2 := hri.len; omega
    have hf : lastB ts key val = decide ((2, key, val) ∈ lastW ys) := by
      unfold lastB; rw [hw]
      show decide (lastK (txAt ts m).2.1 key = some (2, key, val)) = _
      rw [txAt_get hx, decide_eq_decide]
      exact (lastW_mem_iff (txnB_any htv)).symm
    have F := hide hf
    have HT := hide htv
    have s3 : S3 w2 (.slice B kk d) kk ys := S3.of_args hkd (by omega) hri
    have m0 : (0 : Int) ≤ m := by omega
    have m1 : (m : Int) < n := by omega
    rw [hwv]
    clear hf hwv hw ht hx htv hri
    go_wp2_with fail
    refine (impl_lastWrites_c s3 HT.out).mono ?_
    rintro e w3 ⟨v, k, rfl, o3, b3⟩
    obtain ⟨Av, cv, rfl⟩ := o3.shape
    go_wp2_with fail
    refine (ContainsOp_c o3.s3).mono ?_
    rintro e w4 ⟨rfl, b4⟩
    go_wp2_with fail
    go_ret
    exact ⟨congrArg (fun b => Ending.returned (.bool b)) F.out.symm, below_step (below_step b2 b3) b4⟩
end Go.Proofs.YtcfkemchekmjbaaGreatDoor

namespace Go.Proofs.YtcfkemchekmjbaaGreatDoor
open Go.RowKit Go.Maps
theorem opB_wf {x y z : Int} (h : opB (x, y, z) = true) : wfW (y, z) := by
  unfold opB at h
  simp only [Bool.and_eq_true, inB_iff] at h
  obtain ⟨_, h2, h3, _⟩ := h
  exact ⟨WalkArith.wf_i64 (by omega), WalkArith.wf_i64 (by omega)⟩
set_option maxRecDepth 100000 in
set_option maxHeartbeats 8000000 in
theorem badKind_c {A : Option Addr} {n c : Nat} {ts : List Tx} {who : Nat} {x y z : Int} {w : World} (hr : RTs w A n ts) (hh : histB ts = true) (ho : opB (x, y, z) = true) :
    Calls Tryz.prog 128 #[.slice A n c, .int .i64 (who : Int), .agg #[.int .i64 x, .int .i64 y, .int .i64 z]] w fun e w' => e = .returned (.int .i64 (badK ts who (x, y, z))) ∧ Below w.heap.size w w' := by
  have hb := (Below.refl w.heap.size w).alloc (Nat.le_refl _) (.cells #[.int .i64 x, .int .i64 y, .int .i64 z] 61)
  have K0 := Blk.new w 61 #[.int .i64 x, .int .i64 y, .int .i64 z]
  have hr0 := hr.below hb
  obtain ⟨e0, e1, e2⟩ := K0.three
  have HH := hide hh; have HL := hide hr.1
  have hq := opB_wf ho
  have hd0 : badK ts who (x, y, z) = (if x ≠ 1 ∨ z = 0 ∨ writerV ts y z = (who : Int) then 0 else match writerN ts y z with | none => 1 | some n => if (txAt ts n).2.2 then (if lastB ts y z then 0 else 3) else 2) := rfl
  have HD := hide hd0
  have HQ := hide hq
  have HB := hide hb
  clear hh hd0 hr hb hq
  go_enter Tryz.func128, Tryz.ntmps128
  go_wp2_with fail
  refine (WriterOf_c hr0 HH.out HQ.out).mono ?_
  rintro e w2 ⟨rfl, b2⟩
  have B2 := HB.out.trans (b2.mono HB.out.size)
  have K2 := K0.belowAll b2
  have hr2 := hr0.below b2
  clear e0 e1 e2 K0 hr0 b2
  obtain ⟨e0, e1, e2⟩ := K2.three
  obtain ⟨v, hv⟩ : ∃ v, writerV ts y z = v := ⟨_, rfl⟩
  rw [hv]
  have HV := hide hv
  clear hv
  go_wp2_with fail
  refine (readsOp_c).mono ?_
  rintro e w3 ⟨rfl, b3⟩
  have B3 := below_step B2 b3
  have K3 := K2.belowAll b3
  have hr3 := hr2.below b3
  clear e0 e1 e2 K2 hr2 b3 B2
  obtain ⟨e0, e1, e2⟩ := K3.three
  by_cases hx : x = 1
  · subst hx
    rw [show ((1 : Int) == 1) = true by rfl]
    by_cases hz : z = 0
    · have hzb : (z == 0) = true := by simpa using hz
      have hf : badK ts who (1, y, z) = 0 := by rw [HD.out, if_pos (.inr (.inl hz))]
      have F := hide hf
      clear hf hz
      go_wp2_with fail
      go_ret
      exact ⟨congrArg (fun q => Ending.returned (.int .i64 q)) F.out.symm, B3⟩
    · have hzb : (z == 0) = false := by simpa using hz
      have HZ := hide hz
      clear hz
      by_cases hw : v = (who : Int)
      · have hwb : (v == (who : Int)) = true := by simpa using hw
        have hf : badK ts who (1, y, z) = 0 := by rw [HD.out, if_pos (.inr (.inr (HV.out.trans hw)))]
        have F := hide hf
        clear hf hw
        go_wp2_with fail
        go_ret
        exact ⟨congrArg (fun q => Ending.returned (.int .i64 q)) F.out.symm, B3⟩
      · have hwb : (v == (who : Int)) = false := by simpa using hw
        have hc : ¬ ((1 : Int) ≠ 1 ∨ z = 0 ∨ writerV ts y z = (who : Int)) := by
          rintro (h | h | h)
          · exact h rfl
          · exact HZ.out h
          · exact hw (HV.out.symm.trans h)
        have hD2 := HD.out
        rw [if_neg hc] at hD2
        have HD2 := hide hD2
        clear hw hc hD2
        cases hn : writerN ts y z with
        | none =>
          have hv1 : v = -1 := by rw [← HV.out]; unfold writerV; rw [hn]
          have hf : badK ts who (1, y, z) = 1 := by rw [HD2.out, hn]
          have F := hide hf
          have hneg : v < 0 := by omega
          clear hf hn hv1
          go_wp2_with fail
          go_ret
          exact ⟨congrArg (fun q => Ending.returned (.int .i64 q)) F.out.symm, B3⟩
        | some m =>
          have hv1 : v = (m : Int) := by rw [← HV.out]; unfold writerV; rw [hn]
          obtain ⟨t, ht, _⟩ := writerN_some hn
          have hmn : m < n := by have := (List.getElem?_eq_some_iff.1 ht).1; have := HL.out; omega
          obtain ⟨b, off, f, ys, dn, B, kk, d, rfl, hbb, hx, q0, q1, q2, hkd, hdm, hri⟩ := hr3.at_ hmn
          have hD3 := HD2.out
          rw [hn] at hD3
          have hD4 : badK ts who (1, y, z) = if (txAt ts m).2.2 then (if lastB ts y z then 0 else 3) else 2 := hD3
          rw [txAt_get hx] at hD4
          have HD4 := hide hD4
          subst hv1
          have m0 : (0 : Int) ≤ m := by omega
          have m1 : (m : Int) < n := by omega
          clear hD3 hD4 hn ht hx hri
          cases dn
          · have hf : badK ts who (1, y, z) = 2 := by rw [HD4.out]; rfl
            have F := hide hf; clear hf
            go_wp2_with fail
            go_ret
            exact ⟨congrArg (fun q => Ending.returned (.int .i64 q)) F.out.symm, B3⟩
          · go_wp2_with fail
            refine (LastValue_c hr3 HH.out HQ.out).mono ?_
            rintro e w4 ⟨rfl, b4⟩
            cases hl : lastB ts y z
            · have hf : badK ts who (1, y, z) = 3 := by rw [HD4.out, hl]; rfl
              have F := hide hf; clear hf hl
              go_wp2_with fail
              go_ret
              exact ⟨congrArg (fun q => Ending.returned (.int .i64 q)) F.out.symm, below_step B3 b4⟩
            · have hf : badK ts who (1, y, z) = 0 := by rw [HD4.out, hl]; rfl
              have F := hide hf; clear hf hl
              go_wp2_with fail
              go_ret
              exact ⟨congrArg (fun q => Ending.returned (.int .i64 q)) F.out.symm, below_step B3 b4⟩
  · have hxb : (x == 1) = false := by simpa using hx
    have hf : badK ts who (x, y, z) = 0 := by rw [HD.out, if_pos (.inl hx)]
    have F := hide hf
    rw [hxb]
    clear hf hx
    go_wp2_with fail
    go_ret
    exact ⟨congrArg (fun q => Ending.returned (.int .i64 q)) F.out.symm, B3⟩
/-- Rows of places. -/
theorem infoPl : (Tryz.prog.info? 155).map (fun i => (i.zero, i.size, i.bytes)) = some (some (.agg #[.int .i64 0, .int .i64 0]), 2, 16) := by kernel_rfl
theorem OF.rd {te : TypeId} {s : Nat} {w : World} {B : Nat} {A : Option Addr} {n c : Nat} {xs : List Int} (h : OF te s w B (.slice A n c) n xs) : Rd w s A n (xs.map (Value.int .i64)) := by
  have hl := h.len
  obtain ⟨⟨h1, h2⟩, h3⟩ := h
  refine ⟨by simp [hl], fun hn => ?_⟩
  rcases h2 with ⟨h4, h5⟩ | ⟨g, cap, cur, h4, hB, hg, hc, hm, hs, ht⟩
  · omega
  · injection h4 with e1 e2 e3
    subst e1
    refine ⟨g, 0, rfl, Blk.lt hg, fun k u hu => ?_⟩
    rw [Nat.zero_add, Blk.cell (t := te) (cs := cur) hg]
    have hk : k < n * s := by have := (List.getElem?_eq_some_iff.1 hu).1; simp [hl] at this; exact this
    have h6 : (cur.toList.take (n * s))[k]? = some u := by rw [ht]; exact hu
    rw [List.getElem?_take_of_lt hk] at h6
    simpa using h6
theorem wpList_appP {w : World} {o : Oper} {a : Act} {Q : Exit → Act → World → Prop} {ops : Array Oper} {rest : List Oper} (hgd : o.guard = none) (s x : Operand)
    (ho : o.op = .call { callee := .builtin .append, args := #[s, x], argTypes := #[105, 105] })
    {B : Nat} {v : Value} {n : Nat} {xs : List Int} (hs : a.eval s = v) (hown : OF 155 2 w B v n xs)
    {A : Option Addr} {m c : Nat} {ys : List Int} (hx : a.eval x = .slice A m c) (hr : Rd w 2 A m (ys.map (Value.int .i64))) (hnm : n + m ≤ 1048576) (hbase : B ≤ w.heap.size)
    (h : ∀ v' w', OF 155 2 w' B v' (n + m) (xs ++ ys) → w.grownBy w' v.ownBlock → wpList Tryz.prog ops Q rest (a.put o.dst v') w') : wpList Tryz.prog ops Q (o :: rest) a w := by
  obtain ⟨i, hi, hz, hsz, hby⟩ := info_parts infoPl
  refine wpList_app hgd s x _ ho B 155 i (.agg #[.int .i64 0, .int .i64 0]) 2 16 Tryz.underlying105 hi hz hsz hby rfl (by omega) v n _ hs hown.1 A m c _ hx hr (ints_oneCell _ _) (by simp only [maxLen]; omega) (by omega) hbase ?_
  intro v' w' h1 h2 h3
  exact h v' w' ⟨by simpa using h1, hnm⟩ h2
theorem OF.emptyP (w : World) : OF 155 2 (w.alloc (.cells #[] 155)) w.heap.size (.slice (some ⟨w.heap.size, 0, none⟩) 0 0) 0 [] :=
  ⟨⟨rfl, .inr ⟨w.heap.size, 0, #[], rfl, Nat.le_refl _, Blk.new w _ _, Nat.le_refl _, by simp [maxLen], rfl, rfl⟩⟩, by omega⟩
theorem OF.belowG {te : TypeId} {s : Nat} {a w w' : World} {B : Nat} {v : Value} {n : Nat} {xs : List Int} (h : Below a.heap.size a w) (ho : OF te s w B v n xs) (hB : a.heap.size ≤ B) (hg : w.grownBy w' v.ownBlock) : Below a.heap.size a w' :=
  h.grown hg h.size (fun k hk => by have := (World.ownsRow.lt ho.1 k hk).1; omega)
theorem OF.alloc {te : TypeId} {s : Nat} {w : World} {B : Nat} {v : Value} {n : Nat} {xs : List Int} (h : OF te s w B v n xs) (o : Obj) : OF te s (w.alloc o) B v n xs := h.below ((Below.refl _ _).alloc (Nat.le_refl _) _)
theorem Rd.twoP {w : World} {g : Nat} {te : TypeId} {x y : Int} (h : Blk w g te #[.int .i64 x, .int .i64 y]) : Rd w 2 (some ⟨g, 0, none⟩) 1 (([x, y] : List Int).map (Value.int .i64)) := by
  refine ⟨rfl, fun _ => ⟨g, 0, rfl, h.lt, fun k u hu => ?_⟩⟩
  rw [Nat.zero_add, h.cell]
  match k, hu with
  | 0, hu => simp at hu; subst hu; rfl
  | 1, hu => simp at hu; subst hu; rfl
/-- A row is no map. -/
theorem own_map_ne {w : World} {b n k s B : Nat} {t kt : TypeId} {H : Type} {R : Value → Option (DataW H × List MemPlace)} {D : DataW H} {q : Value} {xs : List Value} (h : w.ownsMap Tryz.prog kt R b n D) (ho : w.ownsRow B t s q k xs) : some b ≠ q.ownBlock := fun e => by
  obtain ⟨es, cl, h3, _⟩ := h
  rcases ho.2 with ⟨rfl, _⟩ | ⟨g, cap, cur, rfl, _, hh, _⟩
  · simp [Value.ownBlock] at e
  · have e1 : b = g := by have h : some b = some g := e; injection h
    subst e1
    rw [hh] at h3; injection h3 with h3; cases h3
/-- The map at block b: the last operations among os. -/
def LastM (w : World) (b n : Nat) (os : List T3) : Prop :=
  ∃ D : DataW Value, w.ownsMap Tryz.prog 3 RV b n D ∧ ∀ q, Maps.has D (kI q) = (lastO os q).isSome ∧ D.atKey (kI q) (.held (.int .i64 0)) = .held (.int .i64 ((lastO os q).getD (0, 0, 0)).2.2)
theorem LastM.zero (w : World) : LastM (w.alloc (.map #[] 0)) w.heap.size 0 [] := ⟨_, World.ownsMap_made w _ _ _, fun _ => ⟨rfl, rfl⟩⟩
theorem LastM.lt {w : World} {b n : Nat} {os : List T3} (h : LastM w b n os) : b < w.heap.size := by obtain ⟨D, ho, _⟩ := h; exact ho.lt
theorem LastM.below {w w' : World} {b n : Nat} {os : List T3} (h : LastM w b n os) (hb : Below w.heap.size w w') : LastM w' b n os := by
  obtain ⟨D, ho, h2⟩ := h
  have hlt := ho.lt
  obtain ⟨es, cl, h3, h4⟩ := ho
  exact ⟨D, ⟨es, cl, (hb.block b hlt).trans h3, h4⟩, h2⟩
theorem LastM.alloc {w : World} {b n : Nat} {os : List T3} (h : LastM w b n os) (o : Obj) : LastM (w.alloc o) b n os := h.below ((Below.refl _ _).alloc (Nat.le_refl _) _)
theorem LastM.kept {w w' : World} {row : Option Nat} {b n : Nat} {os : List T3} (h : LastM w b n os) (hg : w.grownBy w' row) (hne : some b ≠ row) : LastM w' b n os := by
  obtain ⟨D, ho, h2⟩ := h
  exact ⟨D, ho.kept hg hne, h2⟩
theorem LastM.step {w' : World} {b n k : Nat} {os : List T3} {o : T3} {D : DataW Value} (hm : IsMap D)
    (h2 : ∀ q, Maps.has D (kI q) = (lastO (os.take k) q).isSome ∧ D.atKey (kI q) (.held (.int .i64 0)) = .held (.int .i64 ((lastO (os.take k) q).getD (0, 0, 0)).2.2))
    (hk : os[k]? = some o) (h : w'.ownsMap Tryz.prog 3 RV b n (D.put (kI o.2.1) (.held (.int .i64 o.2.2)))) : LastM w' b n (os.take (k + 1)) := by
  refine ⟨_, h, fun q => ?_⟩
  rw [List.take_add_one, hk]
  simp only [Option.toList_some]
  rw [lastO_snoc]
  by_cases e : o.2.1 = q
  · subst e
    rw [if_pos rfl, has_put_same hm (show Go.WideAt.IsKeyLit (kI _) from trivial), atKey_put_same hm (show Go.WideAt.IsKeyLit (kI _) from trivial)]
    exact ⟨rfl, rfl⟩
  · rw [if_neg e, has_put_other (fun h => e (kI_inj h).symm), atKey_put_other (fun h => e (kI_inj h).symm)]
    exact h2 q
end Go.Proofs.YtcfkemchekmjbaaGreatDoor
