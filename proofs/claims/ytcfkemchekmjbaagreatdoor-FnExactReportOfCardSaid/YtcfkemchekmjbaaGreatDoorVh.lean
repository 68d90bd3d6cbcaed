/- Merged (what the law reaches): HistM, HistI. -/
import Derived.Test.YtcfkemchekmjbaaGreatDoorVg
import Derived.Maps.OwnSet
import Derived.Maps.OwnOps
import Derived.ProofKit
import Derived.DeepKeys4
namespace Go.Proofs.YtcfkemchekmjbaaGreatDoor
open Go.RowKit Go.Maps
def RVw : Value → Option (DataW Value × List MemPlace) := fun v => some (.held v, [])
theorem laidOutW : laidOutB Tryz.prog = true := by kernel_rfl
set_option maxRecDepth 100000 in
theorem rowWr : (136 : TypeId) < Tryz.prog.types.size := of_decide_eq_true (by kernel_rfl)
set_option maxRecDepth 100000 in
theorem wideWr : (match Tryz.prog.underlying 136 with | some (.array _ _) | some (.struct _) => true | _ => false) = true := by rw [Tryz.underlying136]
set_option maxRecDepth 100000 in
theorem lawWr : Keyed Tryz.prog 136 := Keyed.of_law (deep_law_laid laidOutW (m := 2) (by omega) rowWr (by kernel_rfl) wideWr)
set_option maxRecDepth 100000 in
theorem keyWr (f c : Int) (hf : (Lit.int .i64 f).wf = true) (hc : (Lit.int .i64 c).wf = true) : keyOf Tryz.prog 136 (.agg #[.int .i64 f, .int .i64 c]) = some (.string (keyBytes [.int .i64 f, .int .i64 c])) := by
  have u := Tryz.underlying136
  have u3 := Tryz.underlying3
  have k1 : Tryz.prog.keyType 136 = true := by kernel_rfl
  have c1 : Tryz.prog.cellsOf 136 = 2 := by kernel_rfl
  have c2 : Tryz.prog.cellsOf 3 = 1 := by kernel_rfl
  have k2 : Value.formed Tryz.prog 136 (.agg #[.int .i64 f, .int .i64 c]) = true := by simp [Value.formed, u, c1]
  have hs : ∃ m, Tryz.prog.types.size + 1 = m + 2 := ⟨Tryz.prog.types.size - 1, by have h : 0 < Tryz.prog.types.size := Nat.lt_of_le_of_lt (Nat.zero_le _) rowWr; omega⟩
  obtain ⟨m, hm⟩ := hs
  unfold keyOf
  simp only [u, k1, k2, hm]
  simp [Program.keyLits, u, u3, c1, c2, hf, hc, Value.cells]
theorem zeroI (w : World) : (zeroValue 3).run Tryz.prog w = .ok (.int .i64 0) w := by kernel_rfl
def klW (q : Int × Int) : Lit := .string (keyBytes [.int .i64 q.1, .int .i64 q.2])
def wfW (q : Int × Int) : Prop := (Lit.int .i64 q.1).wf = true ∧ (Lit.int .i64 q.2).wf = true
set_option maxRecDepth 100000 in
theorem klW_inj {q q' : Int × Int} (h : wfW q) (h' : wfW q') (he : klW q = klW q') : q = q' := by
  have e := keyOf_inj_deep (P := Tryz.prog) (m := 2) (k := 136) (by kernel_rfl) wideWr (keyWr q.1 q.2 h.1 h.2) ((keyWr q'.1 q'.2 h'.1 h'.2).trans (congrArg some he.symm))
  simp at e
  exact Prod.ext e.1 e.2
def Wrote (w : World) (b n : Nat) (ws : List (Int × Int)) : Prop :=
  ∃ D : DataW Value, w.ownsMap Tryz.prog 136 RVw b n D ∧ (∀ q, wfW q → Maps.has D (klW q) = decide (q ∈ ws))
theorem Wrote.zero (w : World) : Wrote (w.alloc (.map #[] 0)) w.heap.size 0 [] :=
  ⟨_, World.ownsMap_made w _ _ _, fun _ _ => rfl⟩
theorem Wrote.lt {w : World} {b n : Nat} {os : List (Int × Int)} (h : Wrote w b n os) : b < w.heap.size := by obtain ⟨D, ho, _⟩ := h; exact ho.lt
theorem Wrote.below {w w' : World} {b n : Nat} {os : List (Int × Int)} (h : Wrote w b n os) (hb : Below w.heap.size w w') : Wrote w' b n os := by
  obtain ⟨D, ho, h2⟩ := h
  have hlt := ho.lt
  obtain ⟨es, cl, h3, h4⟩ := ho
  exact ⟨D, ⟨es, cl, (hb.block b hlt).trans h3, h4⟩, h2⟩
theorem Wrote.alloc {w : World} {b n : Nat} {os : List (Int × Int)} (h : Wrote w b n os) (o : Obj) : Wrote (w.alloc o) b n os := h.below ((Below.refl _ _).alloc (Nat.le_refl _) _)
theorem Wrote.mono {w : World} {b n m : Nat} {os : List (Int × Int)} (h : Wrote w b n os) (hm : n ≤ m) : Wrote w b m os := by
  obtain ⟨D, h1, h2⟩ := h; exact ⟨D, h1.mono hm, h2⟩
theorem Wrote.step {w' : World} {b n : Nat} {ws : List (Int × Int)} {q0 : Int × Int} {x : DataW Value} {D : DataW Value} (hm : IsMap D)
    (h2 : ∀ q, wfW q → Maps.has D (klW q) = decide (q ∈ ws)) (hq : wfW q0) (h : w'.ownsMap Tryz.prog 136 RVw b n (D.put (klW q0) x)) : Wrote w' b n (ws ++ [q0]) := by
  refine ⟨_, h, fun q hqw => ?_⟩
  by_cases e : q = q0
  · subst e
    rw [has_put_same hm (show Go.WideAt.IsKeyLit (klW _) from trivial)]; simp
  · rw [has_put_other (fun h => e (klW_inj hqw hq h)), h2 q hqw]; simp [e]
end Go.Proofs.YtcfkemchekmjbaaGreatDoor

namespace Go.Proofs.YtcfkemchekmjbaaGreatDoor
open Go.RowKit Go.Maps
theorem run_make_J0 (c : Nat) (hc : c ≤ 1048576) (w : World) :
    (Instr.makeSlice 24 (.int .i64 0) (.int .i64 (c : Int))).run Tryz.prog w = .ok (.slice (some ⟨w.heap.size, 0, none⟩) 0 c) (w.alloc (.cells (madeCells #[.int .i64 0] c) 3)) := by
  obtain ⟨i, hi, hz, hs, hb⟩ := info_parts intInfo
  have := run_make_rowN 24 3 i (.int .i64 0) Tryz.underlying24 hi hz .i64 .i64 0 c (Nat.zero_le _) (by rw [hb]; omega) (by omega) w
  rw [hs, Nat.mul_one] at this
  exact this
theorem own_J0 (w : World) (c : Nat) (hc : c ≤ 1048576) : OI (w.alloc (.cells (madeCells #[.int .i64 0] c) 3)) w.heap.size (.slice (some ⟨w.heap.size, 0, none⟩) 0 c) 0 [] :=
  ⟨⟨rfl, .inr ⟨w.heap.size, c, _, rfl, Nat.le_refl _, Blk.new w _ _, Nat.zero_le _, by simp [maxLen]; omega, by simp [madeCells], by simp⟩⟩, by omega⟩
set_option maxRecDepth 100000 in
set_option maxHeartbeats 16000000 in
theorem writers_c {A : Option Addr} {n c : Nat} {ts : List Tx} {w : World} (hr : RTs w A n ts) (hn : n ≤ 6) (hv : ∀ t ∈ ts, txnB t = true) :
    Calls Tryz.prog 54 #[.slice A n c] w fun e w' => ∃ m, e = .returned (.tuple #[m, .bool (decide ((wl (allOps ts)).Nodup))]) ∧ Below w.heap.size w w' := by
  have hl := hide hr.1
  have hmk := fun (v : World) => run_makeMap (P := Tryz.prog) 92 v
  have M0 := Wrote.zero w
  have B0 : Below w.heap.size w (w.alloc (.map #[] 0)) := (Below.refl _ _).alloc (Nat.le_refl _) _
  go_enter Tryz.func54, Tryz.ntmps54
  go_wp2_with fail
  go_loopw [15] (fun i wr => ∃ k : Nat, k ≤ n ∧ i = .int .i64 k ∧ (wl (opsTo ts k 0)).Nodup ∧ Wrote wr w.heap.size (k * 6) (wl (opsTo ts k 0)) ∧ Below w.heap.size w wr) (fun i _ => n - (intOf i).toNat)
  case atStart => exact ⟨0, Nat.zero_le _, rfl, by rw [opsTo_zero]; exact List.Pairwise.nil, by rw [opsTo_zero]; exact M0, B0⟩
  case round =>
    clear M0 B0
    obtain ⟨k, hk, rfl, hnd, hwr, bw⟩ := hrel
    have HND := hide hnd; have HW := hide hwr; clear hnd hwr
    have hz1 := HW.out.lt
    by_cases hkn : k < n
    · obtain ⟨b, off, f, ys, dn, B, kk, d, rfl, hbb, hx, q0, q1, q2, hkd, hdm, hri⟩ := hr.at_ hkn
      have e0 := (bw.cell (p := ⟨b, off + k * 3, none⟩) hbb).trans q0
      have e1 := (bw.cell (p := ⟨b, off + k * 3 + 1, none⟩) hbb).trans q1
      have e2 := (bw.cell (p := ⟨b, off + k * 3 + 2, none⟩) hbb).trans q2
      have htx := hv _ (List.mem_of_getElem? hx)
      have HTX := hide htx
      have hyl := hide hri.len
      have h6 : kk ≤ 6 := by have := txnB_lenH htx; rw [hyl.out] at this; exact this
      have HX := hide hx
      have k0 : (0 : Int) ≤ k := by omega
      have k2 : (k : Int) < n := by omega
      have K1 := Blk.new wr 66 #[.int .i64 f, .slice B kk d, .bool dn]
      have HW1 := hide (HW.out.alloc (.cells #[.int .i64 f, .slice B kk d, .bool dn] 66))
      have HB1 := hide (bw.alloc bw.size (.cells #[.int .i64 f, .slice B kk d, .bool dn] 66))
      obtain ⟨g0, g1, g2⟩ := K1.three
      clear q0 q1 q2 hx htx K1
      go_wp2_with fail
      go_loopw [23] (fun i wr2 => ∃ j : Nat, j ≤ kk ∧ i = .int .i64 j ∧ (wl (opsTo ts k j)).Nodup ∧ Wrote wr2 w.heap.size (k * 6 + j) (wl (opsTo ts k j)) ∧ Below w.heap.size w wr2) (fun i _ => kk - (intOf i).toNat)
      case atStart => exact ⟨0, Nat.zero_le _, rfl, HND.out, HW1.out, HB1.out⟩
      case round =>
        clear HW1 HB1 g0 g1 g2 e0 e1 e2 HW HND
        rename World => wr2
        obtain ⟨j, hj, rfl, hnd, hwr, bw2⟩ := hrel
        have HND := hide hnd; have HW := hide hwr; clear hnd hwr
        by_cases hjk : j < kk
        · obtain ⟨b2, off2, x, y, z, rfl, hbb2, hx2, p0, p1, p2⟩ := hri.at_ hjk
          have a0 := (bw2.cell (p := ⟨b2, off2 + j * 3, none⟩) hbb2).trans p0
          have a1 := (bw2.cell (p := ⟨b2, off2 + j * 3 + 1, none⟩) hbb2).trans p1
          have a2 := (bw2.cell (p := ⟨b2, off2 + j * 3 + 2, none⟩) hbb2).trans p2
          have hop := txnB_opH HTX.out hx2
          unfold opB at hop
          simp only [Bool.and_eq_true, inB_iff] at hop
          obtain ⟨ho1, ho2, ho3, _⟩ := hop
          have hwq : wfW (y, z) := ⟨WalkArith.wf_i64 (by dsimp only; omega), WalkArith.wf_i64 (by dsimp only; omega)⟩
          have HWQ := hide hwq
          have HKO := hide (keyWr y z hwq.1 hwq.2)
          have HX2 := hide hx2
          have j0 : (0 : Int) ≤ j := by omega
          have j2 : (j : Int) < kk := by omega
          have b8 : Below w.heap.size w (wr2.alloc (.cells #[.int .i64 x, .int .i64 y, .int .i64 z] 61)) := bw2.alloc bw2.size _
          have b9 : Below w.heap.size w ((wr2.alloc (.cells #[.int .i64 x, .int .i64 y, .int .i64 z] 61)).alloc (.cells #[.int .i64 y, .int .i64 z] 136)) := b8.alloc b8.size _
          have K8 := (Blk.new wr2 61 #[.int .i64 x, .int .i64 y, .int .i64 z]).alloc (.cells #[.int .i64 y, .int .i64 z] 136)
          have K9 := Blk.new (wr2.alloc (.cells #[.int .i64 x, .int .i64 y, .int .i64 z] 61)) 136 #[.int .i64 y, .int .i64 z]
          simp only [World.size_alloc] at K9
          have HW9 := hide ((HW.out.alloc (.cells #[.int .i64 x, .int .i64 y, .int .i64 z] 61)).alloc (.cells #[.int .i64 y, .int .i64 z] 136))
          obtain ⟨D, hown, hD⟩ := HW9.out
          have hhas := hD (y, z) hwq
          have HH := hide hhas
          have HK8 := hide K8; have HK9 := hide K9; have HB9 := hide b9
          clear hwq ho1 ho2 ho3 hx2 p0 p1 p2 hD hhas b8 b9 K8 K9
          by_cases hx : x = 2
          · subst hx
            by_cases hm : (y, z) ∈ wl (opsTo ts k j)
            · have hf : decide ((wl (allOps ts)).Nodup) = false := decide_eq_false (histB_twice HX.out HX2.out rfl hm)
              have F := hide hf
              have HT := hide (HH.out.trans (decide_eq_true hm))
              clear hf hm
              go_wp2_with (at_lookup; refine wpList_lookup_own_ok _ rfl _ _ 92 rfl 136 3 lawWr Tryz.underlying92 RVw (zeroI _) (.held (.int .i64 0)) [] rfl w.heap.size (k * 6 + j) D rfl hown _ _ rfl HKO.out ?_; intro vv pp hvv; clear hvv; rw [show Maps.has D (.string (keyBytes [.int .i64 y, .int .i64 z])) = true from HT.out])
              refine (writesOp_c).mono ?_
              rintro e w3 ⟨rfl, b3⟩
              rw [show ((2 : Int) == 2) = true by rfl]
              go_wp2_with fail
              refine bodyPost_ret (v := .tuple #[.map none, .bool false]) (by simp [results, Tryz.results54, go_sem]) rfl ⟨_, by rw [F.out], below_step HB9.out b3⟩
            · have hn' := nodup_snoc HND.out hm
              rw [← wl_step_w HX.out HX2.out rfl] at hn'
              have HN' := hide hn'
              have HT := hide (HH.out.trans (decide_eq_false hm))
              clear hn' hm
              go_wp2_with (at_lookup; refine wpList_lookup_own_ok _ rfl _ _ 92 rfl 136 3 lawWr Tryz.underlying92 RVw (zeroI _) (.held (.int .i64 0)) [] rfl w.heap.size (k * 6 + j) D rfl hown _ _ rfl HKO.out ?_; intro vv pp hvv; clear hvv; rw [show Maps.has D (.string (keyBytes [.int .i64 y, .int .i64 z])) = false from HT.out])
              refine (writesOp_c).mono ?_
              rintro e w3 ⟨rfl, b3⟩
              rw [show ((2 : Int) == 2) = true by rfl]
              have B3 := below_step HB9.out b3
              have K83 := HK8.out.belowAll b3
              have K93 := HK9.out.belowAll b3
              have HW3 := hide (HW9.out.below b3)
              obtain ⟨f0, f1, f2⟩ := K83.three
              go_wp2_with fail
              refine (writesOp_c).mono ?_
              rintro e w4 ⟨rfl, b4⟩
              rw [show ((2 : Int) == 2) = true by rfl]
              have B4 := below_step B3 b4
              have K94 := K93.belowAll b4
              obtain ⟨D2, hown2, hD2⟩ := HW3.out.below b4
              have HM2 := hide hown2.isMap
              have HD2 := hide hD2
              obtain ⟨f3, f4, _, _⟩ := K94.two
              clear hD2 f0 f1 f2 hown D HH HT
              go_wp2_with (at_mapUpdate; refine wpList_mapUpdate_own _ rfl _ _ _ 92 rfl 136 3 lawWr Tryz.underlying92 RVw w.heap.size (k * 6 + j) D2 rfl hown2 (by unfold maxLen; omega) _ _ _ rfl rfl HKO.out _ [] rfl ?_; intro w5 hown5 hgrow5)
              go_roundw
              case rel => exact ⟨j + 1, by omega, by go_num, HN'.out, by rw [wl_step_w HX.out HX2.out rfl]; exact Wrote.step HM2.out HD2.out HWQ.out hown5, B4.grown hgrow5 B4.size (fun j e => by cases e; exact Nat.le_refl _)⟩
              case measure => simp [intOf]; omega
          · have hxb : (x == 2) = false := by simpa using hx
            have hs := wl_step_r HX.out HX2.out hx
            have HS := hide hs; have HXB := hide hxb
            clear hs hxb hx
            go_wp2_with (at_lookup; refine wpList_lookup_own_ok _ rfl _ _ 92 rfl 136 3 lawWr Tryz.underlying92 RVw (zeroI _) (.held (.int .i64 0)) [] rfl w.heap.size (k * 6 + j) D rfl hown _ _ rfl HKO.out ?_; intro vv pp hvv; clear hvv)
            refine (writesOp_c).mono ?_
            rintro e w3 ⟨rfl, b3⟩
            rw [HXB.out]
            have B3 := below_step HB9.out b3
            have K83 := HK8.out.belowAll b3
            have HW3 := hide (HW9.out.below b3)
            obtain ⟨f0, f1, f2⟩ := K83.three
            go_wp2_with fail
            refine (writesOp_c).mono ?_
            rintro e w4 ⟨rfl, b4⟩
            rw [HXB.out]
            have B4 := below_step B3 b4
            have HW4 := hide (HW3.out.below b4)
            clear f0 f1 f2
            go_wp2_with fail
            go_roundw
            case rel => exact ⟨j + 1, by omega, by go_num, by rw [HS.out]; exact HND.out, by rw [HS.out]; exact HW4.out.mono (by omega), B4⟩
            case measure => simp [intOf]; omega
        · obtain rfl : j = kk := by omega
          have hnx := opsTo_next HX.out (show ys.length ≤ j by rw [hyl.out]; omega)
          have HNX := hide hnx; clear hnx
          go_wp2_with fail
          go_roundw
          case rel => exact ⟨k + 1, by omega, by go_num, by rw [HNX.out]; exact HND.out, by rw [HNX.out]; exact HW.out.mono (by omega), bw2⟩
          case measure => simp [intOf]; omega
    · obtain rfl : k = n := by omega
      have hall := opsTo_all (show ts.length ≤ k by rw [hl.out]; omega)
      have hf : decide ((wl (allOps ts)).Nodup) = true := decide_eq_true (by rw [← hall]; exact HND.out)
      have F := hide hf; clear hall hf
      go_wp2_with fail
      refine bodyPost_ret (v := .tuple #[.map (some w.heap.size), .bool true]) (by simp [results, Tryz.results54, go_sem]) rfl ⟨_, by rw [F.out], bw⟩
set_option maxRecDepth 100000 in
set_option maxHeartbeats 4000000 in
theorem impl_HistoryValid_c {A : Option Addr} {n c : Nat} {ts : List Tx} {w : World} (hr : RTs w A n ts) (hn : n ≤ 1048576) (hsm : SmallT ts) :
    Calls Tryz.prog 14 #[.slice A n c] w fun e w' => e = .returned (.bool (histB ts)) ∧ Below w.heap.size w w' := by
  have hl := hide hr.1
  have hC : ∀ {W : World}, RTs W A n ts → Calls Tryz.prog 51 #[.slice A n c, .func (.func 52) #[] #[]] W fun e w' => e = .returned (.bool (ts.any (fun e => !txnB e))) ∧ Below W.heap.size W w' := fun {W} hW => by
    go_enter Tryz.func51, Tryz.ntmps51
    go_wp2_with fail
    refine (IndexFunc_Txn_c hW hn hsm).mono ?_
    rintro e w2 ⟨i, rfl, hi, b2⟩
    have Hi := hide hi; clear hi
    go_wp2_with fail
    go_ret
    exact ⟨by rw [← Hi.out]; rfl, b2⟩
  by_cases h4 : n ≤ 6
  · have hd : ¬ ((6 : Int) < n) := by omega
    cases hany : ts.any (fun e => !txnB e)
    · have hall : ∀ t ∈ ts, txnB t = true := fun t ht => by
        have := List.any_eq_false.1 hany t ht
        simpa using this
      have hf : histB ts = decide ((wl (allOps ts)).Nodup) := by
        unfold histB; rw [hl.out, List.all_eq_true.2 hall]; simp [h4]
      have F := hide hf; have HA := hide hall; have HY := hide hany; clear hf hall hany
      go_enter Tryz.func14, Tryz.ntmps14
      go_wp2_with fail
      refine (hC hr).mono ?_
      rintro e w2 ⟨rfl, b2⟩
      rw [HY.out]
      go_wp2_with fail
      refine (writers_c (hr.below b2) h4 HA.out).mono ?_
      rintro e w3 ⟨m, rfl, b3⟩
      go_wp2_with fail
      go_ret
      exact ⟨by rw [F.out]; rfl, below_step b2 b3⟩
    · have hf : histB ts = false := by
        obtain ⟨t, ht, h⟩ := List.any_eq_true.1 hany
        have h1 : ts.all txnB = false := by rw [List.all_eq_false]; exact ⟨t, ht, by simpa using h⟩
        simp [histB, h1]
      have F := hide hf; have HY := hide hany; clear hf hany
      go_enter Tryz.func14, Tryz.ntmps14
      go_wp2_with fail
      refine (hC hr).mono ?_
      rintro e w2 ⟨rfl, b2⟩
      rw [HY.out]
      go_wp2_with fail
      go_ret
      exact ⟨by rw [F.out]; rfl, b2⟩
  · have hf : histB ts = false := by unfold histB; rw [hl.out]; simp [h4]
    have F := hide hf; clear hf
    go_enter Tryz.func14, Tryz.ntmps14
    go_wp2_with fail
    go_ret
    exact ⟨by rw [F.out]; rfl, Below.refl _ _⟩
set_option maxRecDepth 100000 in
set_option maxHeartbeats 4000000 in
theorem impl_done_c {A : Option Addr} {n c : Nat} {ts : List Tx} {w : World} (hr : RTs w A n ts) (hn : n ≤ 1000) :
    Calls Tryz.prog 48 #[.slice A n c] w (RetI w (doneL ts)) := by
  have hl := hide hr.1
  have hmk := run_make_J0 n (by omega)
  have o1 := own_J0 w n (by omega)
  have B1 : Below w.heap.size w (w.alloc (.cells (madeCells #[.int .i64 0] n) 3)) := (Below.refl _ _).alloc (Nat.le_refl _) _
  have HO := hide o1; have HB := hide B1
  clear o1 B1
  go_enter Tryz.func48, Tryz.ntmps48
  go_wp2_with fail
  go_loopw [3, 11] (fun s i wr => ∃ k : Nat, i = .int .i64 k ∧ k ≤ n ∧ OI wr w.heap.size s (doneTo ts k).length (doneTo ts k) ∧ Below w.heap.size w wr) (fun _ i _ => n - (intOf i).toNat)
  case atStart => exact ⟨0, rfl, Nat.zero_le _, HO.out, HB.out⟩
  case round =>
    clear HO HB
    obtain ⟨k, rfl, hk, ho, bw⟩ := hrel
    obtain ⟨Ao, co, rfl⟩ := ho.shape
    have HO := hide ho; have HB := hide bw
    have hol := doneTo_len ts k
    clear ho
    by_cases hkn : k < n
    · obtain ⟨b, off, f, ys, dn, B, kk, d, rfl, hbb, hx, q0, q1, q2, hkd, hdm, hri⟩ := hr.at_ hkn
      have e0 := (bw.cell (p := ⟨b, off + k * 3, none⟩) hbb).trans q0
      have e1 := (bw.cell (p := ⟨b, off + k * 3 + 1, none⟩) hbb).trans q1
      have e2 := (bw.cell (p := ⟨b, off + k * 3 + 2, none⟩) hbb).trans q2
      have k0 : (0 : Int) ≤ k := by omega
      have k2 : (k : Int) < n := by omega
      have HX := hide hx
      clear hx q0 q1 q2 hri bw
      cases dn
      · have hno := doneTo_no HX.out rfl
        have HN := hide hno; clear hno
        have oA := HO.out.below ((Below.refl wr.heap.size wr).alloc (Nat.le_refl _) (.cells #[.int .i64 f, .slice B kk d, .bool false] 66))
        have HOA := hide oA
        have HBA := hide (HB.out.alloc HB.out.size (.cells #[.int .i64 f, .slice B kk d, .bool false] 66))
        clear oA
        go_wp2_with fail
        go_roundw
        case rel => exact ⟨k + 1, by go_num, by omega, by rw [HN.out]; exact HOA.out, HBA.out⟩
        case measure => simp [intOf]; omega
      · have hyes := doneTo_yes HX.out rfl
        have HY := hide hyes; clear hyes
        have o4 := (HO.out.alloc (.cells #[.int .i64 f, .slice B kk d, .bool true] 66)).alloc (.cells #[.int .i64 (k : Int)] 3)
        have HB4 := hide ((HB.out.alloc HB.out.size (.cells #[.int .i64 f, .slice B kk d, .bool true] 66)).alloc (by have := HB.out.size; simp; omega) (.cells #[.int .i64 (k : Int)] 3))
        have s4 := SI.one (wr.alloc (.cells #[.int .i64 f, .slice B kk d, .bool true] 66)) (k : Int) 1 (Nat.le_refl _)
        simp only [World.size_alloc] at s4
        have hln : (doneTo ts k).length + 1 ≤ 1048576 := by omega
        have hbz : w.heap.size ≤ ((wr.alloc (.cells #[.int .i64 f, .slice B kk d, .bool true] 66)).alloc (.cells #[.int .i64 (k : Int)] 3)).heap.size := by
          have := HB.out.size; simp; omega
        go_wp2_with (at_builtin; refine wpList_appI rfl _ _ rfl rfl o4 rfl s4 hln hbz ?_; intro v5 w5 h5 hg5 hat)
        go_roundw
        case rel => exact ⟨k + 1, by go_num, by omega, by rw [HY.out, List.length_append]; exact h5, HB4.out.grown hg5 HB4.out.size (fun q hq => (World.ownsRow.lt HO.out.1 q hq).1)⟩
        case measure => simp [intOf]; omega
    · obtain rfl : k = n := by omega
      have hf : doneTo ts k = doneL ts := by unfold doneL; rw [hl.out]
      go_wp2_with fail
      go_ret
      exact ⟨_, _, rfl, by rw [← hf]; exact HO.out, HB.out⟩
def doneV (ts : List Tx) : List Int := if histB ts then doneL ts else []
end Go.Proofs.YtcfkemchekmjbaaGreatDoor
