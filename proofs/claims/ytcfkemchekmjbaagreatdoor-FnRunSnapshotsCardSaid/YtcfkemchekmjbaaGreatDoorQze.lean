/- Merged (what the law reaches): Nxt, Fse, HistS, SerF. -/
import Derived.Test.YtcfkemchekmjbaaGreatDoorQzd
import Derived.Deep.DeepCutAuto
import Derived.BigRegion
import Derived.BigQuiet
import Derived.Deep.RegionHeld3
namespace Go.Proofs.YtcfkemchekmjbaaGreatDoor
open Go.RowKit
/-- A box with a state. -/
def SsB (w : World) (b : Nat) (S : SS) : Prop := ∃ g c, Blk w b 88 (ssC (flS S) g c) ∧ MaskN g S.bg ∧ MaskN c S.co
theorem SsB.below {w w' : World} {b : Nat} {S : SS} (h : SsB w b S) (hb : Below w.heap.size w w') : SsB w' b S := by
  obtain ⟨g, c, h1, h2⟩ := h; exact ⟨g, c, h1.belowAll hb, h2⟩
def NxtR (wb w : World) (b : Nat) (ts : List Tx) (S : SS) (n : Nat) (e : Ending) (w' : World) : Prop :=
  Below wb.heap.size wb w' ∧ Chg (fun k => k = b) w w' ∧ ((nxt ts S n = none ∧ e = .returned (.bool false)) ∨ ∃ S', nxt ts S n = some S' ∧ e = .returned (.bool true) ∧ SsB w' b S')
theorem SsO.begin {S : SS} (h : SsO S) (m : Nat) : SsO { S with bg := S.bg ++ [m], beg := S.beg.set m S.ver } :=
  ⟨h.st3, h.ver3, by simp [h.beg6], fun x hx => by
    rcases List.mem_or_eq_of_mem_set hx with h1 | rfl
    · exact h.bgl x h1
    · exact h.ver3⟩
theorem SsO.part {S : SS} (h : SsO S) (ys : List T3) (j : Nat) (co : List Nat) : SsO ⟨commitTo ys S.st j, bumpTo S.ver (lastW ys) j, S.beg, S.bg, co⟩ :=
  ⟨(commitTo_len ys S.st j).trans h.st3, (bumpTo_len S.ver (lastW ys) j).trans h.ver3, h.beg6, h.bgl⟩
set_option maxRecDepth 100000 in
set_option maxHeartbeats 4000000 in
theorem next_c {A : Option Addr} {n0 c : Nat} {ts : List Tx} {S : SS} {wb w : World} {b m : Nat} (hr : RTs wb A n0 ts) (h6 : n0 ≤ 6) (hv : ∀ t ∈ ts, txnB t = true) (hm : m < n0) (hO : SsO S) (hvb : ∀ key : Nat, 0 ≤ S.ver.getD key 0 ∧ S.ver.getD key 0 ≤ 1000)
    (bw : Below wb.heap.size wb w) (hb : wb.heap.size ≤ b) (hB : SsB w b S) :
    Calls Tryz.prog 50 #[.pointer (some ⟨b, 0, none⟩), .slice A n0 c, .int .i64 (m : Int)] w (NxtR wb w b ts S m) := by
  obtain ⟨g, cm, hK, hg, hc⟩ := hB
  have hl := hide hr.1
  obtain ⟨bt, ot, f, ys, dn, B, kk, dd, rfl, hbt, hxt, q0, q1, q2, hkd, hdm, hry⟩ := hr.at_ hm
  have htx := hide (txAt_get hxt)
  have hv1 := hide (hv _ (List.mem_of_getElem? hxt))
  have e0 := (bw.cell (p := ⟨bt, ot + m * 3, none⟩) hbt).trans q0
  have e1 := (bw.cell (p := ⟨bt, ot + m * 3 + 1, none⟩) hbt).trans q1
  have e2 := (bw.cell (p := ⟨bt, ot + m * 3 + 2, none⟩) hbt).trans q2
  have cc := (hK.cell 25).trans (ssC_c hO.len)
  have cg := (hK.cell 24).trans (ssC_g hO.len)
  have fg := hK.frozen 24
  have fc := hK.frozen 25
  have hm6 : m < 6 := by omega
  have hin : inB (m : Int) 0 ((n0 : Int) - 1) = true := (inB_iff _ _ _).2 (by omega)
  have hwr : IntKind.i64.wrap ((n0 : Int) - 1) = (n0 : Int) - 1 := by rw [IntKind.wrap_i64]; omega
  have m0 : (0 : Int) ≤ m := by omega
  have m1 : (m : Int) < n0 := by omega
  have m63 : (m : Int) < 64 := by omega
  have HK := hide hK; have HBW := hide bw; have Q0 := hide q0; have Q1 := hide q1; have Q2 := hide q2
  have stop : ∀ W, w = W → nxt ts S m = none → NxtR wb w b ts S m (.returned (.bool false)) W := fun W e h => by
    subst e; exact ⟨bw, ⟨rfl, rfl, rfl, Nat.le_refl _, fun _ _ _ => rfl⟩, .inl ⟨h, rfl⟩⟩
  have ST := hide stop
  clear stop
  cases dn
  · have hn := hide (nxt_off (ts := ts) (S := S) (n := m) (fun h => by rw [htx.out] at h; cases h.1))
    clear cc cg hxt q0 q1 q2
    go_enter Tryz.func50, Tryz.ntmps50
    go_wp2_with fail
    refine (within_c).mono ?_
    rintro e w2 ⟨rfl, rfl⟩
    rw [hin]
    go_wp2_with fail
    go_ret
    exact ST.out _ rfl hn.out
  · have hd : (txAt ts m).2.2 = true := by rw [htx.out]
    by_cases hco : m ∈ S.co
    · have hb1 : (bits .and .u64 (cm : Int) (IntKind.u64.wrap (2 ^ m)) != 0) = true := by simpa using hc.yes hm6 hco
      have hn := hide (nxt_off (ts := ts) (S := S) (n := m) (fun h => h.2 hco))
      clear cg hxt q0 q1 q2 hco hc hg
      go_enter Tryz.func50, Tryz.ntmps50
      go_wp2_with fail
      refine (within_c).mono ?_
      rintro e w2 ⟨rfl, rfl⟩
      rw [hin]
      go_wp2_with fail
      go_ret
      exact ST.out _ rfl hn.out
    · have hb1 : (bits .and .u64 (cm : Int) (IntKind.u64.wrap (2 ^ m)) != 0) = false := by simpa using hc.no hm6 hco
      have HCO := hide hco; have HC := hide hc; have HG := hide hg; have HD := hide hd
      by_cases hbg : m ∈ S.bg
      · have hb2 : (bits .and .u64 (g : Int) (IntKind.u64.wrap (2 ^ m)) == 0) = false := by simpa using hg.yes hm6 hbg
        have hn := nxt_commit hd hco hbg
        rw [htx.out] at hn
        have HN := hide hn
        obtain ⟨W1, hW1⟩ : ∃ q, w.setCell ⟨b, 25, none⟩ (.int .u64 (bits .or .u64 (cm : Int) (IntKind.u64.wrap (2 ^ m)))) = q := ⟨_, rfl⟩
        have K1 := hK.set_ 25 (.int .u64 (bits .or .u64 (cm : Int) (IntKind.u64.wrap (2 ^ m))))
        rw [maskN_or hc.1 hm6, ssC_setc _ hO.len] at K1
        rw [← maskN_or hc.1 hm6, hW1] at K1
        have C1 : Chg (fun k => k = b) w W1 := by rw [← hW1]; exact Chg.setCell (S := fun k => k = b) (p := ⟨b, 25, none⟩) rfl _
        have HK1 := hide K1; have HW1 := hide hW1; have HC1 := hide C1
        have HVB := hide hvb
        clear hxt q0 q1 q2 hco hbg hc hg hn K1 hW1 C1 hvb
        go_enter Tryz.func50, Tryz.ntmps50
        go_wp2_with fail
        refine (within_c).mono ?_
        rintro e w2 ⟨rfl, rfl⟩
        rw [hin]
        go_upto_region 15 with fail
        rw [HW1.out]
        have B1 := Chg.below HBW.out HC1.out (fun k hk => by subst hk; exact hb)
        clear e0 e1 e2 cc cg
        have e0 := (B1.cell (p := ⟨bt, ot + m * 3, none⟩) hbt).trans Q0.out
        have e1 := (B1.cell (p := ⟨bt, ot + m * 3 + 1, none⟩) hbt).trans Q1.out
        have e2 := (B1.cell (p := ⟨bt, ot + m * 3 + 2, none⟩) hbt).trans Q2.out
        have h6y : kk ≤ 6 := by have h1 := txnB_lenH hv1.out; have h2 := hry.len; omega
        have s3 : S3 W1 (.slice B kk dd) kk ys := (S3.of_args hkd (by omega) hry).below B1
        go_wp2_with fail
        refine (impl_lastWrites_c s3 hv1.out).mono ?_
        rintro e w5 ⟨r5, k5, rfl, o5, b5⟩
        obtain ⟨A5, c5, rfl⟩ := o5.shape
        have hl5 := hide o5.len
        have k53 : k5 ≤ 3 := by rw [← o5.len]; exact lastW_len ys
        have O5 := hide o5
        have HC5 := hide (HC1.out.trans (Chg.of_below b5)); have HK5 := hide (HK1.out.belowAll b5)
        have hws : ∀ o ∈ lastW ys, 0 ≤ o.2.1 ∧ o.2.1 ≤ 2 := fun o ho => by
          obtain ⟨i, hi⟩ := List.getElem?_of_mem (lastW_mem ho).1
          have := txnB_opH hv1.out hi
          unfold opB at this
          simp only [Bool.and_eq_true, inB_iff] at this
          exact this.2.1
        have HWS := hide hws
        clear e0 e1 e2 s3 o5 b5 B1 hws
        go_wp2_with fail
        go_loopw [98] (fun i W => ∃ j : Nat, i = .int .i64 j ∧ j ≤ k5 ∧ goodTo S.ver (S.beg.getD m []) (lastW ys) j = true ∧ Blk W b 88 (ssC (flS ⟨commitTo ys S.st j, bumpTo S.ver (lastW ys) j, S.beg, S.bg, S.co ++ [m]⟩) g (cm ||| 2 ^ m)) ∧ O3 61 W W1.heap.size (.slice A5 k5 c5) k5 (lastW ys) ∧ Chg (fun k => k = b) w W) (fun i _ => k5 - (intOf i).toNat)
        case atStart => exact ⟨0, rfl, Nat.zero_le _, rfl, HK5.out, O5.out, HC5.out⟩
        case round =>
          clear HK5 O5 HC5
          rename World => wr
          obtain ⟨j, rfl, hj, hgd, hK, ho, hC⟩ := hrel
          have HGD := hide hgd; have HKJ := hide hK; have HOJ := hide ho; have HCJ := hide hC
          clear hgd hK hC
          obtain ⟨A5', c5', e5, h5c, h5m, h5r⟩ := ho.s3
          obtain ⟨rfl, rfl⟩ : A5 = A5' ∧ c5 = c5' := by simpa using e5
          clear e5 ho
          by_cases hjl : j < k5
          · obtain ⟨b5, off5, x', y', z', rfl, hb5, hx, p0, p1, p2⟩ := h5r.at_ hjl
            have hy3 := HWS.out (x', y', z') (List.mem_of_getElem? hx)
            dsimp only at hy3
            obtain ⟨key, rfl⟩ : ∃ key : Nat, y' = key := ⟨y'.toNat, by omega⟩
            have hkey : key < 3 := by omega
            obtain ⟨va, hva⟩ : ∃ va, S.ver.getD key 0 = va := ⟨_, rfl⟩
            obtain ⟨ba, hba⟩ : ∃ ba, (S.beg.getD m []).getD key 0 = ba := ⟨_, rfl⟩
            have hvj : (bumpTo S.ver (lastW ys) j).getD key 0 = va := by
              have := bump_at (ver := S.ver) hx (fun o ho => (HWS.out o ho).1)
              dsimp only at this
              rw [Int.toNat_natCast] at this
              rw [this]; exact hva
            have hOj := hO.part ys j (S.co ++ [m])
            have KB := (HKJ.out.alloc (.cells #[.int .i64 x', .int .i64 (key : Int), .int .i64 z'] 61))
            have ks0 := (KB.cell (3 + key)).trans (ssC_get (hOj.verAt hkey))
            have ks : (wr.alloc (.cells #[.int .i64 x', .int .i64 (key : Int), .int .i64 z'] 61)).cell? ⟨b, 3 + key, none⟩ = some (.int .i64 va) := by rw [ks0]; exact congrArg (fun q => some (Value.int .i64 q)) hvj
            have kt0 := (KB.cell (6 + m * 3 + key)).trans (ssC_get (hOj.begAt hm6 hkey))
            have kt : (wr.alloc (.cells #[.int .i64 x', .int .i64 (key : Int), .int .i64 z'] 61)).cell? ⟨b, 6 + m * 3 + key, none⟩ = some (.int .i64 ba) := by rw [kt0]; exact congrArg (fun q => some (Value.int .i64 q)) hba
            have KX := Blk.new wr 61 #[.int .i64 x', .int .i64 (key : Int), .int .i64 z']
            have k0 := KX.cell 0; have k1 := KX.cell 1; have k2 := KX.cell 2
            have HKX := hide KX; have HKB := hide KB; have HKS := hide ks
            have hgs := goodTo_succ (ver := S.ver) (beg := S.beg.getD m []) hx
            dsimp only at hgs
            rw [Int.toNat_natCast, hva, hba, HGD.out] at hgs
            have HGS := hide hgs
            have HX := hide hx; have HVA := hide hva; have HVJ := hide hvj
            have m6 : (m : Int) < 6 := by omega
            have j0 : (0 : Int) ≤ j := by omega
            have j2 : (j : Int) < k5 := by omega
            have key0 : (0 : Int) ≤ key := by omega
            have key2 : (key : Int) < 3 := by omega
            clear hx hva hba hvj KB KX h5r hy3 ks0 kt0 hgs hOj
            by_cases hne : va = ba
            · have hbn : (va != ba) = false := by simpa using hne
              have HNE := hide hne
              clear hne
              go_wp2_with fail
              go_quiet (fail)
              obtain ⟨W2, hW2⟩ : ∃ q, (wr.alloc (.cells #[.int .i64 x', .int .i64 (key : Int), .int .i64 z'] 61)).drewN nq = q := ⟨_, rfl⟩
              rw [hW2]
              have B2 : Below wr.heap.size wr W2 := by rw [← hW2]; exact below_drewN ((Below.refl _ _).alloc (Nat.le_refl _) _) _
              have KX2 : Blk W2 wr.heap.size 61 #[.int .i64 x', .int .i64 (key : Int), .int .i64 z'] := by rw [← hW2]; exact HKX.out.drewN nq
              have KB2 := HKJ.out.belowAll B2
              have O2 := HOJ.out.below B2
              have C2 := HCJ.out.trans (Chg.of_below B2)
              have bne : wr.heap.size ≠ b := by have := HKJ.out.lt; omega
              obtain ⟨su, hsu⟩ : ∃ su, (flS ⟨commitTo ys S.st j, bumpTo S.ver (lastW ys) j, S.beg, S.bg, S.co ++ [m]⟩)[key]? = some su := ⟨_, (hO.part ys j (S.co ++ [m])).stAt hkey⟩
              have su2 := (KB2.cell key).trans (ssC_get hsu)
              have sf2 := KB2.frozen key
              have k1 := KX2.cell 1; have k2 := KX2.cell 2
              have HX2 := hide KX2; have HB2 := hide KB2; have HO2 := hide O2; have HC2 := hide C2
              clear k0 ks kt hW2 B2 KX2 KB2 O2 C2 hsu
              go_upto_region 20 with fail
              go_region
              obtain ⟨W3, hW3⟩ : ∃ q, (W2.setCell ⟨b, key, none⟩ (.int .i64 z')).drew = q := ⟨_, rfl⟩
              rw [hW3]
              have hlen := (hO.part ys j (S.co ++ [m])).len
              have KX3 : Blk W3 wr.heap.size 61 #[.int .i64 x', .int .i64 (key : Int), .int .i64 z'] := by rw [← hW3]; exact (HX2.out.far (p := ⟨b, key, none⟩) bne _).drew
              have KB3 : Blk W3 b 88 (ssC ((flS ⟨commitTo ys S.st j, bumpTo S.ver (lastW ys) j, S.beg, S.bg, S.co ++ [m]⟩).set key z') g (cm ||| 2 ^ m)) := by
                rw [← hW3, ← ssC_set z' (by rw [hlen]; omega)]; exact (HB2.out.set_ key _).drew
              have one := fun (V : World) (i : Nat) (u : Value) (o2 : O3 61 V W1.heap.size (.slice (some ⟨b5, off5, none⟩) k5 c5) k5 (lastW ys)) (hk : ∃ cs, Blk V b 88 cs) => (show O3 61 (V.setCell ⟨b, i, none⟩ u).drew W1.heap.size (.slice (some ⟨b5, off5, none⟩) k5 c5) k5 (lastW ys) from by
                obtain ⟨cs, hk⟩ := hk
                exact (O3.grown o2 (grown_setCell (World.grownBy.refl V (some b)) (.inl rfl) u) (.inr (o3_ne o2 hk (by decide)))).below (Below.refl _ _).drew)
              have O3' := one W2 key (.int .i64 z') HO2.out ⟨_, HB2.out⟩
              rw [hW3] at O3'
              have C3 : Chg (fun k => k = b) w W3 := by
                rw [← hW3]
                exact (HC2.out.trans (Chg.setCell (S := fun k => k = b) (p := ⟨b, key, none⟩) rfl _)).trans (Chg.of_below (Below.refl _ _).drew)
              have hva3 : ((flS ⟨commitTo ys S.st j, bumpTo S.ver (lastW ys) j, S.beg, S.bg, S.co ++ [m]⟩).set key z')[3 + key]? = some va := by
                rw [List.getElem?_set_ne (by omega), (hO.part ys j (S.co ++ [m])).verAt hkey]; exact congrArg some HVJ.out
              have kv := (KB3.cell (3 + key)).trans (ssC_get hva3)
              have kf := KB3.frozen (3 + key)
              have k1' := KX3.cell 1
              have va0 : 0 ≤ va := by rw [← HVA.out]; exact (HVB.out key).1
              have va1 : va ≤ 1000 := by rw [← HVA.out]; exact (HVB.out key).2
              have HB3 := hide KB3; have HO3 := hide O3'; have HC3 := hide C3; have ONE := hide one
              clear su2 sf2 k1 k2 hW3 KX3 KB3 O3' C3 hva3 one HX2 HO2 HC2
              go_upto_region 21 with fail
              go_region
              obtain ⟨W4, hW4⟩ : ∃ q, (W3.setCell ⟨b, 3 + key, none⟩ (.int .i64 (va + 1))).drew = q := ⟨_, rfl⟩
              rw [hW4]
              have KB4 : Blk W4 b 88 (ssC (flS ⟨commitTo ys S.st (j + 1), bumpTo S.ver (lastW ys) (j + 1), S.beg, S.bg, S.co ++ [m]⟩) g (cm ||| 2 ^ m)) := by
                have e1 := commitTo_succ (st := S.st) HX.out
                have e2 := bumpTo_succ (ver := S.ver) HX.out
                dsimp only at e1 e2
                rw [Int.toNat_natCast] at e1 e2
                rw [HVJ.out] at e2
                have hP := hO.part ys j (S.co ++ [m])
                have h1 := hP.setSt hkey z'
                have h2 := SsO.setVer (S := ⟨(commitTo ys S.st j).set key z', bumpTo S.ver (lastW ys) j, S.beg, S.bg, S.co ++ [m]⟩) ⟨by simp [hP.st3], hP.ver3, hP.beg6, hP.bgl⟩ hkey (va + 1)
                dsimp only at h1 h2
                rw [e1, e2, h2, h1, ← ssC_set (va + 1) (by simp [hlen]; omega), ← hW4]
                exact (HB3.out.set_ (3 + key) _).drew
              have O4 := ONE.out W3 (3 + key) (.int .i64 (va + 1)) HO3.out ⟨_, HB3.out⟩
              rw [hW4] at O4
              have C4 : Chg (fun k => k = b) w W4 := by
                rw [← hW4]
                exact (HC3.out.trans (Chg.setCell (S := fun k => k = b) (p := ⟨b, 3 + key, none⟩) rfl _)).trans (Chg.of_below (Below.refl _ _).drew)
              have hg5 : goodTo S.ver (S.beg.getD m []) (lastW ys) (j + 1) = true := by rw [HGS.out, HNE.out]; simp
              have HG5 := hide hg5; have H4 := hide KB4; have HO4 := hide O4; have HC4 := hide C4
              clear kv kf k1' hW4 KB4 O4 C4 hg5 HB3 HO3 HC3 HB2
              go_wp2_with fail
              go_roundw
              case rel => exact ⟨j + 1, by go_num, by omega, HG5.out, H4.out, HO4.out, HC4.out⟩
              case measure => simp [intOf]; omega
            · have hbn : (va != ba) = true := by simpa using hne
              have hno : nxt ts S m = none := by
                rw [HN.out, if_neg (fun h => ?_)]
                have h1 := goodTo_part (j := j + 1) h
                rw [HGS.out] at h1
                simp at h1; exact hne h1
              have HNO := hide hno
              have CX := hide (HCJ.out.trans (Chg.of_below ((Below.refl wr.heap.size wr).alloc (Nat.le_refl _) (.cells #[.int .i64 x', .int .i64 (key : Int), .int .i64 z'] 61))))
              clear hne hno
              go_wp2_with fail
              go_quiet (fail)
              go_wp2_with fail
              go_ret
              have CY := fun n => CX.out.trans (Chg.of_below (S := fun k => k = b) (below_drewN (Below.refl _ (wr.alloc (.cells #[.int .i64 x', .int .i64 (key : Int), .int .i64 z'] 61))) n))
              exact ⟨Chg.below HBW.out (CY _) (fun k hk => by subst hk; exact hb), CY _, .inl ⟨HNO.out, rfl⟩⟩
          · obtain rfl : j = k5 := by omega
            have hyes : nxt ts S m = some ⟨commitTo ys S.st j, bumpTo S.ver (lastW ys) j, S.beg, S.bg, S.co ++ [m]⟩ := by
              have hl := hl5.out
              rw [HN.out, hl, if_pos HGD.out, commitTo_all hO.st3 hl]
            have HY := hide hyes
            clear hyes h5r
            go_wp2_with fail
            go_ret
            exact ⟨Chg.below HBW.out HCJ.out (fun k hk => by subst hk; exact hb), HCJ.out, .inr ⟨_, HY.out, rfl, _, _, HKJ.out, HG.out, HC.out.snoc hm6⟩⟩
      · have hb2 : (bits .and .u64 (g : Int) (IntKind.u64.wrap (2 ^ m)) == 0) = true := by simpa using hg.no hm6 hbg
        have hn := nxt_begin hd hco hbg
        rw [htx.out] at hn
        have HN := hide hn
        obtain ⟨W1, hW1⟩ : ∃ q, w.setCell ⟨b, 24, none⟩ (.int .u64 (bits .or .u64 (g : Int) (IntKind.u64.wrap (2 ^ m)))) = q := ⟨_, rfl⟩
        have K1 := hK.set_ 24 (.int .u64 (bits .or .u64 (g : Int) (IntKind.u64.wrap (2 ^ m))))
        rw [maskN_or hg.1 hm6, ssC_setg _ hO.len] at K1
        rw [← maskN_or hg.1 hm6, hW1] at K1
        have HK1 := hide K1; have HW1 := hide hW1
        clear hxt q0 q1 q2 hco hbg hc hg hn K1 hW1
        go_enter Tryz.func50, Tryz.ntmps50
        go_wp2_with fail
        refine (within_c).mono ?_
        rintro e w2 ⟨rfl, rfl⟩
        rw [hin]
        go_upto_region 6 with fail
        rw [HW1.out]
        obtain ⟨x, y, z, hver⟩ := three_of' hO.ver3
        have a0 := (HK1.out.cell 3).trans (ssC_get (hO.verAt (key := 0) (by omega)))
        have a1 := (HK1.out.cell 4).trans (ssC_get (hO.verAt (key := 1) (by omega)))
        have a2 := (HK1.out.cell 5).trans (ssC_get (hO.verAt (key := 2) (by omega)))
        rw [hver] at a0 a1 a2
        have d0 := (HK1.out.cell (6 + m * 3)).trans (ssC_get (hO.begAt (key := 0) hm6 (by omega)))
        have d1 := (HK1.out.cell (6 + m * 3 + 1)).trans (ssC_get (hO.begAt (key := 1) hm6 (by omega)))
        have d2 := (HK1.out.cell (6 + m * 3 + 2)).trans (ssC_get (hO.begAt (key := 2) hm6 (by omega)))
        have f0 := HK1.out.frozen (6 + m * 3)
        have f1 := HK1.out.frozen (6 + m * 3 + 1)
        have f2 := HK1.out.frozen (6 + m * 3 + 2)
        have a0 : W1.cell? ⟨b, 3, none⟩ = some (.int .i64 x) := a0
        have a1 : W1.cell? ⟨b, 4, none⟩ = some (.int .i64 y) := a1
        have a2 : W1.cell? ⟨b, 5, none⟩ = some (.int .i64 z) := a2
        have m6 : (m : Int) < 6 := by omega
        have HVER := hide hver
        clear hver
        go_region
        obtain ⟨W2, hW2⟩ : ∃ q, (((W1.setCell ⟨b, 6 + m * 3, none⟩ (.int .i64 x)).setCell ⟨b, 6 + m * 3 + 1, none⟩ (.int .i64 y)).setCell ⟨b, 6 + m * 3 + 2, none⟩ (.int .i64 z)).drew = q := ⟨_, rfl⟩
        rw [hW2]
        have K2 : Blk W2 b 88 (ssC (flS { S with bg := S.bg ++ [m], beg := S.beg.set m S.ver }) (g ||| 2 ^ m) cm) := by
          have h := (((HK1.out.set_ (6 + m * 3) (.int .i64 x)).set_ (6 + m * 3 + 1) (.int .i64 y)).set_ (6 + m * 3 + 2) (.int .i64 z)).drew
          have hlen := hO.len
          rw [ssC_set _ (by omega), ssC_set _ (by simp; omega), ssC_set _ (by simp; omega), ← hO.setBeg hm6, ← HVER.out] at h
          rw [← hW2]
          exact h
        have C2 : Chg (fun k => k = b) w W2 := by
          rw [← hW2, ← HW1.out]
          exact ((((Chg.setCell (S := fun k => k = b) (p := ⟨b, 24, none⟩) rfl _).trans (Chg.setCell (S := fun k => k = b) (p := ⟨b, 6 + m * 3, none⟩) rfl _)).trans (Chg.setCell (S := fun k => k = b) (p := ⟨b, 6 + m * 3 + 1, none⟩) rfl _)).trans (Chg.setCell (S := fun k => k = b) (p := ⟨b, 6 + m * 3 + 2, none⟩) rfl _)).trans (Chg.of_below ((Below.refl _ _).drew))
        have B2 := Chg.below HBW.out C2 (fun k hk => by subst hk; exact hb)
        have e0 := (B2.cell (p := ⟨bt, ot + m * 3, none⟩) hbt).trans Q0.out
        have e1 := (B2.cell (p := ⟨bt, ot + m * 3 + 1, none⟩) hbt).trans Q1.out
        have e2 := (B2.cell (p := ⟨bt, ot + m * 3 + 2, none⟩) hbt).trans Q2.out
        have h6y : kk ≤ 6 := by have h1 := txnB_lenH hv1.out; have h2 := hry.len; omega
        have hk3 : ∀ o ∈ ys, 0 ≤ o.2.1 ∧ o.2.1 ≤ 2 := fun o ho => by
          obtain ⟨i, hi⟩ := List.getElem?_of_mem ho
          have := txnB_opH hv1.out hi
          unfold opB at this
          simp only [Bool.and_eq_true, inB_iff] at this
          exact this.2.1
        have s3 : S3 W2 (.slice B kk dd) kk ys := (S3.of_args hkd (by omega) hry).below B2
        have HB2 := hide B2; have HC2 := hide C2; have HK2 := hide K2; have HK3 := hide hk3
        clear hW2 a0 a1 a2 d0 d1 d2 f0 f1 f2 K2 C2 B2
        go_wp2_with fail
        refine (firstReads_x s3 h6y hk3).mono ?_
        rintro e w5 ⟨A5, n5, rfl, hn5, so5, b5⟩
        have SO5 := hide so5
        have HB5 := hide (below_step HB2.out b5); have HC5 := hide (HC2.out.trans (Chg.of_below b5)); have HK5 := hide (HK2.out.belowAll b5)
        have n56 : n5 ≤ 6 := by omega
        clear e0 e1 e2 s3 hk3 so5 b5
        go_wp2_with fail
        go_loopw [69] (fun i W => ∃ j : Nat, i = .int .i64 j ∧ j ≤ n5 ∧ Below w5.heap.size w5 W ∧ (∀ (k : Nat) (o : T3), k < j → (firstR ys)[k]? = some o → S.st.getD o.2.1.toNat 0 = o.2.2)) (fun i _ => n5 - (intOf i).toNat)
        case atStart => exact ⟨0, rfl, Nat.zero_le _, Below.refl _ _, fun k o h => by omega⟩
        case round =>
          rename World => wr
          obtain ⟨j, rfl, hj, bw5, hall⟩ := hrel
          have HALL := hide hall
          clear hall
          obtain ⟨A5', e5, h5m, h5r⟩ := (SO5.out.below bw5).s3
          obtain rfl : A5 = A5' := by simpa using e5
          have h5l := hide h5r.len
          by_cases hjl : j < n5
          · obtain ⟨b5, off5, x', y', z', rfl, hb5, hx, p0, p1, p2⟩ := h5r.at_ hjl
            have hy3 := HK3.out (x', y', z') (by obtain ⟨i, hi, _⟩ := mem_firstR.1 (List.mem_of_getElem? hx); exact List.mem_of_getElem? hi)
            dsimp only at hy3
            obtain ⟨key, rfl⟩ : ∃ key : Nat, y' = key := ⟨y'.toNat, by omega⟩
            have hkey : key < 3 := by omega
            obtain ⟨sv, hsv⟩ : ∃ sv, S.st.getD key 0 = sv := ⟨_, rfl⟩
            have KB := ((HK5.out.belowAll bw5).alloc (.cells #[.int .i64 x', .int .i64 (key : Int), .int .i64 z'] 61))
            have ks0 := (KB.cell key).trans (ssC_get ((hO.begin m).stAt hkey))
            have ks : (wr.alloc (.cells #[.int .i64 x', .int .i64 (key : Int), .int .i64 z'] 61)).cell? ⟨b, key, none⟩ = some (.int .i64 sv) := by rw [ks0]; exact congrArg (fun q => some (Value.int .i64 q)) hsv
            have KX := Blk.new wr 61 #[.int .i64 x', .int .i64 (key : Int), .int .i64 z']
            have k0 := KX.cell 0; have k1 := KX.cell 1; have k2 := KX.cell 2
            have BX := hide (bw5.alloc bw5.size (.cells #[.int .i64 x', .int .i64 (key : Int), .int .i64 z'] 61))
            have HX := hide hx; have HSV := hide hsv
            have j0 : (0 : Int) ≤ j := by omega
            have j2 : (j : Int) < n5 := by omega
            have key0 : (0 : Int) ≤ key := by omega
            have key2 : (key : Int) < 3 := by omega
            clear hx hsv KB KX h5r e5 bw5 hy3 ks0
            by_cases hne : sv = z'
            · have hbn : (sv != z') = false := by simpa using hne
              have HNE := hide hne
              clear hne
              go_wp2_with fail
              go_quiet (fail)
              go_wp2_with fail
              go_roundw
              case rel => exact ⟨j + 1, by go_num, by omega, below_drewN BX.out _, fun k o hk ho => by
                by_cases e : k = j
                · subst e; rw [HX.out] at ho; injection ho with ho; subst ho; dsimp only; rw [Int.toNat_natCast]; exact HSV.out.trans HNE.out
                · exact HALL.out k o (by omega) ho⟩
              case measure => simp [intOf]; omega
            · have hbn : (sv != z') = true := by simpa using hne
              have hno : nxt ts S m = none := by rw [HN.out, readsOk_no (List.mem_of_getElem? HX.out) (by dsimp only; rw [Int.toNat_natCast, HSV.out]; exact hne)]; rfl
              have HNO := hide hno
              clear hne hno
              go_wp2_with fail
              go_quiet (fail)
              go_wp2_with fail
              go_ret
              exact ⟨below_step HB5.out (below_drewN BX.out _), HC5.out.trans (Chg.of_below (below_drewN BX.out _)), .inl ⟨HNO.out, rfl⟩⟩
          · obtain rfl : j = n5 := by omega
            have hyes : nxt ts S m = some { S with bg := S.bg ++ [m], beg := S.beg.set m S.ver } := by
              rw [HN.out, readsOk_all (fun k o ho => HALL.out k o (by have := (List.getElem?_eq_some_iff.1 ho).1; have := h5l.out; omega) ho)]; rfl
            have HY := hide hyes; have BW5 := hide bw5
            clear hyes bw5 h5r
            go_wp2_with fail
            go_ret
            exact ⟨below_step HB5.out BW5.out, HC5.out.trans (Chg.of_below BW5.out), .inr ⟨_, HY.out, rfl, _, _, HK5.out.belowAll BW5.out, HG.out.snoc hm6, HC.out⟩⟩
end Go.Proofs.YtcfkemchekmjbaaGreatDoor

namespace Go.Proofs.YtcfkemchekmjbaaGreatDoor
open Go.RowKit
structure FsK where
  wb : World
  A : Option Addr
  n : Nat
  c : Nat
  ts : List Tx
  bH : Nat
  bA : Nat
  bO : Nat
  bF : Nat
  va : Value
  na : Nat
def FsK.caps (K : FsK) : Array Value := #[.pointer (some ⟨K.bO, 0, none⟩), .pointer (some ⟨K.bA, 0, none⟩), .pointer (some ⟨K.bH, 0, none⟩), .pointer (some ⟨K.bF, 0, none⟩)]
/-- The search's state: the schedule so far is the slice v, k numbers, used. -/
structure Fs (K : FsK) (w : World) (v : Value) (k : Nat) (used : List Int) : Prop where
  bw : Below K.wb.heap.size K.wb w
  hH : Blk w K.bH 27 #[.slice K.A K.n K.c]
  hA : Blk w K.bA 24 #[K.va]
  hF : Blk w K.bF 84 #[.func (.func 49) #[] K.caps]
  hO : Blk w K.bO 24 #[v]
  oA : OI w K.wb.heap.size K.va K.na (doneL K.ts)
  oO : OI w K.wb.heap.size v k used
  apart : K.va.ownBlock = none ∨ K.va.ownBlock ≠ v.ownBlock
  geO : K.wb.heap.size ≤ K.bO
  neAO : K.bA ≠ K.bO
/-- From (w, v) to (w', v') the schedule's box and its row alone may have changed. -/
structure Fq (K : FsK) (w : World) (v : Value) (w' : World) (v' : Value) : Prop where
  os : w'.os = w.os
  tape : w'.tape = w.tape
  output : w'.output = w.output
  size : w.heap.size ≤ w'.heap.size
  block : ∀ i, i < w.heap.size → i ≠ K.bO → v.ownBlock ≠ some i → w'.heap[i]? = w.heap[i]?
  row : v'.ownBlock = v.ownBlock ∨ ∀ i, v'.ownBlock = some i → w.heap.size ≤ i
section
variable {K : FsK} {w w' a b c : World} {v v' u x : Value} {k k' : Nat} {used used' : List Int}
theorem Fq.refl : Fq K w v w v := ⟨rfl, rfl, rfl, Nat.le_refl _, fun _ _ _ _ => rfl, .inl rfl⟩
theorem Fq.trans (h : Fq K a u b v) (g : Fq K b v c x) : Fq K a u c x := by
  refine ⟨g.os.trans h.os, g.tape.trans h.tape, g.output.trans h.output, Nat.le_trans h.size g.size, fun i hi h1 h3 => (g.block i (Nat.lt_of_lt_of_le hi h.size) h1 ?_).trans (h.block i hi h1 h3), ?_⟩
  · rcases h.row with e | e
    · rw [e]; exact h3
    · intro e2; have := e i e2; omega
  · rcases g.row with e | e
    · rcases h.row with e2 | e2
      · exact .inl (e.trans e2)
      · exact .inr fun i hi => e2 i (e ▸ hi)
    · exact .inr fun i hi => Nat.le_trans h.size (e i hi)
theorem Fq.of_below (h : Below w.heap.size w w') : Fq K w v w' v := ⟨h.os, h.tape, h.output, h.size, fun i hi _ _ => h.block i hi, .inl rfl⟩
theorem Blk.fq {g : Nat} {t : TypeId} {cs : Array Value} (h : Blk w g t cs) (hf : Fq K w v w' v') (h1 : g ≠ K.bO) (h3 : v.ownBlock ≠ some g) : Blk w' g t cs := (hf.block g h.lt h1 h3).trans h
theorem Fs.below (h : Fs K w v k used) (hb : Below w.heap.size w w') : Fs K w' v k used :=
  ⟨below_step h.bw hb, h.hH.belowAll hb, h.hA.belowAll hb, h.hF.belowAll hb, h.hO.belowAll hb, h.oA.below hb, h.oO.below hb, h.apart, h.geO, h.neAO⟩
/-- A block of another type, and none of these, changes. -/
theorem Fs.chg {g : Nat} {t : TypeId} {cs : Array Value} (h : Fs K w v k used) (hb : Blk w g t cs) (hc : Chg (fun i => i = g) w w') (h0 : K.wb.heap.size ≤ g) (h1 : t ≠ 27) (h2 : t ≠ 24) (h3 : t ≠ 84) (h4 : t ≠ 3) : Fs K w' v k used := by
  have ks : ∀ {g' : Nat} {t' : TypeId} {cs' : Array Value}, Blk w g' t' cs' → t ≠ t' → Blk w' g' t' cs' := fun hb' ht => by
    refine hb'.chg hc (fun e => ?_)
    subst e
    unfold Blk at hb hb'
    rw [hb] at hb'; injection hb' with hb'; injection hb' with _ h5; exact ht h5
  exact ⟨Chg.below h.bw hc (fun i hi => by subst hi; exact h0), ks h.hH h1, ks h.hA h2, ks h.hF h3, ks h.hO h2,
    h.oA.chg hc (fun i hi e => by subst e; exact h.oA.ne_blk hb h4 hi), h.oO.chg hc (fun i hi e => by subst e; exact h.oO.ne_blk hb h4 hi), h.apart, h.geO, h.neAO⟩
theorem Fs.ne_row (h : Fs K w v k used) {g : Nat} {t : TypeId} {cs : Array Value} (hb : Blk w g t cs) (ht : t ≠ 3) : v.ownBlock ≠ some g := h.oO.ne_blk hb ht
theorem Fs.row_lt (h : Fs K w v k used) {g : Nat} (hg : v.ownBlock = some g) : K.wb.heap.size ≤ g ∧ g < w.heap.size := World.ownsRow.lt h.oO.1 g hg
theorem blk_neF {w : World} {g g' : Nat} {t t' : TypeId} {cs cs' : Array Value} (h : Blk w g t cs) (h' : Blk w g' t' cs') (ht : t ≠ t') : g ≠ g' := by
  rintro rfl
  unfold Blk at h h'
  rw [h] at h'; injection h' with h'; injection h' with _ h2; exact ht h2
/-- A new schedule, put into its box. -/
theorem Fs.put (h : Fs K w v k used) (hg : w.grownBy w' v.ownBlock) (ho : OI w' K.wb.heap.size v' k' used') (hv : v'.ownBlock = v.ownBlock ∨ ∀ i, v'.ownBlock = some i → w.heap.size ≤ i) :
    Fs K (w'.setCell ⟨K.bO, 0, none⟩ v') v' k' used' ∧ Fq K w v (w'.setCell ⟨K.bO, 0, none⟩ v') v' := by
  have nH := h.ne_row h.hH (by decide)
  have nA := h.ne_row h.hA (by decide); have nF := h.ne_row h.hF (by decide); have nO := h.ne_row h.hO (by decide)
  have eH := blk_neF h.hH h.hO (by decide); have eF := blk_neF h.hF h.hO (by decide)
  have ks : ∀ {g : Nat} {t : TypeId} {cs : Array Value}, Blk w g t cs → v.ownBlock ≠ some g → g ≠ K.bO → Blk (w'.setCell ⟨K.bO, 0, none⟩ v') g t cs := fun hb h1 h2 => (hb.grown hg (fun e => h1 e.symm)).far (p := ⟨K.bO, 0, none⟩) h2 v'
  have hO' : Blk w' K.bO 24 #[v] := h.hO.grown hg (fun e => nO e.symm)
  have hbw : Below K.wb.heap.size K.wb w' := below_of_grown h.bw hg h.bw.size (fun g e => (h.row_lt e).1)
  have far : ∀ {q : Value} {m : Nat} {xs : List Int}, OI w' K.wb.heap.size q m xs → OI (w'.setCell ⟨K.bO, 0, none⟩ v') K.wb.heap.size q m xs := fun {q m xs} hq => by
    have hne := hq.ne_blk hO' (by decide)
    refine hq.grown (row := some K.bO) (grown_setCell (World.grownBy.refl w' (some K.bO)) (.inl rfl) v') (.inr hne)
  refine ⟨⟨hbw.setCell (p := ⟨K.bO, 0, none⟩) h.geO v', ks h.hH nH eH, ks h.hA nA h.neAO, ks h.hF nF eF, by simpa using hO'.set_ 0 v', ?_, far ho, ?_, h.geO, h.neAO⟩, ?_⟩
  · exact far (h.oA.grown hg h.apart)
  · rcases h.apart with e | e
    · exact .inl e
    · rcases hv with e2 | e2
      · right; rw [e2]; exact e
      · cases hq : K.va.ownBlock with
        | none => exact .inl rfl
        | some g =>
          right; intro e3
          have l1 := (World.ownsRow.lt h.oA.1 g hq).2
          have l2 := e2 g e3.symm
          omega
  · refine ⟨hg.os, hg.tape, hg.output, by rw [size_setCell]; exact hg.size, fun i hi h1 h3 => ?_, hv⟩
    exact (Below.heap_setCell w' ⟨K.bO, 0, none⟩ v' i (fun e => h1 e)).trans (hg.block i hi (fun e => h3 e.symm))
/-- The last number is taken away. -/
theorem Fs.pop {g d : Nat} {z : Int} (h : Fs K w (.slice (some ⟨g, 0, none⟩) (k + 1) d) (k + 1) (used ++ [z])) : OI w K.wb.heap.size (.slice (some ⟨g, 0, none⟩) k d) k used := by
  have hl := h.oO.len
  have h1 := h.oO.1
  rw [List.map_append, List.map_cons, List.map_nil] at h1
  have hb := h.oO.2
  exact ⟨ownsRow_pop (by simp at hl ⊢; omega) h1, by omega⟩
end
theorem ssC_size {fl : List Int} {g c : Nat} (h : fl.length = 24) : (ssC fl g c).size = 26 := by unfold ssC; simp [h]
theorem ssC_one {fl : List Int} {g c : Nat} : (ssC fl g c).all (·.oneCell') = true := by
  unfold ssC
  rw [List.all_toArray, List.all_eq_true]
  intro v hv
  rcases List.mem_append.1 hv with h | h
  · obtain ⟨x, _, rfl⟩ := List.mem_map.1 h; rfl
  · simp at h
    rcases h with rfl | rfl <;> rfl
/-- What holds of a state on the way. -/
theorem SsI.shape {ts : List Tx} {S : SS} {b : Nat → Nat} (h : SsI ts S b) (h6 : ts.length ≤ 6) : SsO S ∧ ∀ key : Nat, 0 ≤ S.ver.getD key 0 ∧ S.ver.getD key 0 ≤ 1000 := by
  refine ⟨⟨h.st3, h.ver3, h.beg6, h.bgl⟩, fun key => ?_⟩
  by_cases hk : key < 3
  · rw [h.vers key hk]
    have h1 : cntW ts S.co key ≤ S.co.length := by unfold cntW; exact List.countP_le_length
    have h2 : S.co.length ≤ (List.range 6).length := nodup_len_le h.cnd (fun x hx => by
      have := done_lt (h.bgd x (h.cod x hx))
      rw [List.mem_range]; omega)
    rw [List.length_range] at h2
    omega
  · have : S.ver.getD key 0 = 0 := by rw [List.getD_eq_getElem?_getD, List.getElem?_eq_none (by rw [h.ver3]; omega)]; rfl
    omega
end Go.Proofs.YtcfkemchekmjbaaGreatDoor

namespace Go.Proofs.YtcfkemchekmjbaaGreatDoor
open Go.RowKit
/-- No value of the first ones is written twice in the whole. -/
def OnceTo (ts : List Tx) (k j : Nat) : Prop := ∀ q ∈ wl (opsTo ts k j), (wl (allOps ts)).count q ≤ 1
theorem OnceTo.r {ts : List Tx} {k j : Nat} {t : Tx} {o : T3} (h : OnceTo ts k j) (ht : ts[k]? = some t) (ho : t.2.1[j]? = some o) (hw : o.1 ≠ 2) : OnceTo ts k (j + 1) := by
  unfold OnceTo; rw [wl_step_r ht ho hw]; exact h
theorem OnceTo.w {ts : List Tx} {k j : Nat} {t : Tx} {o : T3} (h : OnceTo ts k j) (ht : ts[k]? = some t) (ho : t.2.1[j]? = some o) (hw : o.1 = 2) (hc : (wl (allOps ts)).count (o.2.1, o.2.2) ≤ 1) : OnceTo ts k (j + 1) := by
  unfold OnceTo; rw [wl_step_w ht ho hw]
  intro q hq
  rcases List.mem_append.1 hq with hq | hq
  · exact h q hq
  · simp at hq; subst hq; exact hc
end Go.Proofs.YtcfkemchekmjbaaGreatDoor

namespace Go.Proofs.YtcfkemchekmjbaaGreatDoor
open Go.RowKit
/-- A store at block sb. -/
def StB (w : World) (sb : Nat) (s : List Int) : Prop := s.length = 3 ∧ Blk w sb 58 (s.map (Value.int .i64)).toArray
theorem StB.cell {w : World} {sb : Nat} {s : List Int} (h : StB w sb s) {k : Nat} (hk : k < 3) : ∃ v, s[k]? = some v ∧ w.cell? ⟨sb, k, none⟩ = some (.int .i64 v) := by
  have hl : k < s.length := by rw [h.1]; exact hk
  exact ⟨s[k], List.getElem?_eq_getElem hl, (h.2.cell k).trans (by simp [List.getElem?_eq_getElem hl])⟩
theorem StB.put {w : World} {sb : Nat} {s : List Int} (h : StB w sb s) (k : Nat) (v : Int) : StB (w.setCell ⟨sb, k, none⟩ (.int .i64 v)) sb (s.set k v) := by
  refine ⟨by simp [h.1], ?_⟩
  have := h.2.set_ k (.int .i64 v)
  simpa [List.map_set] using this
theorem StB.below {w w' : World} {sb : Nat} {s : List Int} (h : StB w sb s) (hb : Below w.heap.size w w') : StB w' sb s := ⟨h.1, h.2.belowAll hb⟩
end Go.Proofs.YtcfkemchekmjbaaGreatDoor
