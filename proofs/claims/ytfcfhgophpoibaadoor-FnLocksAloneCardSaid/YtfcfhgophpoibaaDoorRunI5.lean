/- impl.RunDirty. Printed by mk_rune.py. -/
import Derived.Test.YtfcfhgophpoibaaDoorRunI3
import Derived.Test.YtfcfhgophpoibaaDoorRunI4
import Derived.Test.YtfcfhgophpoibaaDoorPlanI
namespace Go.Proofs.YtfcfhgophpoibaaDoor
open Go.RowKit

theorem Mach.chg {S : Nat → Prop} {w w' : World} {lo gm n c : Nat} {A : Option Addr} {v : Value} {ts : List Tx} {es : List El} (h : Mach w lo gm A n c v ts es) (hc : Chg S w w') (h1 : ¬ S gm) (h2 : ∀ k, OT.S v es k → ¬ S k) : Mach w' lo gm A n c v ts es :=
  ⟨h.box.chg hc h1, h.own.chg hc h2, h.says, h.lt⟩
set_option maxHeartbeats 1000000 in
theorem history_c {w : World} {lo gm n c : Nat} {A : Option Addr} {v : Value} {ts : List Tx} {es : List El} (M : Mach w lo gm A n c v ts es) (hn : n ≤ 1048575) (hsm : SmallT ts) :
    Calls Tryd.prog 31 #[.pointer (some ⟨gm, 0, none⟩)] w fun e w' => ∃ v' es, e = .returned v' ∧ OV w' w.heap.size v' n es ∧ SaysT es ts ∧ Below w.heap.size w w' := by
  obtain ⟨m0, m1, _, _⟩ := M.box.two
  go_enter Tryd.func31, Tryd.ntmps31
  go_wp2_with fail
  refine (copyHistory_c (M.own.sts M.says) hn hsm).mono ?_
  rintro e w2 ⟨v', es', rfl, D, hs, b2⟩
  go_wp2_with fail
  go_ret
  exact ⟨_, es', rfl, D, hs, b2⟩
theorem Fits.small {ds : Ds} {ts : List Tx} (h : Fits ds ts) (hd : ∀ d ∈ ds, draftB d = true) : SmallT ts := fun t ht => by
  obtain ⟨i, hi, he⟩ := List.mem_iff_getElem.1 ht
  have h1 : ts[i]? = some t := by rw [← he]; exact List.getElem?_eq_getElem hi
  obtain ⟨d, t', h2, h3, _, _, _, h4, _⟩ := h.at_ (n := i) (by rw [← h.1]; exact hi)
  rw [h1] at h3; injection h3 with h3; subst h3
  have := (draftB_parts (hd d (List.mem_of_getElem? h2))).2.1
  omega
/-- A state's values in an array's block. -/
def storeC (st : List Int) : Array Value := (st.map (Value.int .i64)).toArray
theorem storeC_get {st : List Int} {i : Nat} {x : Int} (h : st[i]? = some x) : (storeC st)[i]? = some (.int .i64 x) := by simp [storeC, h]
theorem storeC_set (st : List Int) (i : Nat) (x : Int) : (storeC st).setIfInBounds i (.int .i64 x) = storeC (st.set i x) := by
  unfold storeC; apply Array.ext'; rw [Array.toList_setIfInBounds]; simp [List.map_set]
theorem storeC_zero : storeC [0, 0, 0] = #[.int .i64 0, .int .i64 0, .int .i64 0] := rfl

set_option maxRecDepth 100000 in
set_option maxHeartbeats 16000000 in
theorem impl_RunDirty_c {A : Option Addr} {n c : Nat} {ms : Ds} {sv : Value} {m : Nat} {xs : List Int} {w : World} (hr : RDs w A n ms) (hn : n ≤ 1048576) (hsm : SmallD ms) (hs : SI w sv m xs) :
    Calls Tryd.prog 7 #[.slice A n c, sv] w fun e w' => ∃ v m es, e = .returned v ∧ OV w' w.heap.size v m es ∧ SaysT es (dirtyL ms xs) ∧ Below w.heap.size w w' := by
  have ss := hs
  have hl := hide hr.1
  obtain ⟨As, cs, rfl, hsnc, hsn, hsr⟩ := hs
  have hsl := hide hsr.len
  cases hrun : runB ms xs
  · have hf : dirtyL ms xs = [] := by simp [dirtyL, hrun]
    have F := hide hf; have Q := hide hrun; clear hf hrun
    go_enter Tryd.func7, Tryd.ntmps7
    go_wp2_with fail
    refine (runnable_c hr (by omega) hsm ss).mono ?_
    rintro e w1 ⟨rfl, b1⟩
    rw [Q.out]
    go_wp2_with fail
    go_ret
    exact ⟨_, 0, [], rfl, ⟨⟨rfl, .inl ⟨rfl, rfl⟩⟩, fun j e h => by simp at h, fun i j p q _ h => by simp at h, by omega⟩, by rw [F.out]; rfl, b1⟩
  · have hf : dirtyL ms xs = (dirtyR ms xs).1 := by simp [dirtyL, hrun]
    obtain ⟨hn4, hdb, hm40, hxb⟩ := runB_parts hrun
    have F := hide hf; have Q := hide hrun; have DB := hide hdb; have XB := hide hxb
    rw [hl.out] at hn4
    clear hf hdb hxb hrun
    go_enter Tryd.func7, Tryd.ntmps7
    go_wp2_with fail
    refine (runnable_c hr (by omega) hsm ss).mono ?_
    rintro e w1 ⟨rfl, b1⟩
    rw [Q.out]
    go_wp2_with fail
    have R1 := hr.below b1
    refine (machineOf_c R1 (by omega) hsm).mono ?_
    rintro e w2 ⟨v, es0, rfl, M0, b2⟩
    have B2 := below_step b1 b2
    have hz1 := b1.size
    have hz2 := M0.box.lt
    have S1 := hsr.below b1
    have M1 := M0.below ((Below.refl _ _).alloc (Nat.le_refl _) (.cells #[.int .i64 0, .int .i64 0, .int .i64 0] 51))
    have K1 := Blk.new w2 51 #[.int .i64 0, .int .i64 0, .int .i64 0]
    have B3 : Below w1.heap.size w1 (w2.alloc (.cells #[.int .i64 0, .int .i64 0, .int .i64 0] 51)) := b2.alloc b2.size _
    clear M0
    go_wp2_with fail
    go_loopw [19] (fun i wr => ∃ (k : Nat) (es : List El), i = .int .i64 k ∧ k ≤ m ∧ Mach wr (w1.heap.size + 1) w1.heap.size A n c v (dirtyR ms (xs.take k)).1 es ∧ Blk wr w2.heap.size 51 (storeC (dirtyR ms (xs.take k)).2) ∧ Fits ms (dirtyR ms (xs.take k)).1 ∧ Vals (dirtyR ms (xs.take k)).2 ∧ Below w1.heap.size w1 wr) (fun i _ => m - (intOf i).toNat)
    case atStart => exact ⟨0, es0, rfl, Nat.zero_le _, by simpa [dirtyR] using M1, by simpa [dirtyR, storeC_zero] using K1, by simpa [dirtyR] using Fits.empty DB.out, by simpa [dirtyR] using Vals.zero, B3⟩
    case round =>
      clear M1 K1 B3
      obtain ⟨k, es, rfl, hk, M, KS, hfit, hval, hbel⟩ := hrel
      have Hfit := hide hfit; have Hval := hide hval; clear hfit hval
      by_cases hkm : k < m
      · obtain ⟨b, off, x, rfl, hb, hx, hc⟩ := S1.at_ hkm
        obtain ⟨hx0, hx1⟩ := XB.out x (List.mem_of_getElem? hx)
        rw [hl.out] at hx1
        obtain ⟨n0, rfl⟩ : ∃ q : Nat, x = q := ⟨x.toNat, by omega⟩
        have hn0 : n0 < n := by omega
        obtain ⟨d, t, hd, ht, hst, hop, hse, hle, hdn⟩ := Hfit.out.at_ (show n0 < ms.length by rw [hl.out]; exact hn0)
        obtain ⟨f, ys⟩ := d
        dsimp only at hst hle hdn
        have hdp := draftB_parts (DB.out _ (List.mem_of_getElem? hd))
        dsimp only at hdp
        have q0 := (hbel.cell (p := ⟨b, off + k, none⟩) hb).trans hc
        have hdr := dirtyR_snoc (ds := ms) hx
        rw [Int.toNat_natCast] at hdr
        have n0i : (0 : Int) ≤ n0 := by omega
        have n1i : (n0 : Int) < n := by omega
        have k0 : (0 : Int) ≤ k := by omega
        have k1 : (k : Int) < m := by omega
        have Rr := R1.below hbel
        have Hdr := hide hdr; have Hst := hide hst; have Hop := hide hop; have Hse := hide hse; have Hdn := hide hdn
        have hA1 : ∀ b off, A = some ⟨b, off, none⟩ → b < w1.heap.size + 1 := fun b off e => by
          obtain ⟨b', off', e', h', _⟩ := R1.2 (by omega)
          rw [e] at e'; injection e' with e'; injection e' with e'; subst e'; omega
        have HA1 := hide hA1
        clear hx hc hst hop hse hdn hdr hA1
        by_cases hfull : t.2.1.length = ys.length
        · have hnone := dirty1_none (ds := ms) (d := (f, ys)) (t := t) (S := dirtyR ms (xs.take k)) Hst.out Hop.out hfull
          have Hn := hide hnone
          clear hnone
          have FU := hide hfull; have HT := hide ht; have HD := hide hd
          clear hfull ht hd
          go_wp2_with fail
          refine (step_full_c M Rr hn0 HT.out HD.out FU.out).mono ?_
          rintro e w3 ⟨rfl, b3⟩
          have M3 := (M.below b3).below ((Below.refl _ _).alloc (Nat.le_refl _) (.cells #[.int .i64 0, .int .i64 0, .int .i64 0] 53))
          have KS3 := (KS.belowAll b3).alloc (.cells #[.int .i64 0, .int .i64 0, .int .i64 0] 53)
          have B3 := below_step hbel b3
          go_wp2_with fail
          go_roundw
          case rel => exact ⟨k + 1, es, by go_num, by omega, by rw [Hdr.out, Hn.out]; exact M3, by rw [Hdr.out, Hn.out]; exact KS3, by rw [Hdr.out, Hn.out]; exact Hfit.out, by rw [Hdr.out, Hn.out]; exact Hval.out, B3.alloc B3.size _⟩
          case measure => simp [intOf]; omega
        · have hlt : t.2.1.length < ys.length := by omega
          obtain ⟨⟨sx, sy, sz⟩, hs'⟩ : ∃ s, ys[t.2.1.length]? = some s := ⟨_, List.getElem?_eq_getElem hlt⟩
          have hsp := hdp.2.2.2 _ (List.mem_of_getElem? hs')
          dsimp only at hsp
          obtain ⟨hk12, ⟨sy0, sy2⟩, rfl⟩ := hsp
          obtain ⟨sy, rfl⟩ : ∃ q : Nat, sy = q := ⟨sy.toNat, by omega⟩
          have hsome := dirty1_some (ds := ms) (d := (f, ys)) (t := t) (S := dirtyR ms (xs.take k)) Hst.out Hop.out Hse.out hs'
          have hstep := fun o => Hfit.out.step hd ht hlt o
          dsimp only at hsome hstep
          have hL4 : t.2.1.length < 4 := by omega
          have hn04 : n0 < 4 := by omega
          have hsy3 : sy < (dirtyR ms (xs.take k)).2.length := by rw [Hval.out.1]; omega
          obtain ⟨sv0, hsv⟩ : ∃ q, (dirtyR ms (xs.take k)).2[sy]? = some q := ⟨_, List.getElem?_eq_getElem hsy3⟩
          have Hsome := hide hsome; have Hstep := hide hstep; have Hsv := hide hsv; have Hs := hide hs'; have HT := hide ht; have HD := hide hd; have Hlt := hide hlt
          have sy3 : (sy : Int) < 3 := by omega
          have hL4' := hide hL4
          have hjl := (List.getElem?_eq_some_iff.1 ht).1
          have hNF : ∃ tb, t.2.2 = tb ∧ tb = false := ⟨_, rfl, by rw [Hdn.out]; simpa using hfull⟩
          obtain ⟨tb, htb, rfl⟩ := hNF
          have Htb := hide htb
          clear hsome hstep hsv hs' ht hd hlt hfull hsy3 hdp hle sy2 htb hL4
          rcases hk12 with rfl | rfl
          · have hsv : dirtyV (dirtyR ms (xs.take k)).2 n0 t.2.1.length (1, (sy : Int), 0) = sv0 := by simp [dirtyV, List.getD, Hsv.out]
            have hss : dirtyS (dirtyR ms (xs.take k)).2 n0 t.2.1.length (1, (sy : Int), 0) = (dirtyR ms (xs.take k)).2 := by simp [dirtyS]
            have hso := Hsome.out
            rw [hsv, hss] at hso
            have Hso := hide hso
            have hvl : Vals (dirtyR ms (xs.take k)).2 := Hval.out
            have HV := hide hvl
            clear hsv hss hso hvl
            go_wp2_with fail
            refine (step_c M Rr hn4 hn0 HT.out HD.out hL4'.out Hs.out (q := 0) (by simp)).mono ?_
            rintro e w3 ⟨rfl, b3⟩
            have B3 := below_step hbel b3
            have b4 : Below w3.heap.size w3 (w3.alloc (.cells #[.int .i64 1, .int .i64 (sy : Int), .int .i64 0] 53)) := (Below.refl _ _).alloc (Nat.le_refl _) _
            have M4 := (M.below b3).below b4
            have KS4 := (KS.belowAll b3).belowAll b4
            have KO := Blk.new w3 53 #[.int .i64 1, .int .i64 (sy : Int), .int .i64 0]
            have B4 := below_step B3 b4
            go_wp2_with fail
            refine (writes_c).mono ?_
            rintro e w5 ⟨rfl, b5⟩
            rw [show ((1 : Int) == 2) = false by rfl]
            have B5 := below_step B4 b5
            replace M4 := M4.below b5
            replace KS4 := KS4.belowAll b5
            replace KO := KO.belowAll b5
            have hxr := b3.size; have hx5 := b5.size; have hsl3 := KS.lt
            have hrng := (M.below b3).own.range
            have HRg := hide hrng
            obtain ⟨o0, o1, o2⟩ := KO.three
            have of2 := KO.frozen 2
            have hko := KO.lt
            have s0 := (KS4.cell sy).trans (storeC_get Hsv.out)
            have sf := KS4.frozen sy
            have hks := KS4.lt
            have hne : w2.heap.size ≠ w3.heap.size := by omega
            have KO6 := KO.set_ 2 (.int .i64 sv0)
            have KS6 := KS4.far (p := ⟨w3.heap.size, 2, none⟩) hne (.int .i64 sv0)
            have M6 := M4.chg (Chg.setCell (S := fun q => q = w3.heap.size) (p := ⟨w3.heap.size, 2, none⟩) rfl (.int .i64 sv0)) (by omega) (fun q hq e => by have := (HRg.out q hq).2; omega)
            have B6 := B5.setCell (p := ⟨w3.heap.size, 2, none⟩) (by show w1.heap.size ≤ w3.heap.size; omega) (.int .i64 sv0)
            obtain ⟨y0, y1, y2⟩ := KO6.three
            have R6 := R1.below B6
            have hlo6 : w1.heap.size + 1 ≤ (w5.setCell ⟨w3.heap.size, 2, none⟩ (.int .i64 sv0)).heap.size := by rw [size_setCell]; omega
            have HM6 := hide M6; have HKS6 := hide KS6
            clear M4 KS4 KO M6 KS6 M KS
            go_wp2_with fail
            refine (did_c HM6.out R6 HA1.out hn0 HT.out HD.out hL4'.out hlo6).mono ?_
            rintro e w7 ⟨es7, rfl, M7, c7, _⟩
            have B7 := Chg.below (a := w1) B6 c7 (fun q hq => by have := (HM6.out.own.range q hq).1; omega)
            have KS7 := HKS6.out.chg c7 (HM6.out.own.notS HKS6.out (by decide) (by decide))
            have HKS7 := hide KS7
            clear c7 KS7 KO6 y0 y1 y2
            cases hdd : decide (t.2.1.length + 1 = ys.length)
            · have HDD := hide hdd
              clear hdd
              have hfin : (dirtyR ms (xs.take (k + 1))) = ((dirtyR ms (xs.take k)).1.set n0 (t.1, t.2.1 ++ [(1, (sy : Int), sv0)], false), (dirtyR ms (xs.take k)).2) := by rw [Hdr.out, Hso.out, HDD.out]
              have hst2 := Hstep.out (1, (sy : Int), sv0)
              rw [HDD.out] at hst2
              rw [Htb.out] at M7
              have HF := hide hfin; have HS2 := hide hst2; have HM7 := hide M7
              clear hfin hst2 M7
              go_wp2_with fail
              go_roundw
              case rel => exact ⟨k + 1, es7, by go_num, by omega, by rw [HF.out]; exact HM7.out, by rw [HF.out]; exact HKS7.out, by rw [HF.out]; exact HS2.out, by rw [HF.out]; exact HV.out, B7⟩
              case measure => simp [intOf]; omega
            · have HDD := hide hdd
              clear hdd
              have hfin : (dirtyR ms (xs.take (k + 1))) = ((dirtyR ms (xs.take k)).1.set n0 (t.1, t.2.1 ++ [(1, (sy : Int), sv0)], true), (dirtyR ms (xs.take k)).2) := by rw [Hdr.out, Hso.out, HDD.out]
              have hst2 := Hstep.out (1, (sy : Int), sv0)
              rw [HDD.out] at hst2
              have HF := hide hfin; have HS2 := hide hst2
              have hgt : ((dirtyR ms (xs.take k)).1.set n0 (t.1, t.2.1 ++ [(1, (sy : Int), sv0)], t.2.2))[n0]? = some (t.1, t.2.1 ++ [(1, (sy : Int), sv0)], t.2.2) := List.getElem?_set_self hjl
              obtain ⟨g, cg, Au, cu, hv, hnc, hlg, hgs, he, huc, c1, c2, ho⟩ := M7.look hn0 hgt
              subst hv
              obtain ⟨z0, z1, _, _⟩ := M7.box.two
              have fz := M7.own.free (n0 * 3 + 2)
              have D8 := M7.own.set2 he true
              have hgm8 : w1.heap.size ≠ g := by omega
              have hgs8 : w2.heap.size ≠ g := fun e => M7.own.notS HKS7.out (by decide) (by decide) (.inl (by rw [e]; rfl))
              have K8 := M7.box.far (p := ⟨g, n0 * 3 + 2, none⟩) hgm8 (.bool true)
              have KS8 := HKS7.out.far (p := ⟨g, n0 * 3 + 2, none⟩) hgs8 (.bool true)
              have B8 := B7.setCell (p := ⟨g, n0 * 3 + 2, none⟩) (by show w1.heap.size ≤ g; omega) (.bool true)
              have hsy8 := M7.says.set_ n0 (t.1, t.2.1 ++ [(1, (sy : Int), sv0)], true) (.slice Au (t.2.1 ++ [(1, (sy : Int), sv0)]).length cu) (t.2.1 ++ [(1, (sy : Int), sv0)]).length
              rw [List.set_set] at hsy8
              have M8 : Mach _ (w1.heap.size + 1) w1.heap.size A n c (.slice (some ⟨g, 0, none⟩) n cg) _ _ := ⟨K8, D8, hsy8, by omega⟩
              have HM8 := hide M8; have HKS8 := hide KS8
              clear M7 D8 K8 KS8 hsy8 M8 hfin hst2 hgt he ho hgm8
              go_wp2_with fail
              go_roundw
              case rel => exact ⟨k + 1, _, by go_num, by omega, by rw [HF.out]; exact HM8.out, by rw [HF.out]; exact HKS8.out, by rw [HF.out]; exact HS2.out, by rw [HF.out]; exact HV.out, B8⟩
              case measure => simp [intOf]; omega
          · have hsv : dirtyV (dirtyR ms (xs.take k)).2 n0 t.2.1.length (2, (sy : Int), 0) = (valOf n0 t.2.1.length) := by simp [dirtyV]
            have hss : dirtyS (dirtyR ms (xs.take k)).2 n0 t.2.1.length (2, (sy : Int), 0) = ((dirtyR ms (xs.take k)).2.set sy (valOf n0 t.2.1.length)) := by simp [dirtyS]
            have hso := Hsome.out
            rw [hsv, hss] at hso
            have Hso := hide hso
            have hvl : Vals ((dirtyR ms (xs.take k)).2.set sy (valOf n0 t.2.1.length)) := Hval.out.set_ sy (valOf_bd hn04 hL4'.out)
            have HV := hide hvl
            clear hsv hss hso hvl
            go_wp2_with fail
            refine (step_c M Rr hn4 hn0 HT.out HD.out hL4'.out Hs.out (q := (valOf n0 t.2.1.length)) (by simp)).mono ?_
            rintro e w3 ⟨rfl, b3⟩
            have B3 := below_step hbel b3
            have b4 : Below w3.heap.size w3 (w3.alloc (.cells #[.int .i64 2, .int .i64 (sy : Int), .int .i64 (valOf n0 t.2.1.length)] 53)) := (Below.refl _ _).alloc (Nat.le_refl _) _
            have M4 := (M.below b3).below b4
            have KS4 := (KS.belowAll b3).belowAll b4
            have KO := Blk.new w3 53 #[.int .i64 2, .int .i64 (sy : Int), .int .i64 (valOf n0 t.2.1.length)]
            have B4 := below_step B3 b4
            obtain ⟨vv, hvv⟩ : ∃ vv, valOf n0 t.2.1.length = vv := ⟨_, rfl⟩
            rw [hvv] at KO M4 KS4 B4 b4 HV Hso ⊢
            clear hvv
            go_wp2_with fail
            refine (writes_c).mono ?_
            rintro e w5 ⟨rfl, b5⟩
            rw [show ((2 : Int) == 2) = true by rfl]
            have B5 := below_step B4 b5
            replace M4 := M4.below b5
            replace KS4 := KS4.belowAll b5
            replace KO := KO.belowAll b5
            have hxr := b3.size; have hx5 := b5.size; have hsl3 := KS.lt
            have hrng := (M.below b3).own.range
            have HRg := hide hrng
            obtain ⟨o0, o1, o2⟩ := KO.three
            have of2 := KO.frozen 2
            have hko := KO.lt
            have s0 := (KS4.cell sy).trans (storeC_get Hsv.out)
            have sf := KS4.frozen sy
            have hks := KS4.lt
            have hne : w2.heap.size ≠ w3.heap.size := by omega
            have KS6 := KS4.set_ sy (.int .i64 vv)
            rw [storeC_set] at KS6
            have KO6 := KO.far (p := ⟨w2.heap.size, sy, none⟩) hne.symm (.int .i64 vv)
            have M6 := M4.chg (Chg.setCell (S := fun q => q = w2.heap.size) (p := ⟨w2.heap.size, sy, none⟩) rfl (.int .i64 vv)) (by omega) (fun q hq e => M4.own.notS KS4 (by decide) (by decide) (e ▸ hq))
            have B6 := B5.setCell (p := ⟨w2.heap.size, sy, none⟩) b2.size (.int .i64 vv)
            obtain ⟨y0, y1, y2⟩ := KO6.three
            have R6 := R1.below B6
            have hlo6 : w1.heap.size + 1 ≤ (w5.setCell ⟨w2.heap.size, sy, none⟩ (.int .i64 vv)).heap.size := by rw [size_setCell]; omega
            have HM6 := hide M6; have HKS6 := hide KS6
            clear M4 KS4 KO M6 KS6 M KS
            go_wp2_with fail
            refine (did_c HM6.out R6 HA1.out hn0 HT.out HD.out hL4'.out hlo6).mono ?_
            rintro e w7 ⟨es7, rfl, M7, c7, _⟩
            have B7 := Chg.below (a := w1) B6 c7 (fun q hq => by have := (HM6.out.own.range q hq).1; omega)
            have KS7 := HKS6.out.chg c7 (HM6.out.own.notS HKS6.out (by decide) (by decide))
            have HKS7 := hide KS7
            clear c7 KS7 KO6 y0 y1 y2
            cases hdd : decide (t.2.1.length + 1 = ys.length)
            · have HDD := hide hdd
              clear hdd
              have hfin : (dirtyR ms (xs.take (k + 1))) = ((dirtyR ms (xs.take k)).1.set n0 (t.1, t.2.1 ++ [(2, (sy : Int), vv)], false), ((dirtyR ms (xs.take k)).2.set sy vv)) := by rw [Hdr.out, Hso.out, HDD.out]
              have hst2 := Hstep.out (2, (sy : Int), vv)
              rw [HDD.out] at hst2
              rw [Htb.out] at M7
              have HF := hide hfin; have HS2 := hide hst2; have HM7 := hide M7
              clear hfin hst2 M7
              go_wp2_with fail
              go_roundw
              case rel => exact ⟨k + 1, es7, by go_num, by omega, by rw [HF.out]; exact HM7.out, by rw [HF.out]; exact HKS7.out, by rw [HF.out]; exact HS2.out, by rw [HF.out]; exact HV.out, B7⟩
              case measure => simp [intOf]; omega
            · have HDD := hide hdd
              clear hdd
              have hfin : (dirtyR ms (xs.take (k + 1))) = ((dirtyR ms (xs.take k)).1.set n0 (t.1, t.2.1 ++ [(2, (sy : Int), vv)], true), ((dirtyR ms (xs.take k)).2.set sy vv)) := by rw [Hdr.out, Hso.out, HDD.out]
              have hst2 := Hstep.out (2, (sy : Int), vv)
              rw [HDD.out] at hst2
              have HF := hide hfin; have HS2 := hide hst2
              have hgt : ((dirtyR ms (xs.take k)).1.set n0 (t.1, t.2.1 ++ [(2, (sy : Int), vv)], t.2.2))[n0]? = some (t.1, t.2.1 ++ [(2, (sy : Int), vv)], t.2.2) := List.getElem?_set_self hjl
              obtain ⟨g, cg, Au, cu, hv, hnc, hlg, hgs, he, huc, c1, c2, ho⟩ := M7.look hn0 hgt
              subst hv
              obtain ⟨z0, z1, _, _⟩ := M7.box.two
              have fz := M7.own.free (n0 * 3 + 2)
              have D8 := M7.own.set2 he true
              have hgm8 : w1.heap.size ≠ g := by omega
              have hgs8 : w2.heap.size ≠ g := fun e => M7.own.notS HKS7.out (by decide) (by decide) (.inl (by rw [e]; rfl))
              have K8 := M7.box.far (p := ⟨g, n0 * 3 + 2, none⟩) hgm8 (.bool true)
              have KS8 := HKS7.out.far (p := ⟨g, n0 * 3 + 2, none⟩) hgs8 (.bool true)
              have B8 := B7.setCell (p := ⟨g, n0 * 3 + 2, none⟩) (by show w1.heap.size ≤ g; omega) (.bool true)
              have hsy8 := M7.says.set_ n0 (t.1, t.2.1 ++ [(2, (sy : Int), vv)], true) (.slice Au (t.2.1 ++ [(2, (sy : Int), vv)]).length cu) (t.2.1 ++ [(2, (sy : Int), vv)]).length
              rw [List.set_set] at hsy8
              have M8 : Mach _ (w1.heap.size + 1) w1.heap.size A n c (.slice (some ⟨g, 0, none⟩) n cg) _ _ := ⟨K8, D8, hsy8, by omega⟩
              have HM8 := hide M8; have HKS8 := hide KS8
              clear M7 D8 K8 KS8 hsy8 M8 hfin hst2 hgt he ho hgm8
              go_wp2_with fail
              go_roundw
              case rel => exact ⟨k + 1, _, by go_num, by omega, by rw [HF.out]; exact HM8.out, by rw [HF.out]; exact HKS8.out, by rw [HF.out]; exact HS2.out, by rw [HF.out]; exact HV.out, B8⟩
              case measure => simp [intOf]; omega
      · obtain rfl : k = m := by omega
        have hfin : xs.take k = xs := List.take_of_length_le (by rw [hsl.out]; omega)
        rw [hfin] at M
        have hsmT := (by have := Hfit.out.small DB.out; rw [hfin] at this; exact this : SmallT (dirtyR ms xs).1)
        have HSM := hide hsmT
        clear hsmT
        have Bw := below_step b1 hbel
        go_wp2_with fail
        refine (history_c M (by omega) HSM.out).mono ?_
        rintro e w9 ⟨v9, es9, rfl, D9, hs9, b9⟩
        go_wp2_with fail
        go_ret
        exact ⟨_, n, es9, rfl, D9.mono Bw.size, by rw [F.out]; exact hs9, below_step Bw b9⟩

end Go.Proofs.YtfcfhgophpoibaaDoor
