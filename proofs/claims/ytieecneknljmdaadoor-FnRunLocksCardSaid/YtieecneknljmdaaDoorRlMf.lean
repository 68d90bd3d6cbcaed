/- Merged: LockI, WaitI, SkM, RunLS. -/
import Derived.Test.YtieecneknljmdaaDoorRlMe
import Derived.Deep.DeepCutAuto
import Derived.Test.YtieecneknljmdaaDoorRlMb
namespace Go.Proofs.YtieecneknljmdaaDoor
open Go.RowKit Go.Maps

theorem reads_c {x y z : Int} {w : World} : Calls Tryd.prog 65 #[.agg #[.int .i64 x, .int .i64 y, .int .i64 z]] w fun e w' => e = .returned (.bool (x == 1)) ∧ Below w.heap.size w w' := by
  go_enter Tryd.func65, Tryd.ntmps65
  go_wp2_with fail
  go_ret
  exact ⟨rfl, (Below.refl _ _).alloc (Nat.le_refl _) _⟩
set_option maxRecDepth 100000 in
set_option maxHeartbeats 16000000 in
theorem impl_runLocks_c {A : Option Addr} {n c : Nat} {ms : Ds} {sv : Value} {m : Nat} {xs : List Int} {w : World} (hr : RDs w A n ms) (hn : n ≤ 1048576) (hsm : SmallD ms) (hs : SI w sv m xs) (hrun : runB ms xs = true) :
    Calls Tryd.prog 34 #[.slice A n c, sv] w fun e w' => ∃ v m es, e = .returned v ∧ OV w' w.heap.size v m es ∧ SaysT es (lockR ms xs).1 ∧ Below w.heap.size w w' := by
  have ss := hs
  have hl := hide hr.1
  obtain ⟨As, cs, rfl, hsnc, hsn, hsr⟩ := hs
  have hsl := hide hsr.len
  obtain ⟨hn4, hdb, hm40, hxb⟩ := runB_parts hrun
  have Q := hide hrun; have DB := hide hdb; have XB := hide hxb
  rw [hl.out] at hn4
  rw [hsl.out] at hm40
  have hmk := fun (v : World) => run_makeMap (P := Tryd.prog) 90 v
  clear hdb hxb hrun
  go_enter Tryd.func34, Tryd.ntmps34
  go_wp2_with fail
  refine (machineOf_c hr (by omega) hsm).mono ?_
  rintro e w2 ⟨v, es0, rfl, M0, b2⟩
  have hz2 := M0.box.lt
  have b3 : Below w2.heap.size w2 ((w2.alloc (.cells #[.int .i64 0, .int .i64 0, .int .i64 0] 80)).alloc (.map #[] 0)) := ((Below.refl _ _).alloc (Nat.le_refl _) _).alloc (by simp) _
  have K1 := (Blk.new w2 80 #[.int .i64 0, .int .i64 0, .int .i64 0]).alloc (.map #[] 0)
  have H1 := HoldM.zero (w2.alloc (.cells #[.int .i64 0, .int .i64 0, .int .i64 0] 80))
  simp only [World.size_alloc] at H1
  have LK0 : Lk w w2.heap.size A n c v (emptyT ms) [0, 0, 0] [0, 0, 0] 0 es0 _ := ⟨M0.below b3, K1, H1, below_step b2 b3, hz2⟩
  clear M0 K1 H1
  go_wp2_with fail
  go_loopw [24] (fun i wr => ∃ (k : Nat) (es : List El), i = .int .i64 k ∧ k ≤ m ∧ Lk w w2.heap.size A n c v (lockR ms (xs.take k)).1 (lockR ms (xs.take k)).2.1 (lockR ms (xs.take k)).2.2 k es wr ∧ LockI ms (lockR ms (xs.take k)) ∧ w2.heap.size + 1 < wr.heap.size) (fun i _ => m - (intOf i).toNat)
  case atStart => exact ⟨0, es0, rfl, Nat.zero_le _, by simpa [lockR] using LK0, by simpa [lockR] using LockI.zero DB.out, by simp⟩
  case round =>
    clear LK0 b2 b3
    obtain ⟨k, es, rfl, hk, hlk, hinv, hsz⟩ := hrel
    have Hinv := hide hinv; have LK := hide hlk; clear hinv hlk
    by_cases hkm : k < m
    · obtain ⟨b, off, x, rfl, hb, hx, hc⟩ := hsr.at_ hkm
      obtain ⟨hx0, hx1⟩ := XB.out x (List.mem_of_getElem? hx)
      rw [hl.out] at hx1
      obtain ⟨n0, rfl⟩ : ∃ q : Nat, x = q := ⟨x.toNat, by omega⟩
      have hn0 : n0 < n := by omega
      obtain ⟨d, t, hd, ht, hst, hop, hse, hle, hdn⟩ := Hinv.out.fits.at_ (show n0 < ms.length by rw [hl.out]; exact hn0)
      obtain ⟨f, ys⟩ := d
      dsimp only at hst hle hdn
      have hdp := draftB_parts (DB.out _ (List.mem_of_getElem? hd))
      dsimp only at hdp
      have q0 := (LK.out.bel.cell (p := ⟨b, off + k, none⟩) hb).trans hc
      have hdr := lockR_snoc (ds := ms) hx
      rw [Int.toNat_natCast] at hdr
      have n0i : (0 : Int) ≤ n0 := by omega
      have n1i : (n0 : Int) < n := by omega
      have k0 : (0 : Int) ≤ k := by omega
      have k1 : (k : Int) < m := by omega
      have Rr := hr.below LK.out.bel
      have Hdr := hide hdr; have Hst := hide hst; have Hop := hide hop; have Hse := hide hse; have Hdn := hide hdn
      have hA1 : ∀ b off, A = some ⟨b, off, none⟩ → b < w.heap.size + 1 := fun b off e => by
        obtain ⟨b', off', e', h', _⟩ := hr.2 (by omega)
        rw [e] at e'; injection e' with e'; injection e' with e'; subst e'; omega
      have HA1 := hide hA1
      clear hx hc hst hop hse hdn hdr hA1
      by_cases hfull : t.2.1.length = ys.length
      · have hnone := lock1_none (ds := ms) (d := (f, ys)) (t := t) (S := lockR ms (xs.take k)) Hst.out Hop.out hfull
        have Hn := hide hnone
        clear hnone
        have FU := hide hfull; have HT := hide ht; have HD := hide hd
        clear hfull ht hd
        go_wp2_with fail
        refine (step_full_c LK.out.mach Rr hn0 HT.out HD.out FU.out).mono ?_
        rintro e w3 ⟨rfl, b3⟩
        have LK3 := hide ((LK.out.below b3).alloc (.cells #[.int .i64 0, .int .i64 0, .int .i64 0] 51))
        have hz3 := b3.size
        go_wp2_with fail
        go_roundw
        case rel => exact ⟨k + 1, es, by go_num, by omega, by rw [Hdr.out, Hn.out]; exact LK3.out.mono (by omega), by rw [Hdr.out, Hn.out]; exact Hinv.out, by simp; omega⟩
        case measure => simp [intOf]; omega
      · have hlt : t.2.1.length < ys.length := by omega
        obtain ⟨⟨sx, sy, sz⟩, hs'⟩ : ∃ s, ys[t.2.1.length]? = some s := ⟨_, List.getElem?_eq_getElem hlt⟩
        have hsp := hdp.2.2.2 _ (List.mem_of_getElem? hs')
        dsimp only at hsp
        obtain ⟨hk12, ⟨sy0, sy2⟩, rfl⟩ := hsp
        obtain ⟨sy, rfl⟩ : ∃ q : Nat, sy = q := ⟨sy.toNat, by omega⟩
        have hsy2 : sy ≤ 2 := by omega
        have hL4 : t.2.1.length < 4 := by omega
        have hn04 : n0 < 4 := by omega
        obtain ⟨q0v, hq0v⟩ : ∃ q : Int, (if sx = 2 then valOf n0 t.2.1.length else 0) = q := ⟨_, rfl⟩
        have Hq := hide hq0v; have Hs := hide hs'; have HT := hide ht; have HD := hide hd; have Hlt := hide hlt
        have sy3 : (sy : Int) < 3 := by omega
        have hL4' := hide hL4
        obtain ⟨⟨S1, ST, OW⟩, hS⟩ : ∃ S, lockR ms (xs.take k) = S := ⟨_, rfl⟩
        rw [hS] at Hdr Hinv LK Hop Hse HT
        dsimp only at LK Hop Hse HT
        have holen := Hinv.out.olen
        dsimp only at holen
        clear hS
        clear hs' ht hd hlt hfull hdp hle sy2 hL4 hq0v
        go_wp2_with fail
        refine (step_c LK.out.mach Rr hn4 hn0 HT.out HD.out hL4'.out Hs.out (q := q0v) (by simpa using Hq.out.symm)).mono ?_
        rintro e w3 ⟨rfl, b3⟩
        obtain ⟨W4, hW4⟩ : ∃ W, w3.alloc (.cells #[.int .i64 sx, .int .i64 (sy : Int), .int .i64 q0v] 51) = W := ⟨_, rfl⟩
        have LK4 : Hid _ := hide ((LK.out.below b3).alloc (.cells #[.int .i64 sx, .int .i64 (sy : Int), .int .i64 q0v] 51))
        have KO := Blk.new w3 51 #[.int .i64 sx, .int .i64 (sy : Int), .int .i64 q0v]
        have hob : ∀ k, OT.S v es k → k < w3.heap.size := fun k hk => ((LK.out.below b3).mach.own.range k hk).2
        have HOB := hide hob
        have hz3 : w2.heap.size + 1 < w3.heap.size := by have := b3.size; omega
        have hW4z : W4.heap.size = w3.heap.size + 1 := by rw [← hW4]; simp
        rw [hW4] at LK4 KO
        obtain ⟨o0, o1, o2⟩ := KO.three
        have HKO := hide (keyInt (wfI_small (x := (sy : Int)) (by omega) (by omega)))
        obtain ⟨D, hown, hD⟩ := LK4.out.hold
        have hhas := (hD sy hsy2).1
        have hat := (hD sy hsy2).2
        have HDD := hide hD; have HMD := hide hown.isMap; have HOWN := hide hown
        clear hD hob
        by_cases hoth : OW.getD sy 0 ≠ 0 ∧ OW.getD sy 0 ≠ (n0 : Int) + 1
        · have hheld := lock1_held (ds := ms) (d := (f, ys)) (t := t) (S := (S1, ST, OW)) (n := n0) Hst.out Hop.out Hs.out (by simpa using hoth)
          have HH := hide hheld
          rw [show holdB OW sy = true by unfold holdB; simpa using hoth.1] at hhas
          obtain ⟨hv, hhv⟩ : ∃ hv, holdV OW sy = hv := ⟨_, rfl⟩
          rw [hhv] at hat
          have hne : (hv != (n0 : Int)) = true := by rw [← hhv]; unfold holdV; rw [if_neg hoth.1, bne_iff_ne]; intro e; exact hoth.2 (by omega)
          have HHas := hide hhas; have HAt := hide hat
          clear hheld hhas hat hhv hoth
          subst hW4
          go_wp2_with (at_lookup; refine wpList_lookup_own_ok_int _ rfl _ _ 90 rfl 3 3 .i64 lawInt Tryd.underlying90 Tryd.underlying3 (zeroInt _) (w2.heap.size + 1) k D rfl hown _ _ rfl HKO.out ?_; intro cc hcc hwc; obtain rfl : cc = hv := (by have h1 := hcc.symm.trans HAt.out; simpa using h1); clear hcc; rw [HHas.out])
          go_roundw
          case rel => exact ⟨k + 1, es, by go_num, by omega, by rw [Hdr.out, HH.out]; exact LK4.out.mono (by omega), by rw [Hdr.out, HH.out]; exact Hinv.out, by omega⟩
          case measure => simp [intOf]; omega
        · have hcase := lock_free hoth
          have HOth := hide hoth
          clear hoth
          obtain ⟨HB, hHB⟩ : ∃ b, holdB OW sy = b := ⟨_, rfl⟩
          obtain ⟨HV, hHV⟩ : ∃ b, holdV OW sy = b := ⟨_, rfl⟩
          rw [hHB, hHV] at hcase
          rw [hHB] at hhas
          rw [hHV] at hat
          have HHas := hide hhas; have HAt := hide hat
          clear hhas hat hHB hHV
          subst hW4
          go_upto_region 10 with (at_lookup; refine wpList_lookup_own_ok_int _ rfl _ _ 90 rfl 3 3 .i64 lawInt Tryd.underlying90 Tryd.underlying3 (zeroInt _) (w2.heap.size + 1) k D rfl hown _ _ rfl HKO.out ?_; intro cc hcc hwc; obtain rfl : cc = HV := (by have h1 := hcc.symm.trans HAt.out; simpa using h1); clear hcc; rw [HHas.out])
          go_cut [12, 13, 48] (fun _ _ s wx => s = .bool false ∧ Below (w3.heap.size + 1) (w3.alloc (.cells #[.int .i64 sx, .int .i64 (sy : Int), .int .i64 q0v] 51)) wx)
          case first =>
            rcases hcase with ⟨rfl, rfl⟩ | ⟨rfl, rfl⟩
            all_goals
              go_wp2_with fail
              go_meet
              case rel => exact ⟨rfl, Below.refl _ _⟩
          case rest =>
            obtain ⟨rfl, bc⟩ := hcut
            have hbc : Below (w3.alloc (.cells #[.int .i64 sx, .int .i64 (sy : Int), .int .i64 q0v] 51)).heap.size (w3.alloc (.cells #[.int .i64 sx, .int .i64 (sy : Int), .int .i64 q0v] 51)) wc := by rw [World.size_alloc]; exact bc
            have LKC := hide (LK4.out.below hbc)
            have KOC := KO.belowAll hbc
            have hzc : w3.heap.size < wc.heap.size := KOC.lt
            have LKH := LKC.out.hold
            obtain ⟨DC, hownC, hDC⟩ := LKH
            have HDC := hide hDC; have HMC := hide hownC.isMap
            clear hown bc hbc hDC o0 o1 o2 KO
            obtain ⟨o0, o1, o2⟩ := KOC.three
            go_wp2_with (at_mapUpdate; refine wpList_mapUpdate_own _ rfl _ _ _ 90 rfl 3 3 lawInt Tryd.underlying90 (plainElem Tryd.prog 3) (w2.heap.size + 1) k DC rfl hownC (by unfold maxLen; omega) _ _ _ rfl rfl HKO.out _ [] (plainElem_int Tryd.underlying3 (WalkArith.wf_i64 (by omega))) ?_; intro w5 hown5 hgrow5; have KO5 := KOC.grown hgrow5 (fun e => by injection e with e; omega); have Z5 := KO5.three; obtain ⟨z0, z1, z2⟩ := Z5)
            have HO5 : HoldM w5 (w2.heap.size + 1) (k + 1) (OW.set sy ((n0 : Int) + 1)) := ⟨_, hown5, HDC.out.put HMC.out holen (by omega) n0⟩
            have LK5 := LKC.out.turn hgrow5 HO5
            clear hown5 hownC HO5 hgrow5 o0 o1 o2 KOC
            refine (reads_c).mono ?_
            rintro e w6 ⟨rfl, b6⟩
            have LK6 := hide (LK5.below b6)
            have KO6 := KO5.belowAll b6
            have hz6 : w3.heap.size < w6.heap.size := KO6.lt
            clear LK5 KO5 z0 z1 z2
            go_upto_if 54 with fail
            go_cut [] (fun wx => Lk w w2.heap.size A n c v S1 ST (OW.set sy ((n0 : Int) + 1)) (k + 1) es wx ∧ Blk wx w3.heap.size 51 #[.int .i64 sx, .int .i64 (sy : Int), .int .i64 (lockV t.2.1 ST n0 (sx, (sy : Int), 0))])
            case first =>
              rcases hk12 with rfl | rfl
              · rw [show ((1 : Int) == 1) = true by rfl]
                obtain ⟨g, cg, Au, cu, hv, hnc, hlg, hgs, he, huc, c1, c2, ho⟩ := LK6.out.mach.look hn0 HT.out
                subst hv
                have c0 := (LK6.out.mach.own.cells he).1
                obtain ⟨s0, s1, s2, hst3⟩ : ∃ a b c, ST = [a, b, c] := by
                  have h3 := Hinv.out.vals.1
                  match ST, h3 with
                  | [a, b, c], _ => exact ⟨a, b, c, rfl⟩
                subst hst3
                have K3 : Blk w6 w2.heap.size 80 #[.int .i64 s0, .int .i64 s1, .int .i64 s2] := LK6.out.store
                obtain ⟨m0, m1, _, _⟩ := LK6.out.mach.box.two
                obtain ⟨t0, t1, t2⟩ := K3.three
                obtain ⟨z0, z1, z2⟩ := KO6.three
                have hgmb : w.heap.size < w6.heap.size := LK6.out.mach.box.lt
                have hstb : w2.heap.size < w6.heap.size := K3.lt
                have hg3 : g ≠ w3.heap.size := by have := HOB.out g (.inl rfl); omega
                have hc8 : ∀ W' : World, Below w6.heap.size w6 W' → (W'.cell? ⟨w.heap.size, 1, none⟩ = some (.slice (some ⟨g, 0, none⟩) n cg) ∧ W'.cell? ⟨g, n0 * 3, none⟩ = some (.int .i64 t.1) ∧ W'.cell? ⟨g, n0 * 3 + 1, none⟩ = some (.slice Au t.2.1.length cu) ∧ W'.cell? ⟨g, n0 * 3 + 2, none⟩ = some (.bool t.2.2) ∧ W'.cell? ⟨w2.heap.size, 0, none⟩ = some (.int .i64 s0) ∧ W'.cell? ⟨w2.heap.size, 1, none⟩ = some (.int .i64 s1) ∧ W'.cell? ⟨w2.heap.size, 2, none⟩ = some (.int .i64 s2) ∧ W'.cell? ⟨w3.heap.size, 1, none⟩ = some (.int .i64 (sy : Int))) := fun W' h => ⟨(h.cell hgmb).trans m1, (h.cell hgs).trans c0, (h.cell hgs).trans c1, (h.cell hgs).trans c2, (h.cell hstb).trans t0, (h.cell hstb).trans t1, (h.cell hstb).trans t2, (h.cell hz6).trans z1⟩
                have hc9 : ∀ (W8 W' : World) (u : Value), W' = W8.setCell ⟨w3.heap.size, 2, none⟩ u → Below w6.heap.size w6 W8 → (W'.cell? ⟨w.heap.size, 1, none⟩ = some (.slice (some ⟨g, 0, none⟩) n cg) ∧ W'.cell? ⟨g, n0 * 3, none⟩ = some (.int .i64 t.1) ∧ W'.cell? ⟨g, n0 * 3 + 1, none⟩ = some (.slice Au t.2.1.length cu) ∧ W'.cell? ⟨g, n0 * 3 + 2, none⟩ = some (.bool t.2.2) ∧ W'.cell? ⟨w2.heap.size, 0, none⟩ = some (.int .i64 s0) ∧ W'.cell? ⟨w2.heap.size, 1, none⟩ = some (.int .i64 s1) ∧ W'.cell? ⟨w2.heap.size, 2, none⟩ = some (.int .i64 s2) ∧ W'.cell? ⟨w3.heap.size, 1, none⟩ = some (.int .i64 (sy : Int))) := fun W8 W' u hW h => by
                  obtain ⟨h1, h2, h3, h4, h5, h6, h7, h8⟩ := hc8 W8 h
                  subst hW
                  refine ⟨(World.cell?_setCell_far _ _ _ _ (by show w3.heap.size ≠ w.heap.size; omega)).trans h1, (World.cell?_setCell_far _ _ _ _ hg3.symm).trans h2, (World.cell?_setCell_far _ _ _ _ hg3.symm).trans h3, (World.cell?_setCell_far _ _ _ _ hg3.symm).trans h4, (World.cell?_setCell_far _ _ _ _ (by show w3.heap.size ≠ w2.heap.size; omega)).trans h5, (World.cell?_setCell_far _ _ _ _ (by show w3.heap.size ≠ w2.heap.size; omega)).trans h6, (World.cell?_setCell_far _ _ _ _ (by show w3.heap.size ≠ w2.heap.size; omega)).trans h7, (((KO6.belowAll h).set_ 2 u).cell 1)⟩
                have htx : txnB (t.1, t.2.1, t.2.2) = true := Hinv.out.txn DB.out HT.out HD.out
                have hseen := impl_seen_c (s0 := s0) (s1 := s1) (s2 := s2) (ho.s3.below ((Below.refl w6.heap.size w6).drew)) htx hsy2
                have hof : ∀ W8, Below w6.heap.size w6 W8 → W8.frozen? ⟨w3.heap.size, 2, none⟩ = false := fun W8 h => (KO6.belowAll h).frozen 2
                have hoc : ∀ W8, Below w6.heap.size w6 W8 → W8.cell? ⟨w3.heap.size, 2, none⟩ = some (.int .i64 q0v) := fun W8 h => (KO6.belowAll h).cell 2
                have hlv2 : lockV t.2.1 [s0, s1, s2] n0 (1, (sy : Int), 0) = seesV t.2.1 [s0, s1, s2] sy := by unfold lockV; dsimp only; rw [if_neg (show ¬ ((1 : Int) = 2) by decide)]; rfl
                have HLV := hide hlv2
                clear hlv2
                go_wp2_with fail
                go_region_held3 (fun W' => (W'.cell? ⟨w.heap.size, 1, none⟩ = some (.slice (some ⟨g, 0, none⟩) n cg) ∧ W'.cell? ⟨g, n0 * 3, none⟩ = some (.int .i64 t.1) ∧ W'.cell? ⟨g, n0 * 3 + 1, none⟩ = some (.slice Au t.2.1.length cu) ∧ W'.cell? ⟨g, n0 * 3 + 2, none⟩ = some (.bool t.2.2) ∧ W'.cell? ⟨w2.heap.size, 0, none⟩ = some (.int .i64 s0) ∧ W'.cell? ⟨w2.heap.size, 1, none⟩ = some (.int .i64 s1) ∧ W'.cell? ⟨w2.heap.size, 2, none⟩ = some (.int .i64 s2) ∧ W'.cell? ⟨w3.heap.size, 1, none⟩ = some (.int .i64 (sy : Int))))
                  (first | exact hc8 _ (Below.refl _ _).drew | exact hc8 _ (below_of_drew b8) | exact hc9 _ _ _ rfl (below_of_drew b8))
                  (first | (go_at_call 66; refine hseen.mono ?_; rintro e w8 ⟨rfl, b8⟩; have f8 := hof _ (below_of_drew b8); have k8 := hoc _ (below_of_drew b8)))
                replace b8 := below_of_drew b8
                go_wp2_with fail
                go_meet
                case rel =>
                  rw [HLV.out]
                  exact ⟨(LK6.out.below b8).other (by omega) HOB.out 2 _, (KO6.belowAll b8).set_ 2 _⟩
              · rw [show ((2 : Int) == 1) = false by rfl]
                go_wp2_with fail
                go_meet
                case rel =>
                  refine ⟨LK6.out, ?_⟩
                  have hq : valOf n0 t.2.1.length = q0v := by have := Hq.out; simpa using this
                  have hlv2 : lockV t.2.1 ST n0 (2, (sy : Int), 0) = q0v := by unfold lockV; dsimp only; rw [if_pos rfl]; exact hq
                  rw [hlv2]; exact KO6
            case rest =>
              obtain ⟨lk9, ko9⟩ := hcut
              obtain ⟨lv, hlv⟩ : ∃ lv, lockV t.2.1 ST n0 (sx, (sy : Int), 0) = lv := ⟨_, rfl⟩
              rw [hlv] at ko9
              have HLO := hide (show lockO t.2.1 ST n0 (sx, (sy : Int), 0) = (sx, (sy : Int), lv) by unfold lockO; dsimp only; rw [hlv])
              have LK9 := hide lk9
              obtain ⟨y0, y1, y2⟩ := ko9.three
              have R9 := hr.below lk9.bel
              have hz9 : w3.heap.size < wc.heap.size := ko9.lt
              have hlo9 : w.heap.size + 1 ≤ wc.heap.size := by omega
              clear lk9 hlv ko9 LK6 KO6 hz6
              go_wp2_with fail
              refine (did_c LK9.out.mach R9 HA1.out hn0 HT.out HD.out hL4'.out hlo9).mono ?_
              rintro e w10 ⟨es10, rfl, M10, c10, _⟩
              have LK10 := hide (LK9.out.did M10 c10)
              have hz10 : wc.heap.size ≤ w10.heap.size := c10.size
              clear y0 y1 y2 M10 c10 R9
              cases hdd : decide (t.2.1.length + 1 = ys.length)
              · have hmore := lock1_more (ds := ms) (d := (f, ys)) (t := t) (S := (S1, ST, OW)) (n := n0) Hst.out Hop.out Hse.out Hs.out (by simpa using HOth.out) (by simpa using hdd)
                have hinv2 := Hinv.out.more (d := (f, ys)) (s := (sx, (sy : Int), 0)) HT.out HD.out Hlt.out hn04 hL4'.out hk12 ⟨sy0, (by omega : (sy : Int) ≤ 2)⟩ (by simpa using HOth.out) (by simpa using hdd)
                dsimp only at hmore hinv2
                rw [HLO.out] at hmore hinv2
                rw [Int.toNat_natCast] at hmore hinv2
                have hbf : t.2.2 = false := by rw [Hdn.out]; have := Hlt.out; simp; omega
                rw [hbf] at LK10
                have HMO := hide hmore; have HI2 := hide hinv2
                clear hmore hinv2 hdd hbf
                go_wp2_with fail
                go_roundw
                case rel => exact ⟨k + 1, es10, by go_num, by omega, by rw [Hdr.out, HMO.out]; exact LK10.out, by rw [Hdr.out, HMO.out]; exact HI2.out, by omega⟩
                case measure => simp [intOf]; omega
              · have hlast := lock1_last (ds := ms) (d := (f, ys)) (t := t) (S := (S1, ST, OW)) (n := n0) Hst.out Hop.out Hse.out Hs.out (by simpa using HOth.out) (by simpa using hdd)
                have hinv2 := Hinv.out.last (d := (f, ys)) (s := (sx, (sy : Int), 0)) HT.out HD.out Hlt.out hn04 hL4'.out hk12 ⟨sy0, (by omega : (sy : Int) ≤ 2)⟩ (by simpa using HOth.out) (by simpa using hdd)
                dsimp only at hlast hinv2
                rw [HLO.out] at hlast hinv2
                rw [Int.toNat_natCast] at hlast hinv2
                have HLA := hide hlast; have HI2 := hide hinv2
                have hjl := (List.getElem?_eq_some_iff.1 HT.out).1
                have hgt : (S1.set n0 (t.1, t.2.1 ++ [(sx, (sy : Int), lv)], t.2.2))[n0]? = some (t.1, t.2.1 ++ [(sx, (sy : Int), lv)], t.2.2) := List.getElem?_set_self hjl
                have htx2 := hinv2.txn (n := n0) DB.out (List.getElem?_set_self hjl) HD.out
                obtain ⟨os, hos⟩ : ∃ os, t.2.1 ++ [(sx, (sy : Int), lv)] = os := ⟨_, rfl⟩
                rw [hos] at HLA HI2 hgt htx2 LK10
                have HTX := hide htx2
                obtain ⟨g, cg, Au, cu, hv, hnc, hlg, hgs, he, huc, c1, c2, ho⟩ := LK10.out.mach.look hn0 hgt
                subst hv
                obtain ⟨z0, z1, _, _⟩ := LK10.out.mach.box.two
                have fz := LK10.out.mach.own.free (n0 * 3 + 2)
                obtain ⟨es12, lk12⟩ := LK10.out.done hn0 hgt
                dsimp only at lk12
                rw [List.set_set] at lk12
                obtain ⟨g', cg', Au2, cu2, hv2, _, _, _, he2, huc2, d1, d2, ho2⟩ := lk12.mach.look hn0 (by rw [List.getElem?_set_self hjl])
                obtain ⟨rfl, rfl⟩ : g = g' ∧ cg = cg' := by simpa using hv2
                have d0 := (lk12.mach.own.cells he2).1
                obtain ⟨y0, y1, _, _⟩ := lk12.mach.box.two
                have hlw := impl_lastWrites_c ho2.s3 HTX.out
                have LK12 := hide lk12
                have hz12 : (w10.setCell ⟨g, n0 * 3 + 2, none⟩ (.bool true)).heap.size = w10.heap.size := size_setCell ..
                clear hdd hlast hinv2 htx2 hgt c1 he ho he2 ho2 lk12 hos hv2 LK9
                go_wp2_with fail
                refine hlw.mono ?_
                rintro e w13 ⟨r13, kk, rfl, hret, b13⟩
                have LK13 := hide (LK12.out.below b13)
                have hz13 : w10.heap.size ≤ w13.heap.size := by have := b13.size; omega
                have HRET := hide hret
                clear y0 y1 d0 d1 d2 z0 z1 c2 fz hlw LK12 b13 hret
                obtain ⟨A3, c3, rfl, hnc3, hm3, hr3⟩ := HRET.out.s3
                have hl3 := hide hr3.len
                clear hr3
                have O13 := hide (HRET.out.mono (show w2.heap.size + 1 ≤ (w10.setCell ⟨g, n0 * 3 + 2, none⟩ (.bool true)).heap.size by rw [hz12]; omega))
                have hstl : ST.length = 3 := Hinv.out.vals.1
                have hopB : ∀ o ∈ os, opB o = true := fun o ho => HI2.out.ops n0 _ (List.getElem?_set_self hjl) o ho
                have HOPB := hide hopB; have HSTL := hide hstl; have HOL := hide holen
                have LK13' := hide (show Lk w w2.heap.size A n c (.slice (some ⟨g, 0, none⟩) n cg) (S1.set n0 (t.1, os, true)) (commitTo os ST 0) (OW.set sy ((n0 : Int) + 1)) (k + 1) es12 w13 from LK13.out)
                clear HRET LK13 hopB hstl holen
                go_wp2_with fail
                go_loopw [88] (fun i wr' => ∃ j : Nat, i = .int .i64 j ∧ j ≤ kk ∧ Lk w w2.heap.size A n c (.slice (some ⟨g, 0, none⟩) n cg) (S1.set n0 (t.1, os, true)) (commitTo os ST j) (OW.set sy ((n0 : Int) + 1)) (k + 1) es12 wr' ∧ O3 51 wr' (w2.heap.size + 1) (.slice A3 kk c3) kk (lastW os) ∧ w13.heap.size ≤ wr'.heap.size) (fun i _ => kk - (intOf i).toNat)
                case atStart => exact ⟨0, rfl, Nat.zero_le _, LK13'.out, O13.out, Nat.le_refl _⟩
                case round =>
                  clear LK13' O13
                  obtain ⟨j, rfl, hj, hlkj, hoj, hzj⟩ := hrel
                  have LKJ := hide hlkj; have OJ := hide hoj
                  clear hlkj hoj
                  by_cases hjk : j < kk
                  · obtain ⟨A4, c4, hA4, _, _, hr4⟩ := OJ.out.s3
                    obtain ⟨rfl, rfl⟩ : A3 = A4 ∧ c3 = c4 := by simpa using hA4
                    obtain ⟨bb, oo, x, y, z, rfl, hbb, hx, p0, p1, p2⟩ := hr4.at_ hjk
                    have hkey := opB_key (HOPB.out _ (lastW_mem (List.mem_of_getElem? hx)).1)
                    obtain ⟨yn, rfl⟩ : ∃ q : Nat, y = q := ⟨y.toNat, by omega⟩
                    have hcl : (commitTo os ST j).length = 3 := by rw [commitTo_len]; exact HSTL.out
                    obtain ⟨u, hu⟩ : ∃ u, (commitTo os ST j)[yn]? = some u := ⟨_, List.getElem?_eq_getElem (by omega)⟩
                    have hcs := commitTo_succ (st := ST) hx
                    dsimp only at hcs
                    rw [Int.toNat_natCast] at hcs
                    have HCS := hide hcs
                    have LKA := hide (LKJ.out.alloc (.cells #[.int .i64 x, .int .i64 (yn : Int), .int .i64 z] 51))
                    have s0 := (LKA.out.store.cell yn).trans (storeC_get hu)
                    have sf := LKA.out.store.frozen yn
                    have j0 : (0 : Int) ≤ j := by omega
                    have j1 : (j : Int) < kk := by omega
                    have yn0 : (0 : Int) ≤ yn := by omega
                    have yn3 : (yn : Int) < 3 := by omega
                    have hOA := (OJ.out.below ((Below.refl _ _).alloc (Nat.le_refl _) (.cells #[.int .i64 x, .int .i64 (yn : Int), .int .i64 z] 51)))
                    have HOA := hide (OF.chg hOA.of (Chg.setCell (S := fun q => q = w2.heap.size) (p := ⟨w2.heap.size, yn, none⟩) rfl (.int .i64 z)) (fun q hq e => by have := (hOA.of.lt q hq).1; omega))
                    clear hx hu hcs hcl hkey hr4 hOA hA4
                    go_wp2_with fail
                    go_roundw
                    case rel => exact ⟨j + 1, by go_num, by omega, by rw [HCS.out]; exact LKA.out.put yn z, HOA.out, by rw [size_setCell]; simp; omega⟩
                    case measure => simp [intOf]; omega
                  · obtain rfl : j = kk := by omega
                    have hca := commitTo_all (os := os) HSTL.out hl3.out
                    rw [hca] at LKJ
                    have hol2 : (OW.set sy ((n0 : Int) + 1)).length = 3 := by simp [HOL.out]
                    obtain ⟨OW2, hOW2⟩ : ∃ o, OW.set sy ((n0 : Int) + 1) = o := ⟨_, rfl⟩
                    rw [hOW2] at hol2 LKJ HI2 HLA
                    have HOL2 := hide hol2
                    have LKJ' := hide (show Lk w w2.heap.size A n c (.slice (some ⟨g, 0, none⟩) n cg) (S1.set n0 (t.1, os, true)) (commitS os ST) (freeTo n0 OW2 0) (k + 1) es12 wr by rw [freeTo_zero]; exact LKJ.out)
                    clear hca hol2 hOW2 LKJ OJ
                    go_wp2_with fail
                    go_loopw [98] (fun i wr' => ∃ j : Nat, i = .int .i64 j ∧ j ≤ 3 ∧ Lk w w2.heap.size A n c (.slice (some ⟨g, 0, none⟩) n cg) (S1.set n0 (t.1, os, true)) (commitS os ST) (freeTo n0 OW2 j) (k + 1) es12 wr' ∧ w13.heap.size ≤ wr'.heap.size) (fun i _ => 3 - (intOf i).toNat)
                    case atStart => exact ⟨0, rfl, by omega, LKJ'.out, hzj⟩
                    case round =>
                      clear LKJ'
                      obtain ⟨j, rfl, hj, hlkj, hzk⟩ := hrel
                      have LKQ := hide hlkj
                      clear hlkj
                      by_cases hj3 : j < 3
                      · obtain ⟨x, hx⟩ : ∃ x, OW2[j]? = some x := ⟨_, List.getElem?_eq_getElem (by rw [HOL2.out]; exact hj3)⟩
                        obtain ⟨D, hown, hD⟩ := LKQ.out.hold
                        have hhas := (hD j (by omega)).1
                        have hat := (hD j (by omega)).2
                        have hfh := freeTo_hold (n := n0) hx
                        rw [hfh.1] at hhas
                        rw [hfh.2] at hat
                        have HDD := hide hD; have HX := hide hx
                        have HKJ := hide (keyInt (wfI_small (x := (j : Int)) (by omega) (by omega)))
                        have j0 : (0 : Int) ≤ j := by omega
                        have j1 : (j : Int) < 3 := by omega
                        clear hD hx hfh
                        by_cases hx1 : x = (n0 : Int) + 1
                        · subst hx1
                          rw [show (!decide ((n0 : Int) + 1 = 0)) = true by simp; omega] at hhas
                          rw [if_neg (show ¬ ((n0 : Int) + 1 = 0) by omega), show (n0 : Int) + 1 - 1 = n0 by omega] at hat
                          have HHas := hide hhas; have HAt := hide hat
                          have hownk := hown
                          have HS := hide (freeTo_free HX.out)
                          clear hhas hat
                          go_wp2_with (first | (at_lookup; refine wpList_lookup_own_ok_int _ rfl _ _ 90 rfl 3 3 .i64 lawInt Tryd.underlying90 Tryd.underlying3 (zeroInt _) (w2.heap.size + 1) (k + 1) D rfl hown _ _ rfl HKJ.out ?_; intro cc hcc hwc; obtain rfl : cc = (n0 : Int) := (by have h1 := hcc.symm.trans HAt.out; simpa using h1); clear hcc; rw [HHas.out]) | (at_delete; refine wpList_delete_own _ rfl _ _ 90 3 rfl 3 lawInt Tryd.underlying90 (plainElem Tryd.prog 3) (w2.heap.size + 1) (k + 1) D rfl hownk _ _ rfl HKJ.out ?_; intro w20 hown20 hturn20))
                          go_roundw
                          case rel => exact ⟨j + 1, by go_num, by omega, by rw [HS.out]; exact LKQ.out.turn hturn20.grown ⟨_, hown20, HDD.out.del (by rw [freeTo_len]; exact HOL2.out) (by omega)⟩, by have := hturn20.grown.size; omega⟩
                          case measure => simp [intOf]; omega
                        · have HS := hide (freeTo_keep (n := n0) HX.out hx1)
                          by_cases hx0 : x = 0
                          · subst hx0
                            rw [show (!decide ((0 : Int) = 0)) = false by rfl] at hhas
                            rw [if_pos rfl] at hat
                            have HHas := hide hhas; have HAt := hide hat
                            clear hhas hat hx1
                            go_wp2_with (at_lookup; refine wpList_lookup_own_ok_int _ rfl _ _ 90 rfl 3 3 .i64 lawInt Tryd.underlying90 Tryd.underlying3 (zeroInt _) (w2.heap.size + 1) (k + 1) D rfl hown _ _ rfl HKJ.out ?_; intro cc hcc hwc; obtain rfl : cc = 0 := (by have h1 := hcc.symm.trans HAt.out; simpa using h1); clear hcc; rw [HHas.out])
                            go_roundw
                            case rel => exact ⟨j + 1, by go_num, by omega, by rw [HS.out]; exact LKQ.out, by omega⟩
                            case measure => simp [intOf]; omega
                          · rw [show (!decide (x = 0)) = true by simpa using hx0] at hhas
                            rw [if_neg hx0] at hat
                            obtain ⟨xv, hxv⟩ : ∃ v, x - 1 = v := ⟨_, rfl⟩
                            rw [hxv] at hat
                            have hne : (xv == (n0 : Int)) = false := by rw [beq_eq_false_iff_ne]; omega
                            have HHas := hide hhas; have HAt := hide hat
                            clear hhas hat hx1 hx0 hxv
                            go_wp2_with (at_lookup; refine wpList_lookup_own_ok_int _ rfl _ _ 90 rfl 3 3 .i64 lawInt Tryd.underlying90 Tryd.underlying3 (zeroInt _) (w2.heap.size + 1) (k + 1) D rfl hown _ _ rfl HKJ.out ?_; intro cc hcc hwc; obtain rfl : cc = xv := (by have h1 := hcc.symm.trans HAt.out; simpa using h1); clear hcc; rw [HHas.out])
                            go_roundw
                            case rel => exact ⟨j + 1, by go_num, by omega, by rw [HS.out]; exact LKQ.out, by omega⟩
                            case measure => simp [intOf]; omega
                      · obtain rfl : j = 3 := by omega
                        have hfa := freeTo_all n0 HOL2.out
                        rw [hfa] at LKQ
                        clear hfa
                        go_wp2_with fail
                        go_roundw
                        case rel => exact ⟨k + 1, es12, by go_num, by omega, by rw [Hdr.out, HLA.out]; exact LKQ.out, by rw [Hdr.out, HLA.out]; exact HI2.out, by omega⟩
                        case measure => simp [intOf]; omega
    · obtain rfl : k = m := by omega
      have hfin : xs.take k = xs := List.take_of_length_le (by rw [hsl.out]; omega)
      rw [hfin] at LK
      have hsmT := (by have := Hinv.out.fits.small DB.out; rw [hfin] at this; exact this : SmallT (lockR ms xs).1)
      have HSM := hide hsmT
      clear hsmT
      obtain ⟨_, _, _, _⟩ := LK.out.mach.box.two
      go_wp2_with fail
      refine (history_c LK.out.mach (by omega) HSM.out).mono ?_
      rintro e w9 ⟨v9, es9, rfl, D9, hs9, b9⟩
      go_wp2_with fail
      go_ret
      exact ⟨_, n, es9, rfl, D9.mono LK.out.bel.size, hs9, below_step LK.out.bel b9⟩

end Go.Proofs.YtieecneknljmdaaDoor

namespace Go.Proofs.YtieecneknljmdaaDoor
open Go.RowKit

/-- Begun and not committed. -/
def waitB (t : Tx) : Bool := decide (0 < t.2.1.length) && !t.2.2
def waitTo (ts : List Tx) : Nat → List Int
  | 0 => []
  | k + 1 => waitTo ts k ++ (match ts[k]? with | some t => if waitB t then [(k : Int)] else [] | none => [])
theorem waitTo_yes {ts : List Tx} {k : Nat} {t : Tx} (h : ts[k]? = some t) (hb : waitB t = true) : waitTo ts (k + 1) = waitTo ts k ++ [(k : Int)] := by
  rw [waitTo, h]; simp [hb]
theorem waitTo_no {ts : List Tx} {k : Nat} {t : Tx} (h : ts[k]? = some t) (hb : waitB t = false) : waitTo ts (k + 1) = waitTo ts k := by
  rw [waitTo, h]; simp [hb]
theorem waitTo_len (ts : List Tx) (k : Nat) : (waitTo ts k).length ≤ k := by
  induction k with
  | zero => simp [waitTo]
  | succ k ih =>
    rw [waitTo, List.length_append]
    have : (match ts[k]? with | some t => if waitB t then [(k : Int)] else [] | none => []).length ≤ 1 := by split <;> (try split) <;> simp
    omega
def waitL (ds : Ds) (xs : List Int) : List Int := waitTo (lockL ds xs) (lockL ds xs).length
theorem lockL_len {ds : Ds} {xs : List Int} (h : Fits ds (lockR ds xs).1) (hr : runB ds xs = true) : (lockL ds xs).length = ds.length := by
  have : lockL ds xs = (lockR ds xs).1 := by simp [lockL, hr]
  rw [this]; exact h.1

theorem run_make_I0 (c : Nat) (hc : c ≤ 1048576) (w : World) :
    (Instr.makeSlice 27 (.int .i64 0) (.int .i64 (c : Int))).run Tryd.prog w = .ok (.slice (some ⟨w.heap.size, 0, none⟩) 0 c) (w.alloc (.cells (madeCells #[.int .i64 0] c) 3)) := by
  obtain ⟨i, hi, hz, hs, hb⟩ := info_parts intInfo
  have := run_make_rowN 27 3 i (.int .i64 0) Tryd.underlying27 hi hz .i64 .i64 0 c (Nat.zero_le _) (by rw [hb]; omega) (by omega) w
  rw [hs, Nat.mul_one] at this
  exact this
theorem own_I0 (w : World) (c : Nat) (hc : c ≤ 1048576) : OI (w.alloc (.cells (madeCells #[.int .i64 0] c) 3)) w.heap.size (.slice (some ⟨w.heap.size, 0, none⟩) 0 c) 0 [] :=
  ⟨⟨rfl, .inr ⟨w.heap.size, c, _, rfl, Nat.le_refl _, Blk.new w _ _, Nat.zero_le _, by simp [maxLen]; omega, by simp [madeCells], by simp⟩⟩, by omega⟩

set_option maxRecDepth 100000 in
set_option maxHeartbeats 4000000 in
theorem impl_RunLocks_c {A : Option Addr} {n c : Nat} {ms : Ds} {sv : Value} {m : Nat} {xs : List Int} {w : World} (hr : RDs w A n ms) (hn : n ≤ 1048576) (hsm : SmallD ms) (hs : SI w sv m xs) :
    Calls Tryd.prog 13 #[.slice A n c, sv] w fun e w' => ∃ v m es, e = .returned v ∧ OV w' w.heap.size v m es ∧ SaysT es (lockL ms xs) ∧ Below w.heap.size w w' := by
  have ss := hs
  have hl := hide hr.1
  cases hrun : runB ms xs
  · have hf : lockL ms xs = [] := by simp [lockL, hrun]
    have F := hide hf; have Q := hide hrun; clear hf hrun
    go_enter Tryd.func13, Tryd.ntmps13
    go_wp2_with fail
    refine (runnable_c hr (by omega) hsm ss).mono ?_
    rintro e w1 ⟨rfl, b1⟩
    rw [Q.out]
    go_wp2_with fail
    go_ret
    exact ⟨_, 0, [], rfl, ⟨⟨rfl, .inl ⟨rfl, rfl⟩⟩, fun j e h => by simp at h, fun i j p q _ h => by simp at h, by omega⟩, by rw [F.out]; rfl, b1⟩
  · have hf : lockL ms xs = (lockR ms xs).1 := by simp [lockL, hrun]
    have F := hide hf; have Q := hide hrun; clear hf hrun
    go_enter Tryd.func13, Tryd.ntmps13
    go_wp2_with fail
    refine (runnable_c hr (by omega) hsm ss).mono ?_
    rintro e w1 ⟨rfl, b1⟩
    rw [Q.out]
    go_wp2_with fail
    refine (impl_runLocks_c (hr.below b1) (by omega) hsm (ss.below b1) Q.out).mono ?_
    rintro e w2 ⟨v, k, es, rfl, D, hsy, b2⟩
    go_wp2_with fail
    go_ret
    exact ⟨_, k, es, rfl, D.mono b1.size, by rw [F.out]; exact hsy, below_step b1 b2⟩

end Go.Proofs.YtieecneknljmdaaDoor

namespace Go.Proofs.YtieecneknljmdaaDoor
open Go.RowKit

/-- The history, the store, the owners. -/
structure Sk (w0 : World) (gs n : Nat) (v : Value) (ts : List Tx) (st ow : List Int) (es : List El) (wr : World) : Prop where
  own : OT wr w0.heap.size v n es
  says : SaysT es ts
  store : Blk wr gs 3 (storeC st)
  owner : Blk wr (gs + 1) 3 (storeC ow)
  bel : Below w0.heap.size w0 wr
  le : w0.heap.size ≤ gs
section
variable {w0 wr w' : World} {gs n : Nat} {v : Value} {ts : List Tx} {st ow : List Int} {es : List El}
theorem Sk.ne_store (h : Sk w0 gs n v ts st ow es wr) : ¬ OT.S v es gs := h.own.notS h.store (by decide) (by decide)
theorem Sk.ne_owner (h : Sk w0 gs n v ts st ow es wr) : ¬ OT.S v es (gs + 1) := h.own.notS h.owner (by decide) (by decide)
theorem Sk.chg {S : Nat → Prop} (h : Sk w0 gs n v ts st ow es wr) (hc : Chg S wr w') (h0 : ∀ k, S k → w0.heap.size ≤ k) (h1 : ¬ S gs) (h2 : ¬ S (gs + 1)) (h3 : ∀ k, OT.S v es k → ¬ S k) : Sk w0 gs n v ts st ow es w' :=
  ⟨h.own.chg hc h3, h.says, h.store.chg hc h1, h.owner.chg hc h2, Chg.below h.bel hc h0, h.le⟩
theorem Sk.below (h : Sk w0 gs n v ts st ow es wr) (hb : Below wr.heap.size wr w') : Sk w0 gs n v ts st ow es w' :=
  h.chg (S := fun _ => False) (Chg.of_below hb) (fun _ e => e.elim) id id (fun _ _ => id)
theorem Sk.alloc (h : Sk w0 gs n v ts st ow es wr) (o : Obj) : Sk w0 gs n v ts st ow es (wr.alloc o) := h.below ((Below.refl _ _).alloc (Nat.le_refl _) _)
theorem Sk.drew (h : Sk w0 gs n v ts st ow es wr) : Sk w0 gs n v ts st ow es wr.drew := h.below (Below.refl _ _).drew
theorem Sk.putS (h : Sk w0 gs n v ts st ow es wr) (i : Nat) (x : Int) : Sk w0 gs n v ts (st.set i x) ow es (wr.setCell ⟨gs, i, none⟩ (.int .i64 x)) := by
  have hle := h.le
  have hc := Chg.setCell (w := wr) (S := fun k => k = gs) (p := ⟨gs, i, none⟩) rfl (.int .i64 x)
  have K := h.store.set_ i (.int .i64 x)
  rw [storeC_set] at K
  exact ⟨h.own.chg hc (fun k hk e => h.ne_store (e ▸ hk)), h.says, K, h.owner.chg hc (by omega), Chg.below h.bel hc (fun k hk => by omega), h.le⟩
theorem Sk.putO (h : Sk w0 gs n v ts st ow es wr) (i : Nat) (x : Int) : Sk w0 gs n v ts st (ow.set i x) es (wr.setCell ⟨gs + 1, i, none⟩ (.int .i64 x)) := by
  have hle := h.le
  have hc := Chg.setCell (w := wr) (S := fun k => k = gs + 1) (p := ⟨gs + 1, i, none⟩) rfl (.int .i64 x)
  have K := h.owner.set_ i (.int .i64 x)
  rw [storeC_set] at K
  exact ⟨h.own.chg hc (fun k hk e => h.ne_owner (e ▸ hk)), h.says, h.store.chg hc (by omega), K, Chg.below h.bel hc (fun k hk => by omega), h.le⟩
/-- One more operation. -/
theorem Sk.add {g c : Nat} (h : Sk w0 gs n (.slice (some ⟨g, 0, none⟩) n c) ts st ow es wr) {j : Nat} {t : Tx} {u : Value} (he : es[j]? = some (t.1, (u, t.2.1.length, flat3 t.2.1), t.2.2))
    (hg : wr.grownBy w' u.ownBlock) {u' : Value} {o : T3} {L : Nat} (ho : O3 51 w' w0.heap.size u' L (t.2.1 ++ [o])) (hq : u'.ownBlock = u.ownBlock ∨ u'.ownBlock = some wr.heap.size) :
    Sk w0 gs n (.slice (some ⟨g, 0, none⟩) n c) (ts.set j (t.1, t.2.1 ++ [o], t.2.2)) st ow (es.set j (t.1, (u', L, flat3 (t.2.1 ++ [o])), t.2.2)) (w'.setCell ⟨g, j * 3 + 1, none⟩ u') := by
  have hjl := (List.getElem?_eq_some_iff.1 he).1
  have hlg := h.own.base
  have h1 : gs ≠ g := fun e => h.ne_store (.inl (by rw [e]; rfl))
  have h2 : gs + 1 ≠ g := fun e => h.ne_owner (.inl (by rw [e]; rfl))
  have D1 := h.own.append he hg (q := (u', L, flat3 (t.2.1 ++ [o]))) ho.of (hq.imp id (fun e k hk => by rw [e] at hk; injection hk with hk; omega))
  have hc := Chg.of_grown (S := fun k => u.ownBlock = some k) hg (fun k e => e)
  refine ⟨D1, h.says.set_ j (t.1, t.2.1 ++ [o], t.2.2) u' L, ?_, ?_, ?_, h.le⟩
  · exact (h.store.chg hc (fun e => h.ne_store (.inr ⟨j, _, he, e⟩))).far h1 _
  · exact (h.owner.chg hc (fun e => h.ne_owner (.inr ⟨j, _, he, e⟩))).far h2 _
  · exact (Chg.below h.bel hc (fun k hk => (h.own.range k (.inr ⟨j, _, he, hk⟩)).1)).setCell (p := ⟨g, j * 3 + 1, none⟩) hlg.1 _
/-- What the history's row shows at a place. -/
theorem Sk.look (h : Sk w0 gs n v ts st ow es wr) {n0 : Nat} {t : Tx} (hn : n0 < n) (ht : ts[n0]? = some t) :
    ∃ g cg Au cu, v = .slice (some ⟨g, 0, none⟩) n cg ∧ n ≤ cg ∧ w0.heap.size ≤ g ∧ g < wr.heap.size ∧ es[n0]? = some (t.1, (.slice Au t.2.1.length cu, t.2.1.length, flat3 t.2.1), t.2.2) ∧ t.2.1.length ≤ cu ∧
      wr.cell? ⟨g, n0 * 3, none⟩ = some (.int .i64 t.1) ∧ wr.cell? ⟨g, n0 * 3 + 1, none⟩ = some (.slice Au t.2.1.length cu) ∧ wr.cell? ⟨g, n0 * 3 + 2, none⟩ = some (.bool t.2.2) ∧ O3 51 wr w0.heap.size (.slice Au t.2.1.length cu) t.2.1.length t.2.1 := by
  obtain ⟨u, he, ho⟩ := h.says.ops h.own ht
  rcases h.own.shape with ⟨_, h0⟩ | ⟨g, cg, rfl, hlg, hgs, hnc, hcm, _⟩
  · omega
  obtain ⟨c0, c1, c2⟩ := h.own.cells he
  obtain ⟨Au, cu, rfl, huc, _, _⟩ := ho.form
  exact ⟨g, cg, Au, cu, rfl, hnc, hlg, hgs, he, huc, c0, c1, c2, ho⟩
/-- A transaction's mark set. -/
theorem Sk.done {g cg : Nat} (h : Sk w0 gs n (.slice (some ⟨g, 0, none⟩) n cg) ts st ow es wr) {n0 : Nat} {t : Tx} (hn : n0 < n) (ht : ts[n0]? = some t) (b : Bool) :
    ∃ es', Sk w0 gs n (.slice (some ⟨g, 0, none⟩) n cg) (ts.set n0 (t.1, t.2.1, b)) st ow es' (wr.setCell ⟨g, n0 * 3 + 2, none⟩ (.bool b)) := by
  obtain ⟨g', cg', Au, cu, hv, hnc, hlg, hgs, he, huc, c0, c1, c2, ho⟩ := h.look hn ht
  obtain ⟨rfl, rfl⟩ : g = g' ∧ cg = cg' := by simpa using hv
  have D12 := h.own.set2 he b
  have h1 : gs ≠ g := fun e => h.ne_store (.inl (by rw [e]; rfl))
  have h2 : gs + 1 ≠ g := fun e => h.ne_owner (.inl (by rw [e]; rfl))
  have hsy := h.says.set_ n0 (t.1, t.2.1, b) (.slice Au t.2.1.length cu) t.2.1.length
  exact ⟨_, D12, hsy, h.store.far (p := ⟨g, n0 * 3 + 2, none⟩) h1 (.bool b), h.owner.far (p := ⟨g, n0 * 3 + 2, none⟩) h2 (.bool b), h.bel.setCell (p := ⟨g, n0 * 3 + 2, none⟩) hlg (.bool b), h.le⟩
end

end Go.Proofs.YtieecneknljmdaaDoor

namespace Go.Proofs.YtieecneknljmdaaDoor
open Go.RowKit

set_option maxRecDepth 100000 in
set_option maxHeartbeats 16000000 in
theorem spec_RunLocks_c {A : Option Addr} {n c : Nat} {ms : Ds} {sv : Value} {m : Nat} {xs : List Int} {w : World} (hr : RDs w A n ms) (hn : n ≤ 1048576) (hsm : SmallD ms) (hs : SI w sv m xs) :
    Calls Tryd.prog 15 #[.slice A n c, sv] w fun e w' => ∃ v m es, e = .returned v ∧ OT w' w.heap.size v m es ∧ SaysT es (lockL ms xs) ∧ Below w.heap.size w w' := by
  have ss := hs
  have hl := hide hr.1
  obtain ⟨As, cs, rfl, hsnc, hsn, hsr⟩ := hs
  have hsl := hide hsr.len
  have hmk := make3
  cases hp : planB ms
  · have hf : lockL ms xs = [] := by simp [lockL, runB, hp]
    have F := hide hf; have P := hide hp; clear hf hp
    go_enter Tryd.func15, Tryd.ntmps15
    go_wp2_with fail
    refine (spec_PlanValid_c hr (by omega) hsm).mono ?_
    rintro e w2 ⟨rfl, b2⟩
    rw [P.out]
    go_wp2_with fail
    go_ret
    exact ⟨_, 0, [], rfl, (OT.zero (Nat.le_refl _)).mono b2.size, by rw [F.out]; rfl, b2.alloc b2.size _⟩
  · cases hq : schedB n xs
    · have hf : lockL ms xs = [] := by simp [lockL, runB, hp, hl.out, hq]
      have F := hide hf; have P := hide hp; have Q := hide hq; clear hf hp hq
      go_enter Tryd.func15, Tryd.ntmps15
      go_wp2_with fail
      refine (spec_PlanValid_c hr (by omega) hsm).mono ?_
      rintro e w2 ⟨rfl, b2⟩
      rw [P.out]
      go_wp2_with fail
      refine (spec_ScheduleValid_c (ss.below b2) (by omega) (by omega)).mono ?_
      rintro e w' ⟨rfl, rfl⟩
      rw [Q.out]
      go_wp2_with fail
      go_ret
      exact ⟨_, 0, [], rfl, (OT.zero (Nat.le_refl _)).mono b2.size, by rw [F.out]; rfl, b2.alloc b2.size _⟩
    · have hrun : runB ms xs = true := by simp [runB, hp, hl.out, hq]
      have hf : lockL ms xs = (lockR ms xs).1 := by simp [lockL, hrun]
      obtain ⟨hn4, hdb, hm40, hxb⟩ := runB_parts hrun
      have F := hide hf; have P := hide hp; have Q := hide hq; have DB := hide hdb; have XB := hide hxb
      rw [hl.out] at hn4
      clear hf hp hq hdb hxb hrun
      go_enter Tryd.func15, Tryd.ntmps15
      go_wp2_with fail
      refine (spec_PlanValid_c hr (by omega) hsm).mono ?_
      rintro e w2 ⟨rfl, b2⟩
      rw [P.out]
      have R1 := hr.below b2
      go_wp2_with fail
      refine (spec_ScheduleValid_c (ss.below b2) (by omega) (by omega)).mono ?_
      rintro e w' ⟨rfl, rfl⟩
      rw [Q.out]
      go_wp2_with fail
      refine (l17Empty_c R1 (by omega)).mono ?_
      rintro e w3 ⟨v3, es3, rfl, D3, hs3, b3⟩
      have K1 := (Blk.new w3 3 #[.int .i64 0, .int .i64 0, .int .i64 0]).alloc (.cells #[.int .i64 0, .int .i64 0, .int .i64 0] 3)
      have K2 := Blk.new (w3.alloc (.cells #[.int .i64 0, .int .i64 0, .int .i64 0] 3)) 3 #[.int .i64 0, .int .i64 0, .int .i64 0]
      simp only [World.size_alloc] at K2
      have A0 : Sk w2 w3.heap.size n v3 (emptyT ms) [0, 0, 0] [0, 0, 0] es3 ((w3.alloc (.cells #[.int .i64 0, .int .i64 0, .int .i64 0] 3)).alloc (.cells #[.int .i64 0, .int .i64 0, .int .i64 0] 3)) :=
        ⟨(D3.alloc _).alloc _, hs3, K1, K2, (b3.alloc b3.size _).alloc (by have := b3.size; simp; omega) _, b3.size⟩
      have hz23 := b3.size
      clear D3 hs3 K1 K2 b3
      go_wp2_with fail
      go_loopw [8] (fun i wr => ∃ (k : Nat) (es : List El), i = .int .i64 k ∧ k ≤ m ∧ Sk w2 w3.heap.size n v3 (lockR ms (xs.take k)).1 (lockR ms (xs.take k)).2.1 (lockR ms (xs.take k)).2.2 es wr ∧ LockI ms (lockR ms (xs.take k))) (fun i _ => m - (intOf i).toNat)
      case atStart => exact ⟨0, es3, rfl, Nat.zero_le _, by simpa [lockR] using A0, by simpa [lockR] using LockI.zero DB.out⟩
      case round =>
        obtain ⟨k, es, rfl, hk, hsk, hinv⟩ := hrel
        clear A0
        have Hinv := hide hinv; have SK := hide hsk; clear hinv hsk
        by_cases hkm : k < m
        · have hri := hsr.below b2
          obtain ⟨b, off, x, rfl, hb, hx, hc⟩ := hri.at_ hkm
          obtain ⟨hx0, hx1⟩ := XB.out x (List.mem_of_getElem? hx)
          rw [hl.out] at hx1
          obtain ⟨n0, rfl⟩ : ∃ q : Nat, x = q := ⟨x.toNat, by omega⟩
          have hn0 : n0 < n := by omega
          obtain ⟨d, t, hd, ht, hst, hop, hse, hle, hdn⟩ := Hinv.out.fits.at_ (show n0 < ms.length by rw [hl.out]; exact hn0)
          have hdp := draftB_parts (DB.out d (List.mem_of_getElem? hd))
          have hdr := lockR_snoc (ds := ms) hx
          rw [Int.toNat_natCast] at hdr
          have Hdr := hide hdr
          obtain ⟨⟨S1, ST, OW⟩, hS⟩ : ∃ S, lockR ms (xs.take k) = S := ⟨_, rfl⟩
          rw [hS] at Hdr Hinv SK hop hse ht
          dsimp only at SK hop hse ht
          have holen := Hinv.out.olen
          have hstl : ST.length = 3 := Hinv.out.vals.1
          dsimp only at holen
          clear hS hdr
          obtain ⟨g, cg, Au, cu, rfl, hnc, hlg, hgs', he, huc, c0, c1, c2, ho⟩ := SK.out.look hn0 ht
          obtain ⟨bp, op, f', ys', B', kk', d', rfl, hbp, hx', p0, p1, hkd', hdm', hri'⟩ := R1.at_ hn0
          have e2 := hd.symm.trans hx'
          injection e2 with e2
          subst e2
          dsimp only at hst hle hdp hdn
          have hyl : ys'.length = kk' := hri'.len
          have hbel := SK.out.bel
          have q0 := (hbel.cell (p := ⟨b, off + k, none⟩) hb).trans hc
          have q1 := (hbel.cell (p := ⟨bp, op + n0 * 2 + 1, none⟩) hbp).trans p1
          have Hst := hide hst; have Hop := hide hop; have Hse := hide hse; have Hdn := hide hdn; have Hd := hide hd; have Ht := hide ht; have Hyl := hide hyl
          have hk4 : kk' ≤ 4 := by rw [← hyl]; exact hdp.2.1
          have hlk : t.2.1.length ≤ kk' := by rw [← hyl]; exact hle
          have Hdp := hide hdp.2.2.2
          have Hp1 := hide p1
          have HUL := hide (fun q (h : (Value.slice Au t.2.1.length cu).ownBlock = some q) => (ho.of.lt q h).2)
          have He := hide he
          have hpos : ∀ o ∈ t.2.1, 0 ≤ o.2.2 := fun o ho => by
            have h1 := Hinv.out.ops n0 t ht o ho
            unfold opB at h1
            simp only [Bool.and_eq_true] at h1
            exact ((inB_iff _ _ _).1 h1.2.2.1).1
          have HPos := hide hpos
          clear hx hc hd ht hst hop hse hle hdn hdp he p0 p1 hx' hbel ho hpos
          obtain ⟨L, hL⟩ : ∃ L, t.2.1.length = L := ⟨_, rfl⟩
          rw [hL] at c1 hlk
          have HL := hide hL
          clear hL hyl
          have n0i : (0 : Int) ≤ n0 := by omega
          have n1i : (n0 : Int) < n := by omega
          have k0 : (0 : Int) ≤ k := by omega
          have k1 : (k : Int) < m := by omega
          by_cases hfull : L = kk'
          · have hnone := lock1_none (ds := ms) (d := (f', ys')) (t := t) (S := (S1, ST, OW)) Hst.out Hop.out (by rw [HL.out, Hyl.out, hfull])
            have Hn := hide hnone
            clear hnone
            subst hfull
            go_wp2_with fail
            go_roundw
            case rel => exact ⟨k + 1, es, by go_num, by omega, by rw [Hdr.out, Hn.out]; exact SK.out, by rw [Hdr.out, Hn.out]; exact Hinv.out⟩
            case measure => simp [intOf]; omega
          · have hlt : L < kk' := by omega
            obtain ⟨bs, os, sx, sy, sz, rfl, hbs, hs', r0, r1, r2⟩ := hri'.at_ hlt
            have hsp := Hdp.out _ (List.mem_of_getElem? hs')
            dsimp only at hsp
            obtain ⟨hk12, ⟨sy0, sy2⟩, rfl⟩ := hsp
            obtain ⟨sy, rfl⟩ : ∃ q : Nat, sy = q := ⟨sy.toNat, by omega⟩
            have a0 := (SK.out.bel.cell (p := ⟨bs, os + L * 3, none⟩) hbs).trans r0
            have a1 := (SK.out.bel.cell (p := ⟨bs, os + L * 3 + 1, none⟩) hbs).trans r1
            have a2 := (SK.out.bel.cell (p := ⟨bs, os + L * 3 + 2, none⟩) hbs).trans r2
            have Hs := hide (show ys'[t.2.1.length]? = some (sx, (sy : Int), 0) by rw [HL.out]; exact hs')
            have hLi : (0 : Int) ≤ L := by omega
            have hL4 : L < 4 := by omega
            have Li : (L : Int) < kk' := by omega
            have hn04 : n0 < 4 := by omega
            have hne : ((L : Int) == (kk' : Int)) = false := by rw [beq_eq_false_iff_ne]; omega
            clear r0 r1 r2 hs' hfull
            obtain ⟨ov, hov⟩ : ∃ ov, OW[sy]? = some ov := ⟨_, List.getElem?_eq_getElem (by omega)⟩
            have hgd : OW.getD sy 0 = ov := by rw [List.getD_eq_getElem?_getD, hov]; rfl
            have K4 := Blk.new wr 51 #[.int .i64 sx, .int .i64 (sy : Int), .int .i64 0]
            have SK4 := hide (SK.out.alloc (.cells #[.int .i64 sx, .int .i64 (sy : Int), .int .i64 0] 51))
            have sy3 : (sy : Int) < 3 := by omega
            have x0 := (SK4.out.owner.cell sy).trans (storeC_get hov)
            have xf := SK4.out.owner.frozen sy
            obtain ⟨o0, o1, o2⟩ := K4.three
            by_cases hoth : OW.getD sy 0 ≠ 0 ∧ OW.getD sy 0 ≠ (n0 : Int) + 1
            · have hheld := lock1_held (ds := ms) (d := (f', ys')) (t := t) (S := (S1, ST, OW)) (n := n0) Hst.out Hop.out Hs.out (by simpa using hoth)
              have HH := hide hheld
              rw [hgd] at hoth
              have h1 : (ov != 0) = true := by rw [bne_iff_ne]; exact hoth.1
              have h2 : (ov != (n0 : Int) + 1) = true := by rw [bne_iff_ne]; exact hoth.2
              clear hheld hgd hov
              go_wp2_with fail
              go_roundw
              case rel => exact ⟨k + 1, es, by go_num, by omega, by rw [Hdr.out, HH.out]; exact SK4.out, by rw [Hdr.out, HH.out]; exact Hinv.out⟩
              case measure => simp [intOf]; omega
            · have HOth := hide hoth
              rw [hgd] at hoth
              go_upto_region 13 with fail
              go_cut [78] (fun s wx => s = .bool false ∧ wx = wr.alloc (.cells #[.int .i64 sx, .int .i64 (sy : Int), .int .i64 0] 51))
              case first =>
                by_cases hz : ov = 0
                · subst hz
                  go_wp2_with fail
                  go_meet
                  case rel => exact ⟨rfl, rfl⟩
                · have hz1 : ov = (n0 : Int) + 1 := by omega
                  subst hz1
                  have h1 : ((n0 : Int) + 1 != 0) = true := by rw [bne_iff_ne]; exact hz
                  have h2 : ((n0 : Int) + 1 != (n0 : Int) + 1) = false := by simp
                  go_wp2_with fail
                  go_meet
                  case rel => exact ⟨rfl, rfl⟩
              case rest =>
                obtain ⟨rfl, rfl⟩ := hcut
                clear hoth hov hgd c0 c1 c2 a0 a1 a2 q1
                go_wp2_with fail
                obtain ⟨W5, hW5⟩ : ∃ W, (wr.alloc (.cells #[.int .i64 sx, .int .i64 (sy : Int), .int .i64 0] 51)).setCell ⟨w3.heap.size + 1, sy, none⟩ (.int .i64 ((n0 : Int) + 1)) = W := ⟨_, rfl⟩
                have hzw : w3.heap.size + 1 < wr.heap.size := SK.out.owner.lt
                have hzg : g < wr.heap.size := hgs'
                have hne4 : wr.heap.size ≠ w3.heap.size + 1 := by omega
                have SK5 := hide (SK4.out.putO sy ((n0 : Int) + 1))
                have K5 := K4.far (p := ⟨w3.heap.size + 1, sy, none⟩) hne4 (.int .i64 ((n0 : Int) + 1))
                rw [hW5] at SK5 K5 ⊢
                have hz5 : wr.heap.size < W5.heap.size := K5.lt
                obtain ⟨c0, c1, c2⟩ := SK5.out.own.cells He.out
                dsimp only at c0 c1 c2
                obtain ⟨z0, z1, z2⟩ := K5.three
                obtain ⟨s0, hs0⟩ : ∃ s0, ST[sy]? = some s0 := ⟨_, List.getElem?_eq_getElem (by omega)⟩
                have t0 := (SK5.out.store.cell sy).trans (storeC_get hs0)
                have hstb : w3.heap.size < W5.heap.size := by omega
                have hgb : g < W5.heap.size := by omega
                have hown : ownV t.2.1 sy s0 = seesV t.2.1 ST sy := by
                  have h1 := Hinv.out.own Ht.out Hd.out (by rw [HL.out, Hyl.out]; exact hlt) sy
                  dsimp only at h1
                  rwa [show ST.getD sy 0 = s0 by rw [List.getD_eq_getElem?_getD, hs0]; rfl] at h1
                have HOwn := hide hown
                have ho5 : O3 51 W5 w2.heap.size (.slice Au t.2.1.length cu) t.2.1.length t.2.1 := SK5.out.own.own n0 _ He.out
                have hl18 := l18Own_c (f := t.1) (key := (sy : Int)) (other := s0) (dn := t.2.2) (ho5.s3.below ((Below.refl W5.heap.size W5).drew)) HPos.out
                have hc8 : ∀ W' : World, Below W5.heap.size W5 W' → (W'.cell? ⟨g, n0 * 3, none⟩ = some (.int .i64 t.1) ∧ W'.cell? ⟨g, n0 * 3 + 1, none⟩ = some (.slice Au t.2.1.length cu) ∧ W'.cell? ⟨g, n0 * 3 + 2, none⟩ = some (.bool t.2.2) ∧ W'.cell? ⟨w3.heap.size, sy, none⟩ = some (.int .i64 s0) ∧ W'.cell? ⟨wr.heap.size, 1, none⟩ = some (.int .i64 (sy : Int))) := fun W' h => ⟨(h.cell hgb).trans c0, (h.cell hgb).trans c1, (h.cell hgb).trans c2, (h.cell hstb).trans t0, (h.cell hz5).trans z1⟩
                clear hW5 hs0 hown c0 c1 c2 t0 o0 o1 o2 x0 xf K4 SK4
                go_region_held3 (fun W' => (W'.cell? ⟨g, n0 * 3, none⟩ = some (.int .i64 t.1) ∧ W'.cell? ⟨g, n0 * 3 + 1, none⟩ = some (.slice Au t.2.1.length cu) ∧ W'.cell? ⟨g, n0 * 3 + 2, none⟩ = some (.bool t.2.2) ∧ W'.cell? ⟨w3.heap.size, sy, none⟩ = some (.int .i64 s0) ∧ W'.cell? ⟨wr.heap.size, 1, none⟩ = some (.int .i64 (sy : Int))))
                  (first | exact hc8 _ (Below.refl _ _).drew | exact hc8 _ (below_of_drew b8))
                  (first | (go_at_call 37; refine hl18.mono ?_; rintro e w8 ⟨rfl, b8⟩))
                replace b8 := below_of_drew b8
                have SK8 := hide (SK5.out.below b8)
                have K8 := K5.belowAll b8
                clear hc8 hl18 ho5 z0 z1 z2 K5 SK5
                obtain ⟨z0, z1, z2⟩ := K8.three
                have hz8 : wr.heap.size < w8.heap.size := K8.lt
                go_upto_if 99 with fail
                go_cut [12] (fun s wx => s = .int .i64 (lockV t.2.1 ST n0 (sx, (sy : Int), 0)) ∧ Sk w2 w3.heap.size n (.slice (some ⟨g, 0, none⟩) n cg) S1 ST (OW.set sy ((n0 : Int) + 1)) es wx ∧ Blk wx wr.heap.size 51 #[.int .i64 sx, .int .i64 (sy : Int), .int .i64 0])
                case first =>
                  rcases hk12 with rfl | rfl
                  · have h12 : ((1 : Int) == 2) = false := by rfl
                    go_wp2_with fail
                    go_meet
                    case rel => exact ⟨by rw [HOwn.out]; unfold lockV; dsimp only; rw [if_neg (show ¬ ((1 : Int) = 2) by decide)]; rfl, SK8.out, K8⟩
                  · have h12 : ((2 : Int) == 2) = true := by rfl
                    go_wp2_with fail
                    refine (l17Value_c hn04 hL4).mono ?_
                    rintro e w' ⟨rfl, rfl⟩
                    go_wp2_with fail
                    go_meet
                    case rel => exact ⟨by unfold lockV; dsimp only; rw [if_pos rfl, HL.out], SK8.out, K8⟩
                case rest =>
                  obtain ⟨rfl, sk9, ko9⟩ := hcut
                  obtain ⟨lv, hlv⟩ : ∃ lv, lockV t.2.1 ST n0 (sx, (sy : Int), 0) = lv := ⟨_, rfl⟩
                  rw [hlv]
                  have HLO := hide (show lockO t.2.1 ST n0 (sx, (sy : Int), 0) = (sx, (sy : Int), lv) by unfold lockO; dsimp only; rw [hlv])
                  clear hlv SK8 K8 z0 z1 z2
                  have SK9 := hide sk9
                  clear sk9
                  go_upto_region 18 with fail
                  go_cut [] (fun wx => ∃ es', Sk w2 w3.heap.size n (.slice (some ⟨g, 0, none⟩) n cg) (S1.set n0 (t.1, t.2.1 ++ [(sx, (sy : Int), lv)], t.2.2)) ST (OW.set sy ((n0 : Int) + 1)) es' wx)
                  case first =>
                    obtain ⟨_, d1, _⟩ := SK9.out.own.cells He.out
                    have dz1 := SK9.out.own.free (n0 * 3 + 1)
                    dsimp only at d1
                    rw [HL.out] at d1
                    have ho2 : O3 51 wc w2.heap.size (.slice Au L cu) L t.2.1 := by have := SK9.out.own.own n0 _ He.out; dsimp only at this; rw [HL.out] at this; exact this
                    have hz9 : wr.heap.size < wc.heap.size := ko9.lt
                    have hbase : w2.heap.size ≤ (wc.drew.alloc (.cells #[.int .i64 sx, .int .i64 (sy : Int), .int .i64 lv] 51)).heap.size := by have := SK9.out.bel.size; simp; omega
                    have KN := Blk.new wc.drew 51 #[.int .i64 sx, .int .i64 (sy : Int), .int .i64 lv]
                    have hgW : g < wc.heap.size := by omega
                    obtain ⟨csg, hKG⟩ : ∃ cs, Blk wc g 58 cs := by
                      rcases SK9.out.own.shape with ⟨h1, _⟩ | ⟨g', c', h1, _, _, _, _, cs, hb⟩
                      · cases h1
                      · injection h1 with h1; injection h1 with h1; injection h1 with h1; subst h1; exact ⟨cs, hb⟩
                    have hcg := (hKG.cell (n0 * 3 + 1)).symm.trans d1
                    have Hcg := hide hcg; have HKG := hide hKG
                    have hne : (Value.slice Au L cu).ownBlock ≠ some g := by have := SK9.out.own.ne He.out (k := g) rfl; dsimp only at this; rw [HL.out] at this; exact this
                    have Hne := hide hne
                    have hul := HUL.out
                    rw [HL.out] at hul
                    have HWU := hide (show (Value.slice Au L cu).ownBlock ≠ some wr.heap.size from fun e => by have := hul _ e; omega)
                    have Hwg := hide (show wr.heap.size ≠ g by omega)
                    obtain ⟨k0', k1', _⟩ := ko9.three
                    have HC := hide (show ∀ W' : World, W'.heap[wr.heap.size]? = wc.heap[wr.heap.size]? → W'.cell? ⟨wr.heap.size, 0, none⟩ = some (.int .i64 sx) ∧ W'.cell? ⟨wr.heap.size, 1, none⟩ = some (.int .i64 (sy : Int)) from fun W' h1 => ⟨(World.cell?_of_block h1).trans k0', (World.cell?_of_block h1).trans k1'⟩)
                    clear hne hcg hKG hul
                    refine wp_region_held_drew (S := (fun W' => W'.cell? ⟨wr.heap.size, 0, none⟩ = some (.int .i64 sx) ∧ W'.cell? ⟨wr.heap.size, 1, none⟩ = some (.int .i64 (sy : Int)))) (by kernel_rfl) ?_ (fun hHeld => ?_)
                    · exact HC.out _ rfl
                    refine wpAnyH_take (i := 0) (v := ?vvr1) (by rw [List.getElem?_toArray]; exact rfl) (by kernel_rfl) (by kernel_rfl) (by kernel_rfl) (by intro _ _ _ h; exact h) (Or.inl ⟨by rfl, ?hyr1⟩) hHeld ?restr1
                    case' hyr1 => (intro w hSw; (try dsimp only at hSw); go_simp; try (with_reducible rfl))
                    (try simp only [Act.put, List.setIfInBounds_toArray, List.set_cons_zero, List.set_cons_succ])
                    refine wpAnyH_take (i := 1) (v := ?vvr2) (by rw [List.getElem?_toArray]; exact rfl) (by kernel_rfl) (by kernel_rfl) (by kernel_rfl) (by intro _ _ _ h; exact h) (Or.inl ⟨by rfl, ?hyr2⟩) hHeld ?restr2
                    case' hyr2 => (intro w hSw; (try dsimp only at hSw); go_simp; try (with_reducible rfl))
                    (try simp only [Act.put, List.setIfInBounds_toArray, List.set_cons_zero, List.set_cons_succ])
                    refine wpAnyH_take (i := 2) (v := ?vvr3) (by rw [List.getElem?_toArray]; exact rfl) (by kernel_rfl) (by kernel_rfl) (by kernel_rfl) (by intro _ _ _ h; exact h) (Or.inl ⟨by rfl, ?hyr3⟩) hHeld ?restr3
                    case' hyr3 => (intro w hSw; (try dsimp only at hSw); go_simp; try (with_reducible rfl))
                    (try simp only [Act.put, List.setIfInBounds_toArray, List.set_cons_zero, List.set_cons_succ])
                    refine wpAnyH_take (i := 3) (v := ?vvr4) (by rw [List.getElem?_toArray]; exact rfl) (by kernel_rfl) (by kernel_rfl) (by kernel_rfl) (by intro _ _ _ h; exact h) (Or.inl ⟨by rfl, ?hyr4⟩) hHeld ?restr4
                    case' hyr4 => (intro w hSw; (try dsimp only at hSw); go_simp; try (with_reducible rfl))
                    (try simp only [Act.put, List.setIfInBounds_toArray, List.set_cons_zero, List.set_cons_succ])
                    refine wpAnyH_take (i := 4) (v := ?vvr5) (by rw [List.getElem?_toArray]; exact rfl) (by kernel_rfl) (by kernel_rfl) (by kernel_rfl) (by intro _ _ _ h; exact h) (Or.inl ⟨by rfl, ?hyr5⟩) hHeld ?restr5
                    case' hyr5 => (intro w hSw; (try dsimp only at hSw); go_simp; try (with_reducible rfl))
                    (try simp only [Act.put, List.setIfInBounds_toArray, List.set_cons_zero, List.set_cons_succ])
                    refine wpAnyH_take (i := 5) (v := ?vvr6) (by rw [List.getElem?_toArray]; exact rfl) (by kernel_rfl) (by kernel_rfl) (by kernel_rfl) (by intro _ _ _ h; exact h) (Or.inl ⟨by rfl, ?hyr6⟩) hHeld ?restr6
                    case' hyr6 => (intro w hSw; (try dsimp only at hSw); go_simp; try (with_reducible rfl))
                    (try simp only [Act.put, List.setIfInBounds_toArray, List.set_cons_zero, List.set_cons_succ])
                    refine wpAnyH_take (i := 7) (v := ?vvr7) (by rw [List.getElem?_toArray]; exact rfl) (by kernel_rfl) (by kernel_rfl) (by kernel_rfl) (by intro _ _ _ h; exact h) (Or.inl ⟨by rfl, ?hyr7⟩) hHeld ?restr7
                    case' hyr7 => (intro w hSw; (try dsimp only at hSw); go_simp; try (with_reducible rfl))
                    (try simp only [Act.put, List.setIfInBounds_toArray, List.set_cons_zero, List.set_cons_succ])
                    refine wpAnyH_take (i := 8) (v := ?vvr8) (by rw [List.getElem?_toArray]; exact rfl) (by kernel_rfl) (by kernel_rfl) (by kernel_rfl) (by intro _ _ _ h; exact h) (Or.inl ⟨by rfl, ?hyr8⟩) hHeld ?restr8
                    case' hyr8 => (intro w hSw; (try dsimp only at hSw); go_simp; try (with_reducible rfl))
                    (try simp only [Act.put, List.setIfInBounds_toArray, List.set_cons_zero, List.set_cons_succ])
                    refine wpAnyH_take (i := 9) (v := ?vvr9) (by rw [List.getElem?_toArray]; exact rfl) (by kernel_rfl) (by kernel_rfl) (by kernel_rfl) (by intro _ _ _ h; exact h) (Or.inl ⟨by rfl, ?hyr9⟩) hHeld ?restr9
                    case' hyr9 => (intro w hSw; (try dsimp only at hSw); go_simp; try (with_reducible rfl))
                    (try simp only [Act.put, List.setIfInBounds_toArray, List.set_cons_zero, List.set_cons_succ])
                    refine wpAnyH_take (i := 10) (v := ?vvr10) (by rw [List.getElem?_toArray]; exact rfl) (by kernel_rfl) (by kernel_rfl) (by kernel_rfl) (by intro _ _ _ h; exact h) (Or.inl ⟨by rfl, ?hyr10⟩) hHeld ?restr10
                    case' hyr10 => (intro w hSw; (try dsimp only at hSw); go_simp; try (with_reducible rfl))
                    (try simp only [Act.put, List.setIfInBounds_toArray, List.set_cons_zero, List.set_cons_succ])
                    refine wpAnyH_take (i := 11) (v := ?vvr11) (by rw [List.getElem?_toArray]; exact rfl) (by kernel_rfl) (by kernel_rfl) (by kernel_rfl) (by intro _ _ _ h; exact h) (Or.inl ⟨by rfl, ?hyr11⟩) hHeld ?restr11
                    case' hyr11 => (intro w hSw; (try dsimp only at hSw); go_simp; try (with_reducible rfl))
                    (try simp only [Act.put, List.setIfInBounds_toArray, List.set_cons_zero, List.set_cons_succ])
                    refine wpAnyH_take (i := 12) (v := ?vvr12) (by rw [List.getElem?_toArray]; exact rfl) (by kernel_rfl) (by kernel_rfl) (by kernel_rfl) (by intro _ _ _ h; exact h) (Or.inl ⟨by rfl, ?hyr12⟩) hHeld ?restr12
                    case' hyr12 => (intro w hSw; (try dsimp only at hSw); go_simp; try (with_reducible rfl))
                    (try simp only [Act.put, List.setIfInBounds_toArray, List.set_cons_zero, List.set_cons_succ])
                    refine wpAnyH_ready (rs := [6, 13]) (by kernel_rfl) (by simp) ?_
                    refine AllReadyH.cons (by rw [List.getElem?_toArray]; exact rfl) (fun K hK => ?_) ?_
                    · skip
                      go_simp
                      refine hK.out _ _ ?_ (fun hHeld => ?_)
                      · first | exact HC.out _ rfl | exact HC.out _ (Below.heap_alloc wc (.cells #[.int .i64 sx, .int .i64 (sy : Int), .int .i64 lv] 51) _ hz9)
                      clear hK K
                      (try simp only [Act.put, List.setIfInBounds_toArray, List.set_cons_zero, List.set_cons_succ])
                      refine wpAnyH_ready (rs := [13]) (by kernel_rfl) (by simp) ?_
                      refine AllReadyH.cons (by rw [List.getElem?_toArray]; exact rfl) (fun K hK => ?_) AllReadyH.nil
                      go_simp
                      refine hK.out _ _ ?_ (fun hHeld => ?_)
                      · exact HC.out _ (Below.heap_alloc wc (.cells #[.int .i64 sx, .int .i64 (sy : Int), .int .i64 lv] 51) _ hz9)
                      clear hK K
                      (try simp only [Act.put, List.setIfInBounds_toArray, List.set_cons_zero, List.set_cons_succ])
                      refine wpAnyH_ready (rs := [14]) (by kernel_rfl) (by simp) ?_
                      refine AllReadyH.cons (by rw [List.getElem?_toArray]; exact rfl) (fun K hK => ?_) AllReadyH.nil
                      refine step_app3 (by rfl) (.tmp 109) (.tmp 116) (by rfl) (by rfl) (ho2.drew.alloc _) (by rfl) (S3.one KN (Nat.le_refl _)) (by omega) hbase ?_
                      intro v' w' ho' hg' hat'
                      obtain ⟨Av, cv, rfl⟩ := ho'.shape
                      have hcw := ((HKG.out.drew.alloc (.cells #[.int .i64 sx, .int .i64 (sy : Int), .int .i64 lv] 51)).grown hg' (fun e => Hne.out e.symm))
                      have cw := (hcw.cell (n0 * 3 + 1)).trans Hcg.out
                      have fw := hcw.frozen (n0 * 3 + 1)
                      refine hK.out _ _ ?_ (fun hHeld => ?_)
                      · exact HC.out _ ((hg'.block _ (by simp; omega) (fun e => HWU.out e.symm)).trans (Below.heap_alloc wc (.cells #[.int .i64 sx, .int .i64 (sy : Int), .int .i64 lv] 51) _ hz9))
                      clear hK K
                      (try simp only [Act.put, List.setIfInBounds_toArray, List.set_cons_zero, List.set_cons_succ])
                      refine wpAnyH_take (i := 15) (v := ?vvr13) (by rw [List.getElem?_toArray]; exact rfl) (by kernel_rfl) (by kernel_rfl) (by kernel_rfl) (by intro _ _ _ h; exact h) (Or.inl ⟨by rfl, ?hyr13⟩) hHeld ?restr13
                      case' hyr13 => (intro w hSw; (try dsimp only at hSw); go_simp; try (with_reducible rfl))
                      (try simp only [Act.put, List.setIfInBounds_toArray, List.set_cons_zero, List.set_cons_succ])
                      refine wpAnyH_take (i := 16) (v := ?vvr14) (by rw [List.getElem?_toArray]; exact rfl) (by kernel_rfl) (by kernel_rfl) (by kernel_rfl) (by intro _ _ _ h; exact h) (Or.inl ⟨by rfl, ?hyr14⟩) hHeld ?restr14
                      case' hyr14 => (intro w hSw; (try dsimp only at hSw); go_simp; try (with_reducible rfl))
                      (try simp only [Act.put, List.setIfInBounds_toArray, List.set_cons_zero, List.set_cons_succ])
                      refine wpAnyH_ready (rs := [17]) (by kernel_rfl) (by simp) ?_
                      refine AllReadyH.cons (by rw [List.getElem?_toArray]; exact rfl) (fun K hK => ?_) AllReadyH.nil
                      go_simp
                      refine hK.out _ _ ?_ (fun hHeld => ?_)
                      · exact HC.out _ ((Below.heap_setCell _ ⟨g, n0 * 3 + 1, none⟩ _ _ Hwg.out).trans ((hg'.block _ (by simp; omega) (fun e => HWU.out e.symm)).trans (Below.heap_alloc wc (.cells #[.int .i64 sx, .int .i64 (sy : Int), .int .i64 lv] 51) _ hz9)))
                      clear hK K
                      (try simp only [Act.put, List.setIfInBounds_toArray, List.set_cons_zero, List.set_cons_succ])
                      refine wpAnyH_done (by kernel_rfl) ?_ _
                      have HHO := hide ho'; have HHG := hide hg'; have HHA := hide hat'
                      clear hcw cw fw
                      go_wp2_with fail
                      go_meet
                      case rel =>
                        have hgg' : (wc.drew.alloc (.cells #[.int .i64 sx, .int .i64 (sy : Int), .int .i64 lv] 51)).grownBy w' (Value.slice Au t.2.1.length cu).ownBlock := by rw [HL.out]; exact HHG.out
                        have hha' : (Value.slice Av (L + 1) cv).ownBlock = (Value.slice Au t.2.1.length cu).ownBlock ∨ (Value.slice Av (L + 1) cv).ownBlock = some (wc.drew.alloc (.cells #[.int .i64 sx, .int .i64 (sy : Int), .int .i64 lv] 51)).heap.size := by rw [HL.out]; exact HHA.out
                        exact ⟨_, (SK9.out.drew.alloc (.cells #[.int .i64 sx, .int .i64 (sy : Int), .int .i64 lv] 51)).add He.out hgg' HHO.out hha'⟩
                    refine AllReadyH.cons (by rw [List.getElem?_toArray]; exact rfl) (fun K hK => ?_) AllReadyH.nil
                    go_simp
                    refine hK.out _ _ ?_ (fun hHeld => ?_)
                    · exact HC.out _ (Below.heap_alloc wc (.cells #[.int .i64 sx, .int .i64 (sy : Int), .int .i64 lv] 51) _ hz9)
                    clear hK K
                    (try simp only [Act.put, List.setIfInBounds_toArray, List.set_cons_zero, List.set_cons_succ])
                    refine wpAnyH_ready (rs := [6]) (by kernel_rfl) (by simp) ?_
                    refine AllReadyH.cons (by rw [List.getElem?_toArray]; exact rfl) (fun K hK => ?_) AllReadyH.nil
                    go_simp
                    refine hK.out _ _ ?_ (fun hHeld => ?_)
                    · first | exact HC.out _ rfl | exact HC.out _ (Below.heap_alloc wc (.cells #[.int .i64 sx, .int .i64 (sy : Int), .int .i64 lv] 51) _ hz9)
                    clear hK K
                    (try simp only [Act.put, List.setIfInBounds_toArray, List.set_cons_zero, List.set_cons_succ])
                    refine wpAnyH_ready (rs := [14]) (by kernel_rfl) (by simp) ?_
                    refine AllReadyH.cons (by rw [List.getElem?_toArray]; exact rfl) (fun K hK => ?_) AllReadyH.nil
                    refine step_app3 (by rfl) (.tmp 109) (.tmp 116) (by rfl) (by rfl) (ho2.drew.alloc _) (by rfl) (S3.one KN (Nat.le_refl _)) (by omega) hbase ?_
                    intro v' w' ho' hg' hat'
                    obtain ⟨Av, cv, rfl⟩ := ho'.shape
                    have hcw := ((HKG.out.drew.alloc (.cells #[.int .i64 sx, .int .i64 (sy : Int), .int .i64 lv] 51)).grown hg' (fun e => Hne.out e.symm))
                    have cw := (hcw.cell (n0 * 3 + 1)).trans Hcg.out
                    have fw := hcw.frozen (n0 * 3 + 1)
                    refine hK.out _ _ ?_ (fun hHeld => ?_)
                    · exact HC.out _ ((hg'.block _ (by simp; omega) (fun e => HWU.out e.symm)).trans (Below.heap_alloc wc (.cells #[.int .i64 sx, .int .i64 (sy : Int), .int .i64 lv] 51) _ hz9))
                    clear hK K
                    (try simp only [Act.put, List.setIfInBounds_toArray, List.set_cons_zero, List.set_cons_succ])
                    refine wpAnyH_take (i := 15) (v := ?vvr15) (by rw [List.getElem?_toArray]; exact rfl) (by kernel_rfl) (by kernel_rfl) (by kernel_rfl) (by intro _ _ _ h; exact h) (Or.inl ⟨by rfl, ?hyr15⟩) hHeld ?restr15
                    case' hyr15 => (intro w hSw; (try dsimp only at hSw); go_simp; try (with_reducible rfl))
                    (try simp only [Act.put, List.setIfInBounds_toArray, List.set_cons_zero, List.set_cons_succ])
                    refine wpAnyH_take (i := 16) (v := ?vvr16) (by rw [List.getElem?_toArray]; exact rfl) (by kernel_rfl) (by kernel_rfl) (by kernel_rfl) (by intro _ _ _ h; exact h) (Or.inl ⟨by rfl, ?hyr16⟩) hHeld ?restr16
                    case' hyr16 => (intro w hSw; (try dsimp only at hSw); go_simp; try (with_reducible rfl))
                    (try simp only [Act.put, List.setIfInBounds_toArray, List.set_cons_zero, List.set_cons_succ])
                    refine wpAnyH_ready (rs := [17]) (by kernel_rfl) (by simp) ?_
                    refine AllReadyH.cons (by rw [List.getElem?_toArray]; exact rfl) (fun K hK => ?_) AllReadyH.nil
                    go_simp
                    refine hK.out _ _ ?_ (fun hHeld => ?_)
                    · exact HC.out _ ((Below.heap_setCell _ ⟨g, n0 * 3 + 1, none⟩ _ _ Hwg.out).trans ((hg'.block _ (by simp; omega) (fun e => HWU.out e.symm)).trans (Below.heap_alloc wc (.cells #[.int .i64 sx, .int .i64 (sy : Int), .int .i64 lv] 51) _ hz9)))
                    clear hK K
                    (try simp only [Act.put, List.setIfInBounds_toArray, List.set_cons_zero, List.set_cons_succ])
                    refine wpAnyH_done (by kernel_rfl) ?_ _
                    have HHO := hide ho'; have HHG := hide hg'; have HHA := hide hat'
                    clear hcw cw fw
                    go_wp2_with fail
                    go_meet
                    case rel =>
                      have hgg' : (wc.drew.alloc (.cells #[.int .i64 sx, .int .i64 (sy : Int), .int .i64 lv] 51)).grownBy w' (Value.slice Au t.2.1.length cu).ownBlock := by rw [HL.out]; exact HHG.out
                      have hha' : (Value.slice Av (L + 1) cv).ownBlock = (Value.slice Au t.2.1.length cu).ownBlock ∨ (Value.slice Av (L + 1) cv).ownBlock = some (wc.drew.alloc (.cells #[.int .i64 sx, .int .i64 (sy : Int), .int .i64 lv] 51)).heap.size := by rw [HL.out]; exact HHA.out
                      exact ⟨_, (SK9.out.drew.alloc (.cells #[.int .i64 sx, .int .i64 (sy : Int), .int .i64 lv] 51)).add He.out hgg' HHO.out hha'⟩
                  case rest =>
                    obtain ⟨es10, sk10⟩ := hcut
                    have SK10 := hide sk10
                    have q1 := (sk10.bel.cell (p := ⟨bp, op + n0 * 2 + 1, none⟩) hbp).trans Hp1.out
                    clear sk10 ko9 SK9
                    by_cases hdd : L + 1 < kk'
                    · have hdn : t.2.1.length + 1 ≠ ys'.length := by rw [HL.out, Hyl.out]; omega
                      have hmore := lock1_more (ds := ms) (d := (f', ys')) (t := t) (S := (S1, ST, OW)) (n := n0) Hst.out Hop.out Hse.out Hs.out (by simpa using HOth.out) hdn
                      have hinv2 := Hinv.out.more (d := (f', ys')) (s := (sx, (sy : Int), 0)) Ht.out Hd.out (by rw [HL.out, Hyl.out]; exact hlt) hn04 (by rw [HL.out]; exact hL4) hk12 ⟨sy0, sy2⟩ (by simpa using HOth.out) hdn
                      dsimp only at hmore hinv2
                      rw [HLO.out] at hmore hinv2
                      rw [Int.toNat_natCast] at hmore hinv2
                      have hbf : t.2.2 = false := by rw [Hdn.out, HL.out, Hyl.out]; simp; omega
                      rw [hbf] at SK10
                      have HMO := hide hmore; have HI2 := hide hinv2
                      have hddi : (L : Int) + 1 < kk' := by omega
                      clear hmore hinv2 hbf hdn
                      go_wp2_with fail
                      go_roundw
                      case rel => exact ⟨k + 1, es10, by go_num, by omega, by rw [Hdr.out, HMO.out]; exact SK10.out, by rw [Hdr.out, HMO.out]; exact HI2.out⟩
                      case measure => simp [intOf]; omega
                    · have hde : t.2.1.length + 1 = ys'.length := by rw [HL.out, Hyl.out]; omega
                      have hlast := lock1_last (ds := ms) (d := (f', ys')) (t := t) (S := (S1, ST, OW)) (n := n0) Hst.out Hop.out Hse.out Hs.out (by simpa using HOth.out) hde
                      have hinv2 := Hinv.out.last (d := (f', ys')) (s := (sx, (sy : Int), 0)) Ht.out Hd.out (by rw [HL.out, Hyl.out]; exact hlt) hn04 (by rw [HL.out]; exact hL4) hk12 ⟨sy0, sy2⟩ (by simpa using HOth.out) hde
                      dsimp only at hlast hinv2
                      rw [HLO.out] at hlast hinv2
                      rw [Int.toNat_natCast] at hlast hinv2
                      have HLA := hide hlast; have HI2 := hide hinv2
                      have hjl := (List.getElem?_eq_some_iff.1 Ht.out).1
                      have hgt : (S1.set n0 (t.1, t.2.1 ++ [(sx, (sy : Int), lv)], t.2.2))[n0]? = some (t.1, t.2.1 ++ [(sx, (sy : Int), lv)], t.2.2) := List.getElem?_set_self hjl
                      have htx2 := hinv2.txn (n := n0) DB.out (List.getElem?_set_self hjl) Hd.out
                      obtain ⟨ops, hos⟩ : ∃ ops, t.2.1 ++ [(sx, (sy : Int), lv)] = ops := ⟨_, rfl⟩
                      rw [hos] at HLA HI2 hgt htx2 SK10
                      have HTX := hide htx2
                      have hddi : ¬ ((L : Int) + 1 < kk') := by omega
                      obtain ⟨g2, cg2, Au2, cu2, hv2, _, _, hg2, he2, huc2, d0, d1, d2, ho2⟩ := SK10.out.look hn0 hgt
                      obtain ⟨rfl, rfl⟩ : g = g2 ∧ cg = cg2 := by simpa using hv2
                      have fz := SK10.out.own.free (n0 * 3 + 2)
                      obtain ⟨es12, sk12⟩ := SK10.out.done hn0 hgt true
                      dsimp only at sk12
                      rw [List.set_set] at sk12
                      obtain ⟨g3, cg3, Au3, cu3, hv3, _, _, hg3, he3, huc3, e0, e1, e2, ho3⟩ := sk12.look hn0 (by rw [List.getElem?_set_self hjl])
                      obtain ⟨rfl, rfl⟩ : g = g3 ∧ cg = cg3 := by simpa using hv3
                      have hlw := spec_LastWrites_c ho3.s3 HTX.out
                      have hz12 : (wc.setCell ⟨g, n0 * 3 + 2, none⟩ (.bool true)).heap.size = wc.heap.size := size_setCell ..
                      have hzc : w3.heap.size + 1 < wc.heap.size := SK10.out.owner.lt
                      have SK12 := hide sk12
                      have hstl' := hide hstl; have HOL := hide holen
                      have HOPB := hide (show ∀ o ∈ ops, opB o = true from fun o ho => HI2.out.ops n0 _ (List.getElem?_set_self hjl) o ho)
                      clear hlast hinv2 htx2 hgt he2 he3 ho2 ho3 sk12 hos hv2 hv3 d0 d1 SK10 hde hstl holen
                      go_wp2_with fail
                      refine hlw.mono ?_
                      rintro e w13 ⟨r13, kk, rfl, hret, b13⟩
                      have SK13 := hide (SK12.out.below b13)
                      have O13 := hide (hret.mono (show w3.heap.size + 2 ≤ (wc.setCell ⟨g, n0 * 3 + 2, none⟩ (.bool true)).heap.size by rw [hz12]; omega))
                      clear e0 e1 e2 d2 fz hlw SK12 b13 hret
                      obtain ⟨A3, c3, rfl, hnc3, hm3, hr3⟩ := O13.out.s3
                      have hl3 := hide hr3.len
                      clear hr3
                      have SK13' := hide (show Sk w2 w3.heap.size n (.slice (some ⟨g, 0, none⟩) n cg) (S1.set n0 (t.1, ops, true)) (commitTo ops ST 0) (OW.set sy ((n0 : Int) + 1)) es12 w13 from SK13.out)
                      clear SK13
                      go_wp2_with fail
                      go_loopw [14] (fun i wr' => ∃ j : Nat, i = .int .i64 j ∧ j ≤ kk ∧ Sk w2 w3.heap.size n (.slice (some ⟨g, 0, none⟩) n cg) (S1.set n0 (t.1, ops, true)) (commitTo ops ST j) (OW.set sy ((n0 : Int) + 1)) es12 wr' ∧ O3 51 wr' (w3.heap.size + 2) (.slice A3 kk c3) kk (lastW ops)) (fun i _ => kk - (intOf i).toNat)
                      case atStart => exact ⟨0, rfl, Nat.zero_le _, SK13'.out, O13.out⟩
                      case round =>
                        clear SK13' O13
                        obtain ⟨j, rfl, hj, hskj, hoj⟩ := hrel
                        have SKJ := hide hskj; have OJ := hide hoj
                        clear hskj hoj
                        by_cases hjk : j < kk
                        · obtain ⟨A4, c4, hA4, _, _, hr4⟩ := OJ.out.s3
                          obtain ⟨rfl, rfl⟩ : A3 = A4 ∧ c3 = c4 := by simpa using hA4
                          obtain ⟨bb, oo, x, y, z, rfl, hbb, hx, p0, p1, p2⟩ := hr4.at_ hjk
                          have hkey := opB_key (HOPB.out _ (lastW_mem (List.mem_of_getElem? hx)).1)
                          obtain ⟨yn, rfl⟩ : ∃ q : Nat, y = q := ⟨y.toNat, by omega⟩
                          have hcl : (commitTo ops ST j).length = 3 := by rw [commitTo_len]; exact hstl'.out
                          obtain ⟨u, hu⟩ : ∃ u, (commitTo ops ST j)[yn]? = some u := ⟨_, List.getElem?_eq_getElem (by omega)⟩
                          have hcs := commitTo_succ (st := ST) hx
                          dsimp only at hcs
                          rw [Int.toNat_natCast] at hcs
                          have HCS := hide hcs
                          have s0 := (SKJ.out.store.cell yn).trans (storeC_get hu)
                          have sf := SKJ.out.store.frozen yn
                          have j0 : (0 : Int) ≤ j := by omega
                          have j1 : (j : Int) < kk := by omega
                          have yn0 : (0 : Int) ≤ yn := by omega
                          have yn3 : (yn : Int) < 3 := by omega
                          have hbs3 : w3.heap.size ≠ bb := by
                            have := (OJ.out.of.lt bb rfl).1; omega
                          have HOA := hide (OF.chg OJ.out.drew.of (Chg.setCell (S := fun q => q = w3.heap.size) (p := ⟨w3.heap.size, yn, none⟩) rfl (.int .i64 z)) (fun q hq e => by have := (OJ.out.of.lt q hq).1; omega))
                          clear hx hu hcs hcl hkey hr4 hA4 p0
                          go_wp2_with fail
                          go_region
                          all_goals
                            go_wp2_with fail
                            go_roundw
                          case rel => exact ⟨j + 1, by go_num, by omega, by rw [HCS.out]; exact SKJ.out.drew.putS yn z, HOA.out⟩
                          case measure => simp [intOf]; omega
                        · obtain rfl : j = kk := by omega
                          have hca := commitTo_all (os := ops) hstl'.out hl3.out
                          rw [hca] at SKJ
                          have hol2 : (OW.set sy ((n0 : Int) + 1)).length = 3 := by simp [HOL.out]
                          obtain ⟨OW2, hOW2⟩ : ∃ o, OW.set sy ((n0 : Int) + 1) = o := ⟨_, rfl⟩
                          rw [hOW2] at hol2 SKJ HI2 HLA
                          have HOL2 := hide hol2
                          have SKJ' := hide (show Sk w2 w3.heap.size n (.slice (some ⟨g, 0, none⟩) n cg) (S1.set n0 (t.1, ops, true)) (commitS ops ST) (freeTo n0 OW2 0) es12 wr by rw [freeTo_zero]; exact SKJ.out)
                          clear hca hol2 hOW2 SKJ OJ
                          go_wp2_with fail
                          go_loopw [15] (fun i wr' => ∃ j : Nat, i = .int .i64 j ∧ j ≤ 3 ∧ Sk w2 w3.heap.size n (.slice (some ⟨g, 0, none⟩) n cg) (S1.set n0 (t.1, ops, true)) (commitS ops ST) (freeTo n0 OW2 j) es12 wr') (fun i _ => 3 - (intOf i).toNat)
                          case atStart => exact ⟨0, rfl, by omega, SKJ'.out⟩
                          case round =>
                            clear SKJ'
                            obtain ⟨j, rfl, hj, hskj⟩ := hrel
                            have SKQ := hide hskj
                            clear hskj
                            by_cases hj3 : j < 3
                            · obtain ⟨x, hx⟩ : ∃ x, OW2[j]? = some x := ⟨_, List.getElem?_eq_getElem (by rw [HOL2.out]; exact hj3)⟩
                              have x0 := (SKQ.out.owner.cell j).trans (storeC_get (freeTo_at n0 hx))
                              have xf := SKQ.out.owner.frozen j
                              have HX := hide hx
                              have j0 : (0 : Int) ≤ j := by omega
                              have j1 : (j : Int) ≤ 2 := by omega
                              have j3 : (j : Int) < 3 := by omega
                              clear hx
                              by_cases hx1 : x = (n0 : Int) + 1
                              · subst hx1
                                have HS := hide (freeTo_free HX.out)
                                have heq : ((n0 : Int) + 1 == (n0 : Int) + 1) = true := by simp
                                go_wp2_with fail
                                go_roundw
                                case rel => exact ⟨j + 1, by go_num, by omega, by rw [HS.out]; exact SKQ.out.putO j 0⟩
                                case measure => simp [intOf]; omega
                              · have HS := hide (freeTo_keep (n := n0) HX.out hx1)
                                have hnq : (x == (n0 : Int) + 1) = false := by rw [beq_eq_false_iff_ne]; exact hx1
                                clear hx1
                                go_wp2_with fail
                                go_roundw
                                case rel => exact ⟨j + 1, by go_num, by omega, by rw [HS.out]; exact SKQ.out⟩
                                case measure => simp [intOf]; omega
                            · obtain rfl : j = 3 := by omega
                              have hfa := freeTo_all n0 HOL2.out
                              rw [hfa] at SKQ
                              clear hfa
                              go_wp2_with fail
                              go_roundw
                              case rel => exact ⟨k + 1, es12, by go_num, by omega, by rw [Hdr.out, HLA.out]; exact SKQ.out, by rw [Hdr.out, HLA.out]; exact HI2.out⟩
                              case measure => simp [intOf]; omega
        · obtain rfl : k = m := by omega
          have hfin : xs.take k = xs := List.take_of_length_le (by rw [hsl.out]; omega)
          rw [hfin] at SK
          go_wp2_with fail
          go_ret
          exact ⟨_, n, es, rfl, SK.out.own.mono b2.size, by rw [F.out]; exact SK.out.says, below_step b2 SK.out.bel⟩

end Go.Proofs.YtieecneknljmdaaDoor
