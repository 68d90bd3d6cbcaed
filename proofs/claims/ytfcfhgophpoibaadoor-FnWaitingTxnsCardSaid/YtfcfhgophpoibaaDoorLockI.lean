/- impl.runLocks. -/
import Derived.Test.YtfcfhgophpoibaaDoorLockM
import Derived.Deep.DeepCutAuto
namespace Go.Proofs.YtfcfhgophpoibaaDoor
open Go.RowKit Go.Maps

theorem reads_c {x y z : Int} {w : World} : Calls Tryd.prog 46 #[.agg #[.int .i64 x, .int .i64 y, .int .i64 z]] w fun e w' => e = .returned (.bool (x == 1)) ∧ Below w.heap.size w w' := by
  go_enter Tryd.func46, Tryd.ntmps46
  go_wp2_with fail
  go_ret
  exact ⟨rfl, (Below.refl _ _).alloc (Nat.le_refl _) _⟩
set_option maxRecDepth 100000 in
set_option maxHeartbeats 16000000 in
theorem impl_runLocks_c {A : Option Addr} {n c : Nat} {ms : Ds} {sv : Value} {m : Nat} {xs : List Int} {w : World} (hr : RDs w A n ms) (hn : n ≤ 1048576) (hsm : SmallD ms) (hs : SI w sv m xs) (hrun : runB ms xs = true) :
    Calls Tryd.prog 42 #[.slice A n c, sv] w fun e w' => ∃ v m es, e = .returned v ∧ OV w' w.heap.size v m es ∧ SaysT es (lockR ms xs).1 ∧ Below w.heap.size w w' := by
  have ss := hs
  have hl := hide hr.1
  obtain ⟨As, cs, rfl, hsnc, hsn, hsr⟩ := hs
  have hsl := hide hsr.len
  obtain ⟨hn4, hdb, hm40, hxb⟩ := runB_parts hrun
  have Q := hide hrun; have DB := hide hdb; have XB := hide hxb
  rw [hl.out] at hn4
  rw [hsl.out] at hm40
  have hmk := fun (v : World) => run_makeMap (P := Tryd.prog) 90 v
  clear hdb hxb hrun
  go_enter Tryd.func42, Tryd.ntmps42
  go_wp2_with fail
  refine (machineOf_c hr (by omega) hsm).mono ?_
  rintro e w2 ⟨v, es0, rfl, M0, b2⟩
  have hz2 := M0.box.lt
  have b3 : Below w2.heap.size w2 ((w2.alloc (.cells #[.int .i64 0, .int .i64 0, .int .i64 0] 51)).alloc (.map #[] 0)) := ((Below.refl _ _).alloc (Nat.le_refl _) _).alloc (by simp) _
  have K1 := (Blk.new w2 51 #[.int .i64 0, .int .i64 0, .int .i64 0]).alloc (.map #[] 0)
  have H1 := HoldM.zero (w2.alloc (.cells #[.int .i64 0, .int .i64 0, .int .i64 0] 51))
  simp only [World.size_alloc] at H1
  have LK0 : Lk w w2.heap.size A n c v (emptyT ms) [0, 0, 0] [0, 0, 0] 0 es0 _ := ⟨M0.below b3, K1, H1, below_step b2 b3, hz2⟩
  clear M0 K1 H1
  go_wp2_with fail
  go_loopw [24] (fun i wr => ∃ (k : Nat) (es : List El), i = .int .i64 k ∧ k ≤ m ∧ Lk w w2.heap.size A n c v (lockR ms (xs.take k)).1 (lockR ms (xs.take k)).2.1 (lockR ms (xs.take k)).2.2 k es wr ∧ LockI ms (lockR ms (xs.take k)) ∧ w2.heap.size + 1 < wr.heap.size) (fun i _ => m - (intOf i).toNat)
  case atStart => exact ⟨0, es0, rfl, Nat.zero_le _, by simpa [lockR] using LK0, by simpa [lockR] using LockI.zero DB.out, by simp⟩
  case round =>
    clear LK0 b2 b3
    obtain ⟨k, es, rfl, hk, hlk, hinv, hsz⟩ := hrel
    have Hinv := hide hinv; have LK := hide hlk; clear hinv hlk
    by_cases hkm : k < m
    · obtain ⟨b, off, x, rfl, hb, hx, hc⟩ := hsr.at_ hkm
      obtain ⟨hx0, hx1⟩ := XB.out x (List.mem_of_getElem? hx)
      rw [hl.out] at hx1
      obtain ⟨n0, rfl⟩ : ∃ q : Nat, x = q := ⟨x.toNat, by omega⟩
      have hn0 : n0 < n := by omega
      obtain ⟨d, t, hd, ht, hst, hop, hse, hle, hdn⟩ := Hinv.out.fits.at_ (show n0 < ms.length by rw [hl.out]; exact hn0)
      obtain ⟨f, ys⟩ := d
      dsimp only at hst hle hdn
      have hdp := draftB_parts (DB.out _ (List.mem_of_getElem? hd))
      dsimp only at hdp
      have q0 := (LK.out.bel.cell (p := ⟨b, off + k, none⟩) hb).trans hc
      have hdr := lockR_snoc (ds := ms) hx
      rw [Int.toNat_natCast] at hdr
      have n0i : (0 : Int) ≤ n0 := by omega
      have n1i : (n0 : Int) < n := by omega
      have k0 : (0 : Int) ≤ k := by omega
      have k1 : (k : Int) < m := by omega
      have Rr := hr.below LK.out.bel
      have Hdr := hide hdr; have Hst := hide hst; have Hop := hide hop; have Hse := hide hse; have Hdn := hide hdn
      have hA1 : ∀ b off, A = some ⟨b, off, none⟩ → b < w.heap.size + 1 := fun b off e => by
        obtain ⟨b', off', e', h', _⟩ := hr.2 (by omega)
        rw [e] at e'; injection e' with e'; injection e' with e'; subst e'; omega
      have HA1 := hide hA1
      clear hx hc hst hop hse hdn hdr hA1
      by_cases hfull : t.2.1.length = ys.length
      · have hnone := lock1_none (ds := ms) (d := (f, ys)) (t := t) (S := lockR ms (xs.take k)) Hst.out Hop.out hfull
        have Hn := hide hnone
        clear hnone
        have FU := hide hfull; have HT := hide ht; have HD := hide hd
        clear hfull ht hd
        go_wp2_with fail
        refine (step_full_c LK.out.mach Rr hn0 HT.out HD.out FU.out).mono ?_
        rintro e w3 ⟨rfl, b3⟩
        have LK3 := hide ((LK.out.below b3).alloc (.cells #[.int .i64 0, .int .i64 0, .int .i64 0] 53))
        have hz3 := b3.size
        go_wp2_with fail
        go_roundw
        case rel => exact ⟨k + 1, es, by go_num, by omega, by rw [Hdr.out, Hn.out]; exact LK3.out.mono (by omega), by rw [Hdr.out, Hn.out]; exact Hinv.out, by simp; omega⟩
        case measure => simp [intOf]; omega
      · have hlt : t.2.1.length < ys.length := by omega
        obtain ⟨⟨sx, sy, sz⟩, hs'⟩ : ∃ s, ys[t.2.1.length]? = some s := ⟨_, List.getElem?_eq_getElem hlt⟩
        have hsp := hdp.2.2.2 _ (List.mem_of_getElem? hs')
        dsimp only at hsp
        obtain ⟨hk12, ⟨sy0, sy2⟩, rfl⟩ := hsp
        obtain ⟨sy, rfl⟩ : ∃ q : Nat, sy = q := ⟨sy.toNat, by omega⟩
        have hsy2 : sy ≤ 2 := by omega
        have hL4 : t.2.1.length < 4 := by omega
        have hn04 : n0 < 4 := by omega
        obtain ⟨q0v, hq0v⟩ : ∃ q : Int, (if sx = 2 then valOf n0 t.2.1.length else 0) = q := ⟨_, rfl⟩
        have Hq := hide hq0v; have Hs := hide hs'; have HT := hide ht; have HD := hide hd; have Hlt := hide hlt
        have sy3 : (sy : Int) < 3 := by omega
        have hL4' := hide hL4
        obtain ⟨⟨S1, ST, OW⟩, hS⟩ : ∃ S, lockR ms (xs.take k) = S := ⟨_, rfl⟩
        rw [hS] at Hdr Hinv LK Hop Hse HT
        dsimp only at LK Hop Hse HT
        have holen := Hinv.out.olen
        dsimp only at holen
        clear hS
        clear hs' ht hd hlt hfull hdp hle sy2 hL4 hq0v
        go_wp2_with fail
        refine (step_c LK.out.mach Rr hn4 hn0 HT.out HD.out hL4'.out Hs.out (q := q0v) (by simpa using Hq.out.symm)).mono ?_
        rintro e w3 ⟨rfl, b3⟩
        obtain ⟨W4, hW4⟩ : ∃ W, w3.alloc (.cells #[.int .i64 sx, .int .i64 (sy : Int), .int .i64 q0v] 53) = W := ⟨_, rfl⟩
        have LK4 : Hid _ := hide ((LK.out.below b3).alloc (.cells #[.int .i64 sx, .int .i64 (sy : Int), .int .i64 q0v] 53))
        have KO := Blk.new w3 53 #[.int .i64 sx, .int .i64 (sy : Int), .int .i64 q0v]
        have hob : ∀ k, OT.S v es k → k < w3.heap.size := fun k hk => ((LK.out.below b3).mach.own.range k hk).2
        have HOB := hide hob
        have hz3 : w2.heap.size + 1 < w3.heap.size := by have := b3.size; omega
        have hW4z : W4.heap.size = w3.heap.size + 1 := by rw [← hW4]; simp
        rw [hW4] at LK4 KO
        obtain ⟨o0, o1, o2⟩ := KO.three
        have HKO := hide (keyInt (wfI_small (x := (sy : Int)) (by omega) (by omega)))
        obtain ⟨D, hown, hD⟩ := LK4.out.hold
        have hhas := (hD sy hsy2).1
        have hat := (hD sy hsy2).2
        have HDD := hide hD; have HMD := hide hown.isMap; have HOWN := hide hown
        clear hD hob
        by_cases hoth : OW.getD sy 0 ≠ 0 ∧ OW.getD sy 0 ≠ (n0 : Int) + 1
        · have hheld := lock1_held (ds := ms) (d := (f, ys)) (t := t) (S := (S1, ST, OW)) (n := n0) Hst.out Hop.out Hs.out (by simpa using hoth)
          have HH := hide hheld
          rw [show holdB OW sy = true by unfold holdB; simpa using hoth.1] at hhas
          obtain ⟨hv, hhv⟩ : ∃ hv, holdV OW sy = hv := ⟨_, rfl⟩
          rw [hhv] at hat
          have hne : (hv != (n0 : Int)) = true := by rw [← hhv]; unfold holdV; rw [if_neg hoth.1, bne_iff_ne]; intro e; exact hoth.2 (by omega)
          have HHas := hide hhas; have HAt := hide hat
          clear hheld hhas hat hhv hoth
          subst hW4
          go_wp2_with (at_lookup; refine wpList_lookup_own_ok_int _ rfl _ _ 90 rfl 3 3 .i64 lawInt Tryd.underlying90 Tryd.underlying3 (zeroInt _) (w2.heap.size + 1) k D rfl hown _ _ rfl HKO.out ?_; intro cc hcc hwc; obtain rfl : cc = hv := (by have h1 := hcc.symm.trans HAt.out; simpa using h1); clear hcc; rw [HHas.out])
          go_roundw
          case rel => exact ⟨k + 1, es, by go_num, by omega, by rw [Hdr.out, HH.out]; exact LK4.out.mono (by omega), by rw [Hdr.out, HH.out]; exact Hinv.out, by omega⟩
          case measure => simp [intOf]; omega
        · have hcase := lock_free hoth
          have HOth := hide hoth
          clear hoth
          obtain ⟨HB, hHB⟩ : ∃ b, holdB OW sy = b := ⟨_, rfl⟩
          obtain ⟨HV, hHV⟩ : ∃ b, holdV OW sy = b := ⟨_, rfl⟩
          rw [hHB, hHV] at hcase
          rw [hHB] at hhas
          rw [hHV] at hat
          have HHas := hide hhas; have HAt := hide hat
          clear hhas hat hHB hHV
          subst hW4
          go_upto_region 10 with (at_lookup; refine wpList_lookup_own_ok_int _ rfl _ _ 90 rfl 3 3 .i64 lawInt Tryd.underlying90 Tryd.underlying3 (zeroInt _) (w2.heap.size + 1) k D rfl hown _ _ rfl HKO.out ?_; intro cc hcc hwc; obtain rfl : cc = HV := (by have h1 := hcc.symm.trans HAt.out; simpa using h1); clear hcc; rw [HHas.out])
          go_cut [12, 13, 48] (fun _ _ s wx => s = .bool false ∧ Below (w3.heap.size + 1) (w3.alloc (.cells #[.int .i64 sx, .int .i64 (sy : Int), .int .i64 q0v] 53)) wx)
          case first =>
            rcases hcase with ⟨rfl, rfl⟩ | ⟨rfl, rfl⟩
            all_goals
              go_wp2_with fail
              go_meet
              case rel => exact ⟨rfl, Below.refl _ _⟩
          case rest =>
            obtain ⟨rfl, bc⟩ := hcut
            have hbc : Below (w3.alloc (.cells #[.int .i64 sx, .int .i64 (sy : Int), .int .i64 q0v] 53)).heap.size (w3.alloc (.cells #[.int .i64 sx, .int .i64 (sy : Int), .int .i64 q0v] 53)) wc := by rw [World.size_alloc]; exact bc
            have LKC := hide (LK4.out.below hbc)
            have KOC := KO.belowAll hbc
            have hzc : w3.heap.size < wc.heap.size := KOC.lt
            have LKH := LKC.out.hold
            obtain ⟨DC, hownC, hDC⟩ := LKH
            have HDC := hide hDC; have HMC := hide hownC.isMap
            clear hown bc hbc hDC o0 o1 o2 KO
            obtain ⟨o0, o1, o2⟩ := KOC.three
            go_wp2_with (at_mapUpdate; refine wpList_mapUpdate_own _ rfl _ _ _ 90 rfl 3 3 lawInt Tryd.underlying90 (plainElem Tryd.prog 3) (w2.heap.size + 1) k DC rfl hownC (by unfold maxLen; omega) _ _ _ rfl rfl HKO.out _ [] (plainElem_int Tryd.underlying3 (WalkArith.wf_i64 (by omega))) ?_; intro w5 hown5 hgrow5; have KO5 := KOC.grown hgrow5 (fun e => by injection e with e; omega); have Z5 := KO5.three; obtain ⟨z0, z1, z2⟩ := Z5)
            have HO5 : HoldM w5 (w2.heap.size + 1) (k + 1) (OW.set sy ((n0 : Int) + 1)) := ⟨_, hown5, HDC.out.put HMC.out holen (by omega) n0⟩
            have LK5 := LKC.out.turn hgrow5 HO5
            clear hown5 hownC HO5 hgrow5 o0 o1 o2 KOC
            refine (reads_c).mono ?_
            rintro e w6 ⟨rfl, b6⟩
            have LK6 := hide (LK5.below b6)
            have KO6 := KO5.belowAll b6
            have hz6 : w3.heap.size < w6.heap.size := KO6.lt
            clear LK5 KO5 z0 z1 z2
            go_upto_if 54 with fail
            go_cut [] (fun wx => Lk w w2.heap.size A n c v S1 ST (OW.set sy ((n0 : Int) + 1)) (k + 1) es wx ∧ Blk wx w3.heap.size 53 #[.int .i64 sx, .int .i64 (sy : Int), .int .i64 (lockV t.2.1 ST n0 (sx, (sy : Int), 0))])
            case first =>
              rcases hk12 with rfl | rfl
              · rw [show ((1 : Int) == 1) = true by rfl]
                obtain ⟨g, cg, Au, cu, hv, hnc, hlg, hgs, he, huc, c1, c2, ho⟩ := LK6.out.mach.look hn0 HT.out
                subst hv
                have c0 := (LK6.out.mach.own.cells he).1
                obtain ⟨s0, s1, s2, hst3⟩ : ∃ a b c, ST = [a, b, c] := by
                  have h3 := Hinv.out.vals.1
                  match ST, h3 with
                  | [a, b, c], _ => exact ⟨a, b, c, rfl⟩
                subst hst3
                have K3 : Blk w6 w2.heap.size 51 #[.int .i64 s0, .int .i64 s1, .int .i64 s2] := LK6.out.store
                obtain ⟨m0, m1, _, _⟩ := LK6.out.mach.box.two
                obtain ⟨t0, t1, t2⟩ := K3.three
                obtain ⟨z0, z1, z2⟩ := KO6.three
                have hgmb : w.heap.size < w6.heap.size := LK6.out.mach.box.lt
                have hstb : w2.heap.size < w6.heap.size := K3.lt
                have hg3 : g ≠ w3.heap.size := by have := HOB.out g (.inl rfl); omega
                have hc8 : ∀ W' : World, Below w6.heap.size w6 W' → (W'.cell? ⟨w.heap.size, 1, none⟩ = some (.slice (some ⟨g, 0, none⟩) n cg) ∧ W'.cell? ⟨g, n0 * 3, none⟩ = some (.int .i64 t.1) ∧ W'.cell? ⟨g, n0 * 3 + 1, none⟩ = some (.slice Au t.2.1.length cu) ∧ W'.cell? ⟨g, n0 * 3 + 2, none⟩ = some (.bool t.2.2) ∧ W'.cell? ⟨w2.heap.size, 0, none⟩ = some (.int .i64 s0) ∧ W'.cell? ⟨w2.heap.size, 1, none⟩ = some (.int .i64 s1) ∧ W'.cell? ⟨w2.heap.size, 2, none⟩ = some (.int .i64 s2) ∧ W'.cell? ⟨w3.heap.size, 1, none⟩ = some (.int .i64 (sy : Int))) := fun W' h => ⟨(h.cell hgmb).trans m1, (h.cell hgs).trans c0, (h.cell hgs).trans c1, (h.cell hgs).trans c2, (h.cell hstb).trans t0, (h.cell hstb).trans t1, (h.cell hstb).trans t2, (h.cell hz6).trans z1⟩
                have hc9 : ∀ (W8 W' : World) (u : Value), W' = W8.setCell ⟨w3.heap.size, 2, none⟩ u → Below w6.heap.size w6 W8 → (W'.cell? ⟨w.heap.size, 1, none⟩ = some (.slice (some ⟨g, 0, none⟩) n cg) ∧ W'.cell? ⟨g, n0 * 3, none⟩ = some (.int .i64 t.1) ∧ W'.cell? ⟨g, n0 * 3 + 1, none⟩ = some (.slice Au t.2.1.length cu) ∧ W'.cell? ⟨g, n0 * 3 + 2, none⟩ = some (.bool t.2.2) ∧ W'.cell? ⟨w2.heap.size, 0, none⟩ = some (.int .i64 s0) ∧ W'.cell? ⟨w2.heap.size, 1, none⟩ = some (.int .i64 s1) ∧ W'.cell? ⟨w2.heap.size, 2, none⟩ = some (.int .i64 s2) ∧ W'.cell? ⟨w3.heap.size, 1, none⟩ = some (.int .i64 (sy : Int))) := fun W8 W' u hW h => by
                  obtain ⟨h1, h2, h3, h4, h5, h6, h7, h8⟩ := hc8 W8 h
                  subst hW
                  refine ⟨(World.cell?_setCell_far _ _ _ _ (by show w3.heap.size ≠ w.heap.size; omega)).trans h1, (World.cell?_setCell_far _ _ _ _ hg3.symm).trans h2, (World.cell?_setCell_far _ _ _ _ hg3.symm).trans h3, (World.cell?_setCell_far _ _ _ _ hg3.symm).trans h4, (World.cell?_setCell_far _ _ _ _ (by show w3.heap.size ≠ w2.heap.size; omega)).trans h5, (World.cell?_setCell_far _ _ _ _ (by show w3.heap.size ≠ w2.heap.size; omega)).trans h6, (World.cell?_setCell_far _ _ _ _ (by show w3.heap.size ≠ w2.heap.size; omega)).trans h7, (((KO6.belowAll h).set_ 2 u).cell 1)⟩
                have htx : txnB (t.1, t.2.1, t.2.2) = true := Hinv.out.txn DB.out HT.out HD.out
                have hseen := impl_seen_c (s0 := s0) (s1 := s1) (s2 := s2) (ho.s3.below ((Below.refl w6.heap.size w6).drew)) htx hsy2
                have hof : ∀ W8, Below w6.heap.size w6 W8 → W8.frozen? ⟨w3.heap.size, 2, none⟩ = false := fun W8 h => (KO6.belowAll h).frozen 2
                have hoc : ∀ W8, Below w6.heap.size w6 W8 → W8.cell? ⟨w3.heap.size, 2, none⟩ = some (.int .i64 q0v) := fun W8 h => (KO6.belowAll h).cell 2
                have hlv2 : lockV t.2.1 [s0, s1, s2] n0 (1, (sy : Int), 0) = seesV t.2.1 [s0, s1, s2] sy := by unfold lockV; dsimp only; rw [if_neg (show ¬ ((1 : Int) = 2) by decide)]; rfl
                have HLV := hide hlv2
                clear hlv2
                go_wp2_with fail
                go_region_held3 (fun W' => (W'.cell? ⟨w.heap.size, 1, none⟩ = some (.slice (some ⟨g, 0, none⟩) n cg) ∧ W'.cell? ⟨g, n0 * 3, none⟩ = some (.int .i64 t.1) ∧ W'.cell? ⟨g, n0 * 3 + 1, none⟩ = some (.slice Au t.2.1.length cu) ∧ W'.cell? ⟨g, n0 * 3 + 2, none⟩ = some (.bool t.2.2) ∧ W'.cell? ⟨w2.heap.size, 0, none⟩ = some (.int .i64 s0) ∧ W'.cell? ⟨w2.heap.size, 1, none⟩ = some (.int .i64 s1) ∧ W'.cell? ⟨w2.heap.size, 2, none⟩ = some (.int .i64 s2) ∧ W'.cell? ⟨w3.heap.size, 1, none⟩ = some (.int .i64 (sy : Int))))
                  (first | exact hc8 _ (Below.refl _ _).drew | exact hc8 _ (below_of_drew b8) | exact hc9 _ _ _ rfl (below_of_drew b8))
                  (first | (go_at_call 47; refine hseen.mono ?_; rintro e w8 ⟨rfl, b8⟩; have f8 := hof _ (below_of_drew b8); have k8 := hoc _ (below_of_drew b8)))
                replace b8 := below_of_drew b8
                go_wp2_with fail
                go_meet
                case rel =>
                  rw [HLV.out]
                  exact ⟨(LK6.out.below b8).other (by omega) HOB.out 2 _, (KO6.belowAll b8).set_ 2 _⟩
              · rw [show ((2 : Int) == 1) = false by rfl]
                go_wp2_with fail
                go_meet
                case rel =>
                  refine ⟨LK6.out, ?_⟩
                  have hq : valOf n0 t.2.1.length = q0v := by have := Hq.out; simpa using this
                  have hlv2 : lockV t.2.1 ST n0 (2, (sy : Int), 0) = q0v := by unfold lockV; dsimp only; rw [if_pos rfl]; exact hq
                  rw [hlv2]; exact KO6
            case rest =>
              obtain ⟨lk9, ko9⟩ := hcut
              obtain ⟨lv, hlv⟩ : ∃ lv, lockV t.2.1 ST n0 (sx, (sy : Int), 0) = lv := ⟨_, rfl⟩
              rw [hlv] at ko9
              have HLO := hide (show lockO t.2.1 ST n0 (sx, (sy : Int), 0) = (sx, (sy : Int), lv) by unfold lockO; dsimp only; rw [hlv])
              have LK9 := hide lk9
              obtain ⟨y0, y1, y2⟩ := ko9.three
              have R9 := hr.below lk9.bel
              have hz9 : w3.heap.size < wc.heap.size := ko9.lt
              have hlo9 : w.heap.size + 1 ≤ wc.heap.size := by omega
              clear lk9 hlv ko9 LK6 KO6 hz6
              go_wp2_with fail
              refine (did_c LK9.out.mach R9 HA1.out hn0 HT.out HD.out hL4'.out hlo9).mono ?_
              rintro e w10 ⟨es10, rfl, M10, c10, _⟩
              have LK10 := hide (LK9.out.did M10 c10)
              have hz10 : wc.heap.size ≤ w10.heap.size := c10.size
              clear y0 y1 y2 M10 c10 R9
              cases hdd : decide (t.2.1.length + 1 = ys.length)
              · have hmore := lock1_more (ds := ms) (d := (f, ys)) (t := t) (S := (S1, ST, OW)) (n := n0) Hst.out Hop.out Hse.out Hs.out (by simpa using HOth.out) (by simpa using hdd)
                have hinv2 := Hinv.out.more (d := (f, ys)) (s := (sx, (sy : Int), 0)) HT.out HD.out Hlt.out hn04 hL4'.out hk12 ⟨sy0, (by omega : (sy : Int) ≤ 2)⟩ (by simpa using HOth.out) (by simpa using hdd)
                dsimp only at hmore hinv2
                rw [HLO.out] at hmore hinv2
                rw [Int.toNat_natCast] at hmore hinv2
                have hbf : t.2.2 = false := by rw [Hdn.out]; have := Hlt.out; simp; omega
                rw [hbf] at LK10
                have HMO := hide hmore; have HI2 := hide hinv2
                clear hmore hinv2 hdd hbf
                go_wp2_with fail
                go_roundw
                case rel => exact ⟨k + 1, es10, by go_num, by omega, by rw [Hdr.out, HMO.out]; exact LK10.out, by rw [Hdr.out, HMO.out]; exact HI2.out, by omega⟩
                case measure => simp [intOf]; omega
              · have hlast := lock1_last (ds := ms) (d := (f, ys)) (t := t) (S := (S1, ST, OW)) (n := n0) Hst.out Hop.out Hse.out Hs.out (by simpa using HOth.out) (by simpa using hdd)
                have hinv2 := Hinv.out.last (d := (f, ys)) (s := (sx, (sy : Int), 0)) HT.out HD.out Hlt.out hn04 hL4'.out hk12 ⟨sy0, (by omega : (sy : Int) ≤ 2)⟩ (by simpa using HOth.out) (by simpa using hdd)
                dsimp only at hlast hinv2
                rw [HLO.out] at hlast hinv2
                rw [Int.toNat_natCast] at hlast hinv2
                have HLA := hide hlast; have HI2 := hide hinv2
                have hjl := (List.getElem?_eq_some_iff.1 HT.out).1
                have hgt : (S1.set n0 (t.1, t.2.1 ++ [(sx, (sy : Int), lv)], t.2.2))[n0]? = some (t.1, t.2.1 ++ [(sx, (sy : Int), lv)], t.2.2) := List.getElem?_set_self hjl
                have htx2 := hinv2.txn (n := n0) DB.out (List.getElem?_set_self hjl) HD.out
                obtain ⟨os, hos⟩ : ∃ os, t.2.1 ++ [(sx, (sy : Int), lv)] = os := ⟨_, rfl⟩
                rw [hos] at HLA HI2 hgt htx2 LK10
                have HTX := hide htx2
                obtain ⟨g, cg, Au, cu, hv, hnc, hlg, hgs, he, huc, c1, c2, ho⟩ := LK10.out.mach.look hn0 hgt
                subst hv
                obtain ⟨z0, z1, _, _⟩ := LK10.out.mach.box.two
                have fz := LK10.out.mach.own.free (n0 * 3 + 2)
                obtain ⟨es12, lk12⟩ := LK10.out.done hn0 hgt
                dsimp only at lk12
                rw [List.set_set] at lk12
                obtain ⟨g', cg', Au2, cu2, hv2, _, _, _, he2, huc2, d1, d2, ho2⟩ := lk12.mach.look hn0 (by rw [List.getElem?_set_self hjl])
                obtain ⟨rfl, rfl⟩ : g = g' ∧ cg = cg' := by simpa using hv2
                have d0 := (lk12.mach.own.cells he2).1
                obtain ⟨y0, y1, _, _⟩ := lk12.mach.box.two
                have hlw := impl_lastWrites_c ho2.s3 HTX.out
                have LK12 := hide lk12
                have hz12 : (w10.setCell ⟨g, n0 * 3 + 2, none⟩ (.bool true)).heap.size = w10.heap.size := size_setCell ..
                clear hdd hlast hinv2 htx2 hgt c1 he ho he2 ho2 lk12 hos hv2 LK9
                go_wp2_with fail
                refine hlw.mono ?_
                rintro e w13 ⟨r13, kk, rfl, hret, b13⟩
                have LK13 := hide (LK12.out.below b13)
                have hz13 : w10.heap.size ≤ w13.heap.size := by have := b13.size; omega
                have HRET := hide hret
                clear y0 y1 d0 d1 d2 z0 z1 c2 fz hlw LK12 b13 hret
                obtain ⟨A3, c3, rfl, hnc3, hm3, hr3⟩ := HRET.out.s3
                have hl3 := hide hr3.len
                clear hr3
                have O13 := hide (HRET.out.mono (show w2.heap.size + 1 ≤ (w10.setCell ⟨g, n0 * 3 + 2, none⟩ (.bool true)).heap.size by rw [hz12]; omega))
                have hstl : ST.length = 3 := Hinv.out.vals.1
                have hopB : ∀ o ∈ os, opB o = true := fun o ho => HI2.out.ops n0 _ (List.getElem?_set_self hjl) o ho
                have HOPB := hide hopB; have HSTL := hide hstl; have HOL := hide holen
                have LK13' := hide (show Lk w w2.heap.size A n c (.slice (some ⟨g, 0, none⟩) n cg) (S1.set n0 (t.1, os, true)) (commitTo os ST 0) (OW.set sy ((n0 : Int) + 1)) (k + 1) es12 w13 from LK13.out)
                clear HRET LK13 hopB hstl holen
                go_wp2_with fail
                go_loopw [88] (fun i wr' => ∃ j : Nat, i = .int .i64 j ∧ j ≤ kk ∧ Lk w w2.heap.size A n c (.slice (some ⟨g, 0, none⟩) n cg) (S1.set n0 (t.1, os, true)) (commitTo os ST j) (OW.set sy ((n0 : Int) + 1)) (k + 1) es12 wr' ∧ O3 53 wr' (w2.heap.size + 1) (.slice A3 kk c3) kk (lastW os) ∧ w13.heap.size ≤ wr'.heap.size) (fun i _ => kk - (intOf i).toNat)
                case atStart => exact ⟨0, rfl, Nat.zero_le _, LK13'.out, O13.out, Nat.le_refl _⟩
                case round =>
                  clear LK13' O13
                  obtain ⟨j, rfl, hj, hlkj, hoj, hzj⟩ := hrel
                  have LKJ := hide hlkj; have OJ := hide hoj
                  clear hlkj hoj
                  by_cases hjk : j < kk
                  · obtain ⟨A4, c4, hA4, _, _, hr4⟩ := OJ.out.s3
                    obtain ⟨rfl, rfl⟩ : A3 = A4 ∧ c3 = c4 := by simpa using hA4
                    obtain ⟨bb, oo, x, y, z, rfl, hbb, hx, p0, p1, p2⟩ := hr4.at_ hjk
                    have hkey := opB_key (HOPB.out _ (lastW_mem (List.mem_of_getElem? hx)).1)
                    obtain ⟨yn, rfl⟩ : ∃ q : Nat, y = q := ⟨y.toNat, by omega⟩
                    have hcl : (commitTo os ST j).length = 3 := by rw [commitTo_len]; exact HSTL.out
                    obtain ⟨u, hu⟩ : ∃ u, (commitTo os ST j)[yn]? = some u := ⟨_, List.getElem?_eq_getElem (by omega)⟩
                    have hcs := commitTo_succ (st := ST) hx
                    dsimp only at hcs
                    rw [Int.toNat_natCast] at hcs
                    have HCS := hide hcs
                    have LKA := hide (LKJ.out.alloc (.cells #[.int .i64 x, .int .i64 (yn : Int), .int .i64 z] 53))
                    have s0 := (LKA.out.store.cell yn).trans (storeC_get hu)
                    have sf := LKA.out.store.frozen yn
                    have j0 : (0 : Int) ≤ j := by omega
                    have j1 : (j : Int) < kk := by omega
                    have yn0 : (0 : Int) ≤ yn := by omega
                    have yn3 : (yn : Int) < 3 := by omega
                    have hOA := (OJ.out.below ((Below.refl _ _).alloc (Nat.le_refl _) (.cells #[.int .i64 x, .int .i64 (yn : Int), .int .i64 z] 53)))
                    have HOA := hide (OF.chg hOA.of (Chg.setCell (S := fun q => q = w2.heap.size) (p := ⟨w2.heap.size, yn, none⟩) rfl (.int .i64 z)) (fun q hq e => by have := (hOA.of.lt q hq).1; omega))
                    clear hx hu hcs hcl hkey hr4 hOA hA4
                    go_wp2_with fail
                    go_roundw
                    case rel => exact ⟨j + 1, by go_num, by omega, by rw [HCS.out]; exact LKA.out.put yn z, HOA.out, by rw [size_setCell]; simp; omega⟩
                    case measure => simp [intOf]; omega
                  · obtain rfl : j = kk := by omega
                    have hca := commitTo_all (os := os) HSTL.out hl3.out
                    rw [hca] at LKJ
                    have hol2 : (OW.set sy ((n0 : Int) + 1)).length = 3 := by simp [HOL.out]
                    obtain ⟨OW2, hOW2⟩ : ∃ o, OW.set sy ((n0 : Int) + 1) = o := ⟨_, rfl⟩
                    rw [hOW2] at hol2 LKJ HI2 HLA
                    have HOL2 := hide hol2
                    have LKJ' := hide (show Lk w w2.heap.size A n c (.slice (some ⟨g, 0, none⟩) n cg) (S1.set n0 (t.1, os, true)) (commitS os ST) (freeTo n0 OW2 0) (k + 1) es12 wr by rw [freeTo_zero]; exact LKJ.out)
                    clear hca hol2 hOW2 LKJ OJ
                    go_wp2_with fail
                    go_loopw [98] (fun i wr' => ∃ j : Nat, i = .int .i64 j ∧ j ≤ 3 ∧ Lk w w2.heap.size A n c (.slice (some ⟨g, 0, none⟩) n cg) (S1.set n0 (t.1, os, true)) (commitS os ST) (freeTo n0 OW2 j) (k + 1) es12 wr' ∧ w13.heap.size ≤ wr'.heap.size) (fun i _ => 3 - (intOf i).toNat)
                    case atStart => exact ⟨0, rfl, by omega, LKJ'.out, hzj⟩
                    case round =>
                      clear LKJ'
                      obtain ⟨j, rfl, hj, hlkj, hzk⟩ := hrel
                      have LKQ := hide hlkj
                      clear hlkj
                      by_cases hj3 : j < 3
                      · obtain ⟨x, hx⟩ : ∃ x, OW2[j]? = some x := ⟨_, List.getElem?_eq_getElem (by rw [HOL2.out]; exact hj3)⟩
                        obtain ⟨D, hown, hD⟩ := LKQ.out.hold
                        have hhas := (hD j (by omega)).1
                        have hat := (hD j (by omega)).2
                        have hfh := freeTo_hold (n := n0) hx
                        rw [hfh.1] at hhas
                        rw [hfh.2] at hat
                        have HDD := hide hD; have HX := hide hx
                        have HKJ := hide (keyInt (wfI_small (x := (j : Int)) (by omega) (by omega)))
                        have j0 : (0 : Int) ≤ j := by omega
                        have j1 : (j : Int) < 3 := by omega
                        clear hD hx hfh
                        by_cases hx1 : x = (n0 : Int) + 1
                        · subst hx1
                          rw [show (!decide ((n0 : Int) + 1 = 0)) = true by simp; omega] at hhas
                          rw [if_neg (show ¬ ((n0 : Int) + 1 = 0) by omega), show (n0 : Int) + 1 - 1 = n0 by omega] at hat
                          have HHas := hide hhas; have HAt := hide hat
                          have hownk := hown
                          have HS := hide (freeTo_free HX.out)
                          clear hhas hat
                          go_wp2_with (first | (at_lookup; refine wpList_lookup_own_ok_int _ rfl _ _ 90 rfl 3 3 .i64 lawInt Tryd.underlying90 Tryd.underlying3 (zeroInt _) (w2.heap.size + 1) (k + 1) D rfl hown _ _ rfl HKJ.out ?_; intro cc hcc hwc; obtain rfl : cc = (n0 : Int) := (by have h1 := hcc.symm.trans HAt.out; simpa using h1); clear hcc; rw [HHas.out]) | (at_delete; refine wpList_delete_own _ rfl _ _ 90 3 rfl 3 lawInt Tryd.underlying90 (plainElem Tryd.prog 3) (w2.heap.size + 1) (k + 1) D rfl hownk _ _ rfl HKJ.out ?_; intro w20 hown20 hturn20))
                          go_roundw
                          case rel => exact ⟨j + 1, by go_num, by omega, by rw [HS.out]; exact LKQ.out.turn hturn20.grown ⟨_, hown20, HDD.out.del (by rw [freeTo_len]; exact HOL2.out) (by omega)⟩, by have := hturn20.grown.size; omega⟩
                          case measure => simp [intOf]; omega
                        · have HS := hide (freeTo_keep (n := n0) HX.out hx1)
                          by_cases hx0 : x = 0
                          · subst hx0
                            rw [show (!decide ((0 : Int) = 0)) = false by rfl] at hhas
                            rw [if_pos rfl] at hat
                            have HHas := hide hhas; have HAt := hide hat
                            clear hhas hat hx1
                            go_wp2_with (at_lookup; refine wpList_lookup_own_ok_int _ rfl _ _ 90 rfl 3 3 .i64 lawInt Tryd.underlying90 Tryd.underlying3 (zeroInt _) (w2.heap.size + 1) (k + 1) D rfl hown _ _ rfl HKJ.out ?_; intro cc hcc hwc; obtain rfl : cc = 0 := (by have h1 := hcc.symm.trans HAt.out; simpa using h1); clear hcc; rw [HHas.out])
                            go_roundw
                            case rel => exact ⟨j + 1, by go_num, by omega, by rw [HS.out]; exact LKQ.out, by omega⟩
                            case measure => simp [intOf]; omega
                          · rw [show (!decide (x = 0)) = true by simpa using hx0] at hhas
                            rw [if_neg hx0] at hat
                            obtain ⟨xv, hxv⟩ : ∃ v, x - 1 = v := ⟨_, rfl⟩
                            rw [hxv] at hat
                            have hne : (xv == (n0 : Int)) = false := by rw [beq_eq_false_iff_ne]; omega
                            have HHas := hide hhas; have HAt := hide hat
                            clear hhas hat hx1 hx0 hxv
                            go_wp2_with (at_lookup; refine wpList_lookup_own_ok_int _ rfl _ _ 90 rfl 3 3 .i64 lawInt Tryd.underlying90 Tryd.underlying3 (zeroInt _) (w2.heap.size + 1) (k + 1) D rfl hown _ _ rfl HKJ.out ?_; intro cc hcc hwc; obtain rfl : cc = xv := (by have h1 := hcc.symm.trans HAt.out; simpa using h1); clear hcc; rw [HHas.out])
                            go_roundw
                            case rel => exact ⟨j + 1, by go_num, by omega, by rw [HS.out]; exact LKQ.out, by omega⟩
                            case measure => simp [intOf]; omega
                      · obtain rfl : j = 3 := by omega
                        have hfa := freeTo_all n0 HOL2.out
                        rw [hfa] at LKQ
                        clear hfa
                        go_wp2_with fail
                        go_roundw
                        case rel => exact ⟨k + 1, es12, by go_num, by omega, by rw [Hdr.out, HLA.out]; exact LKQ.out, by rw [Hdr.out, HLA.out]; exact HI2.out, by omega⟩
                        case measure => simp [intOf]; omega
    · obtain rfl : k = m := by omega
      have hfin : xs.take k = xs := List.take_of_length_le (by rw [hsl.out]; omega)
      rw [hfin] at LK
      have hsmT := (by have := Hinv.out.fits.small DB.out; rw [hfin] at this; exact this : SmallT (lockR ms xs).1)
      have HSM := hide hsmT
      clear hsmT
      obtain ⟨_, _, _, _⟩ := LK.out.mach.box.two
      go_wp2_with fail
      refine (history_c LK.out.mach (by omega) HSM.out).mono ?_
      rintro e w9 ⟨v9, es9, rfl, D9, hs9, b9⟩
      go_wp2_with fail
      go_ret
      exact ⟨_, n, es9, rfl, D9.mono LK.out.bel.size, hs9, below_step LK.out.bel b9⟩

end Go.Proofs.YtfcfhgophpoibaaDoor
