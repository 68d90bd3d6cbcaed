/- spec.RunLocks. The tail (region 18) printed by mk_runls.py. -/
import Derived.Test.YtfcfhgophpoibaaDoorSkM
import Derived.Deep.DeepCutAuto
namespace Go.Proofs.YtfcfhgophpoibaaDoor
open Go.RowKit

set_option maxRecDepth 100000 in
set_option maxHeartbeats 16000000 in
theorem spec_RunLocks_c {A : Option Addr} {n c : Nat} {ms : Ds} {sv : Value} {m : Nat} {xs : List Int} {w : World} (hr : RDs w A n ms) (hn : n ≤ 1048576) (hsm : SmallD ms) (hs : SI w sv m xs) :
    Calls Tryd.prog 20 #[.slice A n c, sv] w fun e w' => ∃ v m es, e = .returned v ∧ OT w' w.heap.size v m es ∧ SaysT es (lockL ms xs) ∧ Below w.heap.size w w' := by
  have ss := hs
  have hl := hide hr.1
  obtain ⟨As, cs, rfl, hsnc, hsn, hsr⟩ := hs
  have hsl := hide hsr.len
  have hmk := make3
  cases hp : planB ms
  · have hf : lockL ms xs = [] := by simp [lockL, runB, hp]
    have F := hide hf; have P := hide hp; clear hf hp
    go_enter Tryd.func20, Tryd.ntmps20
    go_wp2_with fail
    refine (spec_PlanValid_c hr (by omega) hsm).mono ?_
    rintro e w2 ⟨rfl, b2⟩
    rw [P.out]
    go_wp2_with fail
    go_ret
    exact ⟨_, 0, [], rfl, (OT.zero (Nat.le_refl _)).mono b2.size, by rw [F.out]; rfl, b2.alloc b2.size _⟩
  · cases hq : schedB n xs
    · have hf : lockL ms xs = [] := by simp [lockL, runB, hp, hl.out, hq]
      have F := hide hf; have P := hide hp; have Q := hide hq; clear hf hp hq
      go_enter Tryd.func20, Tryd.ntmps20
      go_wp2_with fail
      refine (spec_PlanValid_c hr (by omega) hsm).mono ?_
      rintro e w2 ⟨rfl, b2⟩
      rw [P.out]
      go_wp2_with fail
      refine (spec_ScheduleValid_c (ss.below b2) (by omega) (by omega)).mono ?_
      rintro e w' ⟨rfl, rfl⟩
      rw [Q.out]
      go_wp2_with fail
      go_ret
      exact ⟨_, 0, [], rfl, (OT.zero (Nat.le_refl _)).mono b2.size, by rw [F.out]; rfl, b2.alloc b2.size _⟩
    · have hrun : runB ms xs = true := by simp [runB, hp, hl.out, hq]
      have hf : lockL ms xs = (lockR ms xs).1 := by simp [lockL, hrun]
      obtain ⟨hn4, hdb, hm40, hxb⟩ := runB_parts hrun
      have F := hide hf; have P := hide hp; have Q := hide hq; have DB := hide hdb; have XB := hide hxb
      rw [hl.out] at hn4
      clear hf hp hq hdb hxb hrun
      go_enter Tryd.func20, Tryd.ntmps20
      go_wp2_with fail
      refine (spec_PlanValid_c hr (by omega) hsm).mono ?_
      rintro e w2 ⟨rfl, b2⟩
      rw [P.out]
      have R1 := hr.below b2
      go_wp2_with fail
      refine (spec_ScheduleValid_c (ss.below b2) (by omega) (by omega)).mono ?_
      rintro e w' ⟨rfl, rfl⟩
      rw [Q.out]
      go_wp2_with fail
      refine (l17Empty_c R1 (by omega)).mono ?_
      rintro e w3 ⟨v3, es3, rfl, D3, hs3, b3⟩
      have K1 := (Blk.new w3 3 #[.int .i64 0, .int .i64 0, .int .i64 0]).alloc (.cells #[.int .i64 0, .int .i64 0, .int .i64 0] 3)
      have K2 := Blk.new (w3.alloc (.cells #[.int .i64 0, .int .i64 0, .int .i64 0] 3)) 3 #[.int .i64 0, .int .i64 0, .int .i64 0]
      simp only [World.size_alloc] at K2
      have A0 : Sk w2 w3.heap.size n v3 (emptyT ms) [0, 0, 0] [0, 0, 0] es3 ((w3.alloc (.cells #[.int .i64 0, .int .i64 0, .int .i64 0] 3)).alloc (.cells #[.int .i64 0, .int .i64 0, .int .i64 0] 3)) :=
        ⟨(D3.alloc _).alloc _, hs3, K1, K2, (b3.alloc b3.size _).alloc (by have := b3.size; simp; omega) _, b3.size⟩
      have hz23 := b3.size
      clear D3 hs3 K1 K2 b3
      go_wp2_with fail
      go_loopw [8] (fun i wr => ∃ (k : Nat) (es : List El), i = .int .i64 k ∧ k ≤ m ∧ Sk w2 w3.heap.size n v3 (lockR ms (xs.take k)).1 (lockR ms (xs.take k)).2.1 (lockR ms (xs.take k)).2.2 es wr ∧ LockI ms (lockR ms (xs.take k))) (fun i _ => m - (intOf i).toNat)
      case atStart => exact ⟨0, es3, rfl, Nat.zero_le _, by simpa [lockR] using A0, by simpa [lockR] using LockI.zero DB.out⟩
      case round =>
        obtain ⟨k, es, rfl, hk, hsk, hinv⟩ := hrel
        clear A0
        have Hinv := hide hinv; have SK := hide hsk; clear hinv hsk
        by_cases hkm : k < m
        · have hri := hsr.below b2
          obtain ⟨b, off, x, rfl, hb, hx, hc⟩ := hri.at_ hkm
          obtain ⟨hx0, hx1⟩ := XB.out x (List.mem_of_getElem? hx)
          rw [hl.out] at hx1
          obtain ⟨n0, rfl⟩ : ∃ q : Nat, x = q := ⟨x.toNat, by omega⟩
          have hn0 : n0 < n := by omega
          obtain ⟨d, t, hd, ht, hst, hop, hse, hle, hdn⟩ := Hinv.out.fits.at_ (show n0 < ms.length by rw [hl.out]; exact hn0)
          have hdp := draftB_parts (DB.out d (List.mem_of_getElem? hd))
          have hdr := lockR_snoc (ds := ms) hx
          rw [Int.toNat_natCast] at hdr
          have Hdr := hide hdr
          obtain ⟨⟨S1, ST, OW⟩, hS⟩ : ∃ S, lockR ms (xs.take k) = S := ⟨_, rfl⟩
          rw [hS] at Hdr Hinv SK hop hse ht
          dsimp only at SK hop hse ht
          have holen := Hinv.out.olen
          have hstl : ST.length = 3 := Hinv.out.vals.1
          dsimp only at holen
          clear hS hdr
          obtain ⟨g, cg, Au, cu, rfl, hnc, hlg, hgs', he, huc, c0, c1, c2, ho⟩ := SK.out.look hn0 ht
          obtain ⟨bp, op, f', ys', B', kk', d', rfl, hbp, hx', p0, p1, hkd', hdm', hri'⟩ := R1.at_ hn0
          have e2 := hd.symm.trans hx'
          injection e2 with e2
          subst e2
          dsimp only at hst hle hdp hdn
          have hyl : ys'.length = kk' := hri'.len
          have hbel := SK.out.bel
          have q0 := (hbel.cell (p := ⟨b, off + k, none⟩) hb).trans hc
          have q1 := (hbel.cell (p := ⟨bp, op + n0 * 2 + 1, none⟩) hbp).trans p1
          have Hst := hide hst; have Hop := hide hop; have Hse := hide hse; have Hdn := hide hdn; have Hd := hide hd; have Ht := hide ht; have Hyl := hide hyl
          have hk4 : kk' ≤ 4 := by rw [← hyl]; exact hdp.2.1
          have hlk : t.2.1.length ≤ kk' := by rw [← hyl]; exact hle
          have Hdp := hide hdp.2.2.2
          have Hp1 := hide p1
          have HUL := hide (fun q (h : (Value.slice Au t.2.1.length cu).ownBlock = some q) => (ho.of.lt q h).2)
          have He := hide he
          have hpos : ∀ o ∈ t.2.1, 0 ≤ o.2.2 := fun o ho => by
            have h1 := Hinv.out.ops n0 t ht o ho
            unfold opB at h1
            simp only [Bool.and_eq_true] at h1
            exact ((inB_iff _ _ _).1 h1.2.2.1).1
          have HPos := hide hpos
          clear hx hc hd ht hst hop hse hle hdn hdp he p0 p1 hx' hbel ho hpos
          obtain ⟨L, hL⟩ : ∃ L, t.2.1.length = L := ⟨_, rfl⟩
          rw [hL] at c1 hlk
          have HL := hide hL
          clear hL hyl
          have n0i : (0 : Int) ≤ n0 := by omega
          have n1i : (n0 : Int) < n := by omega
          have k0 : (0 : Int) ≤ k := by omega
          have k1 : (k : Int) < m := by omega
          by_cases hfull : L = kk'
          · have hnone := lock1_none (ds := ms) (d := (f', ys')) (t := t) (S := (S1, ST, OW)) Hst.out Hop.out (by rw [HL.out, Hyl.out, hfull])
            have Hn := hide hnone
            clear hnone
            subst hfull
            go_wp2_with fail
            go_roundw
            case rel => exact ⟨k + 1, es, by go_num, by omega, by rw [Hdr.out, Hn.out]; exact SK.out, by rw [Hdr.out, Hn.out]; exact Hinv.out⟩
            case measure => simp [intOf]; omega
          · have hlt : L < kk' := by omega
            obtain ⟨bs, os, sx, sy, sz, rfl, hbs, hs', r0, r1, r2⟩ := hri'.at_ hlt
            have hsp := Hdp.out _ (List.mem_of_getElem? hs')
            dsimp only at hsp
            obtain ⟨hk12, ⟨sy0, sy2⟩, rfl⟩ := hsp
            obtain ⟨sy, rfl⟩ : ∃ q : Nat, sy = q := ⟨sy.toNat, by omega⟩
            have a0 := (SK.out.bel.cell (p := ⟨bs, os + L * 3, none⟩) hbs).trans r0
            have a1 := (SK.out.bel.cell (p := ⟨bs, os + L * 3 + 1, none⟩) hbs).trans r1
            have a2 := (SK.out.bel.cell (p := ⟨bs, os + L * 3 + 2, none⟩) hbs).trans r2
            have Hs := hide (show ys'[t.2.1.length]? = some (sx, (sy : Int), 0) by rw [HL.out]; exact hs')
            have hLi : (0 : Int) ≤ L := by omega
            have hL4 : L < 4 := by omega
            have Li : (L : Int) < kk' := by omega
            have hn04 : n0 < 4 := by omega
            have hne : ((L : Int) == (kk' : Int)) = false := by rw [beq_eq_false_iff_ne]; omega
            clear r0 r1 r2 hs' hfull
            obtain ⟨ov, hov⟩ : ∃ ov, OW[sy]? = some ov := ⟨_, List.getElem?_eq_getElem (by omega)⟩
            have hgd : OW.getD sy 0 = ov := by rw [List.getD_eq_getElem?_getD, hov]; rfl
            have K4 := Blk.new wr 53 #[.int .i64 sx, .int .i64 (sy : Int), .int .i64 0]
            have SK4 := hide (SK.out.alloc (.cells #[.int .i64 sx, .int .i64 (sy : Int), .int .i64 0] 53))
            have sy3 : (sy : Int) < 3 := by omega
            have x0 := (SK4.out.owner.cell sy).trans (storeC_get hov)
            have xf := SK4.out.owner.frozen sy
            obtain ⟨o0, o1, o2⟩ := K4.three
            by_cases hoth : OW.getD sy 0 ≠ 0 ∧ OW.getD sy 0 ≠ (n0 : Int) + 1
            · have hheld := lock1_held (ds := ms) (d := (f', ys')) (t := t) (S := (S1, ST, OW)) (n := n0) Hst.out Hop.out Hs.out (by simpa using hoth)
              have HH := hide hheld
              rw [hgd] at hoth
              have h1 : (ov != 0) = true := by rw [bne_iff_ne]; exact hoth.1
              have h2 : (ov != (n0 : Int) + 1) = true := by rw [bne_iff_ne]; exact hoth.2
              clear hheld hgd hov
              go_wp2_with fail
              go_roundw
              case rel => exact ⟨k + 1, es, by go_num, by omega, by rw [Hdr.out, HH.out]; exact SK4.out, by rw [Hdr.out, HH.out]; exact Hinv.out⟩
              case measure => simp [intOf]; omega
            · have HOth := hide hoth
              rw [hgd] at hoth
              go_upto_region 13 with fail
              go_cut [78] (fun s wx => s = .bool false ∧ wx = wr.alloc (.cells #[.int .i64 sx, .int .i64 (sy : Int), .int .i64 0] 53))
              case first =>
                by_cases hz : ov = 0
                · subst hz
                  go_wp2_with fail
                  go_meet
                  case rel => exact ⟨rfl, rfl⟩
                · have hz1 : ov = (n0 : Int) + 1 := by omega
                  subst hz1
                  have h1 : ((n0 : Int) + 1 != 0) = true := by rw [bne_iff_ne]; exact hz
                  have h2 : ((n0 : Int) + 1 != (n0 : Int) + 1) = false := by simp
                  go_wp2_with fail
                  go_meet
                  case rel => exact ⟨rfl, rfl⟩
              case rest =>
                obtain ⟨rfl, rfl⟩ := hcut
                clear hoth hov hgd c0 c1 c2 a0 a1 a2 q1
                go_wp2_with fail
                obtain ⟨W5, hW5⟩ : ∃ W, (wr.alloc (.cells #[.int .i64 sx, .int .i64 (sy : Int), .int .i64 0] 53)).setCell ⟨w3.heap.size + 1, sy, none⟩ (.int .i64 ((n0 : Int) + 1)) = W := ⟨_, rfl⟩
                have hzw : w3.heap.size + 1 < wr.heap.size := SK.out.owner.lt
                have hzg : g < wr.heap.size := hgs'
                have hne4 : wr.heap.size ≠ w3.heap.size + 1 := by omega
                have SK5 := hide (SK4.out.putO sy ((n0 : Int) + 1))
                have K5 := K4.far (p := ⟨w3.heap.size + 1, sy, none⟩) hne4 (.int .i64 ((n0 : Int) + 1))
                rw [hW5] at SK5 K5 ⊢
                have hz5 : wr.heap.size < W5.heap.size := K5.lt
                obtain ⟨c0, c1, c2⟩ := SK5.out.own.cells He.out
                dsimp only at c0 c1 c2
                obtain ⟨z0, z1, z2⟩ := K5.three
                obtain ⟨s0, hs0⟩ : ∃ s0, ST[sy]? = some s0 := ⟨_, List.getElem?_eq_getElem (by omega)⟩
                have t0 := (SK5.out.store.cell sy).trans (storeC_get hs0)
                have hstb : w3.heap.size < W5.heap.size := by omega
                have hgb : g < W5.heap.size := by omega
                have hown : ownV t.2.1 sy s0 = seesV t.2.1 ST sy := by
                  have h1 := Hinv.out.own Ht.out Hd.out (by rw [HL.out, Hyl.out]; exact hlt) sy
                  dsimp only at h1
                  rwa [show ST.getD sy 0 = s0 by rw [List.getD_eq_getElem?_getD, hs0]; rfl] at h1
                have HOwn := hide hown
                have ho5 : O3 53 W5 w2.heap.size (.slice Au t.2.1.length cu) t.2.1.length t.2.1 := SK5.out.own.own n0 _ He.out
                have hl18 := l18Own_c (f := t.1) (key := (sy : Int)) (other := s0) (dn := t.2.2) (ho5.s3.below ((Below.refl W5.heap.size W5).drew)) HPos.out
                have hc8 : ∀ W' : World, Below W5.heap.size W5 W' → (W'.cell? ⟨g, n0 * 3, none⟩ = some (.int .i64 t.1) ∧ W'.cell? ⟨g, n0 * 3 + 1, none⟩ = some (.slice Au t.2.1.length cu) ∧ W'.cell? ⟨g, n0 * 3 + 2, none⟩ = some (.bool t.2.2) ∧ W'.cell? ⟨w3.heap.size, sy, none⟩ = some (.int .i64 s0) ∧ W'.cell? ⟨wr.heap.size, 1, none⟩ = some (.int .i64 (sy : Int))) := fun W' h => ⟨(h.cell hgb).trans c0, (h.cell hgb).trans c1, (h.cell hgb).trans c2, (h.cell hstb).trans t0, (h.cell hz5).trans z1⟩
                clear hW5 hs0 hown c0 c1 c2 t0 o0 o1 o2 x0 xf K4 SK4
                go_region_held3 (fun W' => (W'.cell? ⟨g, n0 * 3, none⟩ = some (.int .i64 t.1) ∧ W'.cell? ⟨g, n0 * 3 + 1, none⟩ = some (.slice Au t.2.1.length cu) ∧ W'.cell? ⟨g, n0 * 3 + 2, none⟩ = some (.bool t.2.2) ∧ W'.cell? ⟨w3.heap.size, sy, none⟩ = some (.int .i64 s0) ∧ W'.cell? ⟨wr.heap.size, 1, none⟩ = some (.int .i64 (sy : Int))))
                  (first | exact hc8 _ (Below.refl _ _).drew | exact hc8 _ (below_of_drew b8))
                  (first | (go_at_call 43; refine hl18.mono ?_; rintro e w8 ⟨rfl, b8⟩))
                replace b8 := below_of_drew b8
                have SK8 := hide (SK5.out.below b8)
                have K8 := K5.belowAll b8
                clear hc8 hl18 ho5 z0 z1 z2 K5 SK5
                obtain ⟨z0, z1, z2⟩ := K8.three
                have hz8 : wr.heap.size < w8.heap.size := K8.lt
                go_upto_if 99 with fail
                go_cut [12] (fun s wx => s = .int .i64 (lockV t.2.1 ST n0 (sx, (sy : Int), 0)) ∧ Sk w2 w3.heap.size n (.slice (some ⟨g, 0, none⟩) n cg) S1 ST (OW.set sy ((n0 : Int) + 1)) es wx ∧ Blk wx wr.heap.size 53 #[.int .i64 sx, .int .i64 (sy : Int), .int .i64 0])
                case first =>
                  rcases hk12 with rfl | rfl
                  · have h12 : ((1 : Int) == 2) = false := by rfl
                    go_wp2_with fail
                    go_meet
                    case rel => exact ⟨by rw [HOwn.out]; unfold lockV; dsimp only; rw [if_neg (show ¬ ((1 : Int) = 2) by decide)]; rfl, SK8.out, K8⟩
                  · have h12 : ((2 : Int) == 2) = true := by rfl
                    go_wp2_with fail
                    refine (l17Value_c hn04 hL4).mono ?_
                    rintro e w' ⟨rfl, rfl⟩
                    go_wp2_with fail
                    go_meet
                    case rel => exact ⟨by unfold lockV; dsimp only; rw [if_pos rfl, HL.out], SK8.out, K8⟩
                case rest =>
                  obtain ⟨rfl, sk9, ko9⟩ := hcut
                  obtain ⟨lv, hlv⟩ : ∃ lv, lockV t.2.1 ST n0 (sx, (sy : Int), 0) = lv := ⟨_, rfl⟩
                  rw [hlv]
                  have HLO := hide (show lockO t.2.1 ST n0 (sx, (sy : Int), 0) = (sx, (sy : Int), lv) by unfold lockO; dsimp only; rw [hlv])
                  clear hlv SK8 K8 z0 z1 z2
                  have SK9 := hide sk9
                  clear sk9
                  go_upto_region 18 with fail
                  go_cut [] (fun wx => ∃ es', Sk w2 w3.heap.size n (.slice (some ⟨g, 0, none⟩) n cg) (S1.set n0 (t.1, t.2.1 ++ [(sx, (sy : Int), lv)], t.2.2)) ST (OW.set sy ((n0 : Int) + 1)) es' wx)
                  case first =>
                    obtain ⟨_, d1, _⟩ := SK9.out.own.cells He.out
                    have dz1 := SK9.out.own.free (n0 * 3 + 1)
                    dsimp only at d1
                    rw [HL.out] at d1
                    have ho2 : O3 53 wc w2.heap.size (.slice Au L cu) L t.2.1 := by have := SK9.out.own.own n0 _ He.out; dsimp only at this; rw [HL.out] at this; exact this
                    have hz9 : wr.heap.size < wc.heap.size := ko9.lt
                    have hbase : w2.heap.size ≤ (wc.drew.alloc (.cells #[.int .i64 sx, .int .i64 (sy : Int), .int .i64 lv] 53)).heap.size := by have := SK9.out.bel.size; simp; omega
                    have KN := Blk.new wc.drew 53 #[.int .i64 sx, .int .i64 (sy : Int), .int .i64 lv]
                    have hgW : g < wc.heap.size := by omega
                    obtain ⟨csg, hKG⟩ : ∃ cs, Blk wc g 35 cs := by
                      rcases SK9.out.own.shape with ⟨h1, _⟩ | ⟨g', c', h1, _, _, _, _, cs, hb⟩
                      · cases h1
                      · injection h1 with h1; injection h1 with h1; injection h1 with h1; subst h1; exact ⟨cs, hb⟩
                    have hcg := (hKG.cell (n0 * 3 + 1)).symm.trans d1
                    have Hcg := hide hcg; have HKG := hide hKG
                    have hne : (Value.slice Au L cu).ownBlock ≠ some g := by have := SK9.out.own.ne He.out (k := g) rfl; dsimp only at this; rw [HL.out] at this; exact this
                    have Hne := hide hne
                    have hul := HUL.out
                    rw [HL.out] at hul
                    have HWU := hide (show (Value.slice Au L cu).ownBlock ≠ some wr.heap.size from fun e => by have := hul _ e; omega)
                    have Hwg := hide (show wr.heap.size ≠ g by omega)
                    obtain ⟨k0', k1', _⟩ := ko9.three
                    have HC := hide (show ∀ W' : World, W'.heap[wr.heap.size]? = wc.heap[wr.heap.size]? → W'.cell? ⟨wr.heap.size, 0, none⟩ = some (.int .i64 sx) ∧ W'.cell? ⟨wr.heap.size, 1, none⟩ = some (.int .i64 (sy : Int)) from fun W' h1 => ⟨(World.cell?_of_block h1).trans k0', (World.cell?_of_block h1).trans k1'⟩)
                    clear hne hcg hKG hul
                    refine wp_region_held_drew (S := (fun W' => W'.cell? ⟨wr.heap.size, 0, none⟩ = some (.int .i64 sx) ∧ W'.cell? ⟨wr.heap.size, 1, none⟩ = some (.int .i64 (sy : Int)))) (by kernel_rfl) ?_ (fun hHeld => ?_)
                    · exact HC.out _ rfl
                    refine wpAnyH_take (i := 0) (v := ?vvr1) (by rw [List.getElem?_toArray]; exact rfl) (by kernel_rfl) (by kernel_rfl) (by kernel_rfl) (by intro _ _ _ h; exact h) (Or.inl ⟨by rfl, ?hyr1⟩) hHeld ?restr1
                    case' hyr1 => (intro w hSw; (try dsimp only at hSw); go_simp; try (with_reducible rfl))
                    (try simp only [Act.put, List.setIfInBounds_toArray, List.set_cons_zero, List.set_cons_succ])
                    refine wpAnyH_take (i := 1) (v := ?vvr2) (by rw [List.getElem?_toArray]; exact rfl) (by kernel_rfl) (by kernel_rfl) (by kernel_rfl) (by intro _ _ _ h; exact h) (Or.inl ⟨by rfl, ?hyr2⟩) hHeld ?restr2
                    case' hyr2 => (intro w hSw; (try dsimp only at hSw); go_simp; try (with_reducible rfl))
                    (try simp only [Act.put, List.setIfInBounds_toArray, List.set_cons_zero, List.set_cons_succ])
                    refine wpAnyH_take (i := 2) (v := ?vvr3) (by rw [List.getElem?_toArray]; exact rfl) (by kernel_rfl) (by kernel_rfl) (by kernel_rfl) (by intro _ _ _ h; exact h) (Or.inl ⟨by rfl, ?hyr3⟩) hHeld ?restr3
                    case' hyr3 => (intro w hSw; (try dsimp only at hSw); go_simp; try (with_reducible rfl))
                    (try simp only [Act.put, List.setIfInBounds_toArray, List.set_cons_zero, List.set_cons_succ])
                    refine wpAnyH_take (i := 3) (v := ?vvr4) (by rw [List.getElem?_toArray]; exact rfl) (by kernel_rfl) (by kernel_rfl) (by kernel_rfl) (by intro _ _ _ h; exact h) (Or.inl ⟨by rfl, ?hyr4⟩) hHeld ?restr4
                    case' hyr4 => (intro w hSw; (try dsimp only at hSw); go_simp; try (with_reducible rfl))
                    (try simp only [Act.put, List.setIfInBounds_toArray, List.set_cons_zero, List.set_cons_succ])
                    refine wpAnyH_take (i := 4) (v := ?vvr5) (by rw [List.getElem?_toArray]; exact rfl) (by kernel_rfl) (by kernel_rfl) (by kernel_rfl) (by intro _ _ _ h; exact h) (Or.inl ⟨by rfl, ?hyr5⟩) hHeld ?restr5
                    case' hyr5 => (intro w hSw; (try dsimp only at hSw); go_simp; try (with_reducible rfl))
                    (try simp only [Act.put, List.setIfInBounds_toArray, List.set_cons_zero, List.set_cons_succ])
                    refine wpAnyH_take (i := 5) (v := ?vvr6) (by rw [List.getElem?_toArray]; exact rfl) (by kernel_rfl) (by kernel_rfl) (by kernel_rfl) (by intro _ _ _ h; exact h) (Or.inl ⟨by rfl, ?hyr6⟩) hHeld ?restr6
                    case' hyr6 => (intro w hSw; (try dsimp only at hSw); go_simp; try (with_reducible rfl))
                    (try simp only [Act.put, List.setIfInBounds_toArray, List.set_cons_zero, List.set_cons_succ])
                    refine wpAnyH_take (i := 7) (v := ?vvr7) (by rw [List.getElem?_toArray]; exact rfl) (by kernel_rfl) (by kernel_rfl) (by kernel_rfl) (by intro _ _ _ h; exact h) (Or.inl ⟨by rfl, ?hyr7⟩) hHeld ?restr7
                    case' hyr7 => (intro w hSw; (try dsimp only at hSw); go_simp; try (with_reducible rfl))
                    (try simp only [Act.put, List.setIfInBounds_toArray, List.set_cons_zero, List.set_cons_succ])
                    refine wpAnyH_take (i := 8) (v := ?vvr8) (by rw [List.getElem?_toArray]; exact rfl) (by kernel_rfl) (by kernel_rfl) (by kernel_rfl) (by intro _ _ _ h; exact h) (Or.inl ⟨by rfl, ?hyr8⟩) hHeld ?restr8
                    case' hyr8 => (intro w hSw; (try dsimp only at hSw); go_simp; try (with_reducible rfl))
                    (try simp only [Act.put, List.setIfInBounds_toArray, List.set_cons_zero, List.set_cons_succ])
                    refine wpAnyH_take (i := 9) (v := ?vvr9) (by rw [List.getElem?_toArray]; exact rfl) (by kernel_rfl) (by kernel_rfl) (by kernel_rfl) (by intro _ _ _ h; exact h) (Or.inl ⟨by rfl, ?hyr9⟩) hHeld ?restr9
                    case' hyr9 => (intro w hSw; (try dsimp only at hSw); go_simp; try (with_reducible rfl))
                    (try simp only [Act.put, List.setIfInBounds_toArray, List.set_cons_zero, List.set_cons_succ])
                    refine wpAnyH_take (i := 10) (v := ?vvr10) (by rw [List.getElem?_toArray]; exact rfl) (by kernel_rfl) (by kernel_rfl) (by kernel_rfl) (by intro _ _ _ h; exact h) (Or.inl ⟨by rfl, ?hyr10⟩) hHeld ?restr10
                    case' hyr10 => (intro w hSw; (try dsimp only at hSw); go_simp; try (with_reducible rfl))
                    (try simp only [Act.put, List.setIfInBounds_toArray, List.set_cons_zero, List.set_cons_succ])
                    refine wpAnyH_take (i := 11) (v := ?vvr11) (by rw [List.getElem?_toArray]; exact rfl) (by kernel_rfl) (by kernel_rfl) (by kernel_rfl) (by intro _ _ _ h; exact h) (Or.inl ⟨by rfl, ?hyr11⟩) hHeld ?restr11
                    case' hyr11 => (intro w hSw; (try dsimp only at hSw); go_simp; try (with_reducible rfl))
                    (try simp only [Act.put, List.setIfInBounds_toArray, List.set_cons_zero, List.set_cons_succ])
                    refine wpAnyH_take (i := 12) (v := ?vvr12) (by rw [List.getElem?_toArray]; exact rfl) (by kernel_rfl) (by kernel_rfl) (by kernel_rfl) (by intro _ _ _ h; exact h) (Or.inl ⟨by rfl, ?hyr12⟩) hHeld ?restr12
                    case' hyr12 => (intro w hSw; (try dsimp only at hSw); go_simp; try (with_reducible rfl))
                    (try simp only [Act.put, List.setIfInBounds_toArray, List.set_cons_zero, List.set_cons_succ])
                    refine wpAnyH_ready (rs := [6, 13]) (by kernel_rfl) (by simp) ?_
                    refine AllReadyH.cons (by rw [List.getElem?_toArray]; exact rfl) (fun K hK => ?_) ?_
                    · skip
                      go_simp
                      refine hK.out _ _ ?_ (fun hHeld => ?_)
                      · first | exact HC.out _ rfl | exact HC.out _ (Below.heap_alloc wc (.cells #[.int .i64 sx, .int .i64 (sy : Int), .int .i64 lv] 53) _ hz9)
                      clear hK K
                      (try simp only [Act.put, List.setIfInBounds_toArray, List.set_cons_zero, List.set_cons_succ])
                      refine wpAnyH_ready (rs := [13]) (by kernel_rfl) (by simp) ?_
                      refine AllReadyH.cons (by rw [List.getElem?_toArray]; exact rfl) (fun K hK => ?_) AllReadyH.nil
                      go_simp
                      refine hK.out _ _ ?_ (fun hHeld => ?_)
                      · exact HC.out _ (Below.heap_alloc wc (.cells #[.int .i64 sx, .int .i64 (sy : Int), .int .i64 lv] 53) _ hz9)
                      clear hK K
                      (try simp only [Act.put, List.setIfInBounds_toArray, List.set_cons_zero, List.set_cons_succ])
                      refine wpAnyH_ready (rs := [14]) (by kernel_rfl) (by simp) ?_
                      refine AllReadyH.cons (by rw [List.getElem?_toArray]; exact rfl) (fun K hK => ?_) AllReadyH.nil
                      refine step_app3 (by rfl) (.tmp 109) (.tmp 116) (by rfl) (by rfl) (ho2.drew.alloc _) (by rfl) (S3.one KN (Nat.le_refl _)) (by omega) hbase ?_
                      intro v' w' ho' hg' hat'
                      obtain ⟨Av, cv, rfl⟩ := ho'.shape
                      have hcw := ((HKG.out.drew.alloc (.cells #[.int .i64 sx, .int .i64 (sy : Int), .int .i64 lv] 53)).grown hg' (fun e => Hne.out e.symm))
                      have cw := (hcw.cell (n0 * 3 + 1)).trans Hcg.out
                      have fw := hcw.frozen (n0 * 3 + 1)
                      refine hK.out _ _ ?_ (fun hHeld => ?_)
                      · exact HC.out _ ((hg'.block _ (by simp; omega) (fun e => HWU.out e.symm)).trans (Below.heap_alloc wc (.cells #[.int .i64 sx, .int .i64 (sy : Int), .int .i64 lv] 53) _ hz9))
                      clear hK K
                      (try simp only [Act.put, List.setIfInBounds_toArray, List.set_cons_zero, List.set_cons_succ])
                      refine wpAnyH_take (i := 15) (v := ?vvr13) (by rw [List.getElem?_toArray]; exact rfl) (by kernel_rfl) (by kernel_rfl) (by kernel_rfl) (by intro _ _ _ h; exact h) (Or.inl ⟨by rfl, ?hyr13⟩) hHeld ?restr13
                      case' hyr13 => (intro w hSw; (try dsimp only at hSw); go_simp; try (with_reducible rfl))
                      (try simp only [Act.put, List.setIfInBounds_toArray, List.set_cons_zero, List.set_cons_succ])
                      refine wpAnyH_take (i := 16) (v := ?vvr14) (by rw [List.getElem?_toArray]; exact rfl) (by kernel_rfl) (by kernel_rfl) (by kernel_rfl) (by intro _ _ _ h; exact h) (Or.inl ⟨by rfl, ?hyr14⟩) hHeld ?restr14
                      case' hyr14 => (intro w hSw; (try dsimp only at hSw); go_simp; try (with_reducible rfl))
                      (try simp only [Act.put, List.setIfInBounds_toArray, List.set_cons_zero, List.set_cons_succ])
                      refine wpAnyH_ready (rs := [17]) (by kernel_rfl) (by simp) ?_
                      refine AllReadyH.cons (by rw [List.getElem?_toArray]; exact rfl) (fun K hK => ?_) AllReadyH.nil
                      go_simp
                      refine hK.out _ _ ?_ (fun hHeld => ?_)
                      · exact HC.out _ ((Below.heap_setCell _ ⟨g, n0 * 3 + 1, none⟩ _ _ Hwg.out).trans ((hg'.block _ (by simp; omega) (fun e => HWU.out e.symm)).trans (Below.heap_alloc wc (.cells #[.int .i64 sx, .int .i64 (sy : Int), .int .i64 lv] 53) _ hz9)))
                      clear hK K
                      (try simp only [Act.put, List.setIfInBounds_toArray, List.set_cons_zero, List.set_cons_succ])
                      refine wpAnyH_done (by kernel_rfl) ?_ _
                      have HHO := hide ho'; have HHG := hide hg'; have HHA := hide hat'
                      clear hcw cw fw
                      go_wp2_with fail
                      go_meet
                      case rel =>
                        have hgg' : (wc.drew.alloc (.cells #[.int .i64 sx, .int .i64 (sy : Int), .int .i64 lv] 53)).grownBy w' (Value.slice Au t.2.1.length cu).ownBlock := by rw [HL.out]; exact HHG.out
                        have hha' : (Value.slice Av (L + 1) cv).ownBlock = (Value.slice Au t.2.1.length cu).ownBlock ∨ (Value.slice Av (L + 1) cv).ownBlock = some (wc.drew.alloc (.cells #[.int .i64 sx, .int .i64 (sy : Int), .int .i64 lv] 53)).heap.size := by rw [HL.out]; exact HHA.out
                        exact ⟨_, (SK9.out.drew.alloc (.cells #[.int .i64 sx, .int .i64 (sy : Int), .int .i64 lv] 53)).add He.out hgg' HHO.out hha'⟩
                    refine AllReadyH.cons (by rw [List.getElem?_toArray]; exact rfl) (fun K hK => ?_) AllReadyH.nil
                    go_simp
                    refine hK.out _ _ ?_ (fun hHeld => ?_)
                    · exact HC.out _ (Below.heap_alloc wc (.cells #[.int .i64 sx, .int .i64 (sy : Int), .int .i64 lv] 53) _ hz9)
                    clear hK K
                    (try simp only [Act.put, List.setIfInBounds_toArray, List.set_cons_zero, List.set_cons_succ])
                    refine wpAnyH_ready (rs := [6]) (by kernel_rfl) (by simp) ?_
                    refine AllReadyH.cons (by rw [List.getElem?_toArray]; exact rfl) (fun K hK => ?_) AllReadyH.nil
                    go_simp
                    refine hK.out _ _ ?_ (fun hHeld => ?_)
                    · first | exact HC.out _ rfl | exact HC.out _ (Below.heap_alloc wc (.cells #[.int .i64 sx, .int .i64 (sy : Int), .int .i64 lv] 53) _ hz9)
                    clear hK K
                    (try simp only [Act.put, List.setIfInBounds_toArray, List.set_cons_zero, List.set_cons_succ])
                    refine wpAnyH_ready (rs := [14]) (by kernel_rfl) (by simp) ?_
                    refine AllReadyH.cons (by rw [List.getElem?_toArray]; exact rfl) (fun K hK => ?_) AllReadyH.nil
                    refine step_app3 (by rfl) (.tmp 109) (.tmp 116) (by rfl) (by rfl) (ho2.drew.alloc _) (by rfl) (S3.one KN (Nat.le_refl _)) (by omega) hbase ?_
                    intro v' w' ho' hg' hat'
                    obtain ⟨Av, cv, rfl⟩ := ho'.shape
                    have hcw := ((HKG.out.drew.alloc (.cells #[.int .i64 sx, .int .i64 (sy : Int), .int .i64 lv] 53)).grown hg' (fun e => Hne.out e.symm))
                    have cw := (hcw.cell (n0 * 3 + 1)).trans Hcg.out
                    have fw := hcw.frozen (n0 * 3 + 1)
                    refine hK.out _ _ ?_ (fun hHeld => ?_)
                    · exact HC.out _ ((hg'.block _ (by simp; omega) (fun e => HWU.out e.symm)).trans (Below.heap_alloc wc (.cells #[.int .i64 sx, .int .i64 (sy : Int), .int .i64 lv] 53) _ hz9))
                    clear hK K
                    (try simp only [Act.put, List.setIfInBounds_toArray, List.set_cons_zero, List.set_cons_succ])
                    refine wpAnyH_take (i := 15) (v := ?vvr15) (by rw [List.getElem?_toArray]; exact rfl) (by kernel_rfl) (by kernel_rfl) (by kernel_rfl) (by intro _ _ _ h; exact h) (Or.inl ⟨by rfl, ?hyr15⟩) hHeld ?restr15
                    case' hyr15 => (intro w hSw; (try dsimp only at hSw); go_simp; try (with_reducible rfl))
                    (try simp only [Act.put, List.setIfInBounds_toArray, List.set_cons_zero, List.set_cons_succ])
                    refine wpAnyH_take (i := 16) (v := ?vvr16) (by rw [List.getElem?_toArray]; exact rfl) (by kernel_rfl) (by kernel_rfl) (by kernel_rfl) (by intro _ _ _ h; exact h) (Or.inl ⟨by rfl, ?hyr16⟩) hHeld ?restr16
                    case' hyr16 => (intro w hSw; (try dsimp only at hSw); go_simp; try (with_reducible rfl))
                    (try simp only [Act.put, List.setIfInBounds_toArray, List.set_cons_zero, List.set_cons_succ])
                    refine wpAnyH_ready (rs := [17]) (by kernel_rfl) (by simp) ?_
                    refine AllReadyH.cons (by rw [List.getElem?_toArray]; exact rfl) (fun K hK => ?_) AllReadyH.nil
                    go_simp
                    refine hK.out _ _ ?_ (fun hHeld => ?_)
                    · exact HC.out _ ((Below.heap_setCell _ ⟨g, n0 * 3 + 1, none⟩ _ _ Hwg.out).trans ((hg'.block _ (by simp; omega) (fun e => HWU.out e.symm)).trans (Below.heap_alloc wc (.cells #[.int .i64 sx, .int .i64 (sy : Int), .int .i64 lv] 53) _ hz9)))
                    clear hK K
                    (try simp only [Act.put, List.setIfInBounds_toArray, List.set_cons_zero, List.set_cons_succ])
                    refine wpAnyH_done (by kernel_rfl) ?_ _
                    have HHO := hide ho'; have HHG := hide hg'; have HHA := hide hat'
                    clear hcw cw fw
                    go_wp2_with fail
                    go_meet
                    case rel =>
                      have hgg' : (wc.drew.alloc (.cells #[.int .i64 sx, .int .i64 (sy : Int), .int .i64 lv] 53)).grownBy w' (Value.slice Au t.2.1.length cu).ownBlock := by rw [HL.out]; exact HHG.out
                      have hha' : (Value.slice Av (L + 1) cv).ownBlock = (Value.slice Au t.2.1.length cu).ownBlock ∨ (Value.slice Av (L + 1) cv).ownBlock = some (wc.drew.alloc (.cells #[.int .i64 sx, .int .i64 (sy : Int), .int .i64 lv] 53)).heap.size := by rw [HL.out]; exact HHA.out
                      exact ⟨_, (SK9.out.drew.alloc (.cells #[.int .i64 sx, .int .i64 (sy : Int), .int .i64 lv] 53)).add He.out hgg' HHO.out hha'⟩
                  case rest =>
                    obtain ⟨es10, sk10⟩ := hcut
                    have SK10 := hide sk10
                    have q1 := (sk10.bel.cell (p := ⟨bp, op + n0 * 2 + 1, none⟩) hbp).trans Hp1.out
                    clear sk10 ko9 SK9
                    by_cases hdd : L + 1 < kk'
                    · have hdn : t.2.1.length + 1 ≠ ys'.length := by rw [HL.out, Hyl.out]; omega
                      have hmore := lock1_more (ds := ms) (d := (f', ys')) (t := t) (S := (S1, ST, OW)) (n := n0) Hst.out Hop.out Hse.out Hs.out (by simpa using HOth.out) hdn
                      have hinv2 := Hinv.out.more (d := (f', ys')) (s := (sx, (sy : Int), 0)) Ht.out Hd.out (by rw [HL.out, Hyl.out]; exact hlt) hn04 (by rw [HL.out]; exact hL4) hk12 ⟨sy0, sy2⟩ (by simpa using HOth.out) hdn
                      dsimp only at hmore hinv2
                      rw [HLO.out] at hmore hinv2
                      rw [Int.toNat_natCast] at hmore hinv2
                      have hbf : t.2.2 = false := by rw [Hdn.out, HL.out, Hyl.out]; simp; omega
                      rw [hbf] at SK10
                      have HMO := hide hmore; have HI2 := hide hinv2
                      have hddi : (L : Int) + 1 < kk' := by omega
                      clear hmore hinv2 hbf hdn
                      go_wp2_with fail
                      go_roundw
                      case rel => exact ⟨k + 1, es10, by go_num, by omega, by rw [Hdr.out, HMO.out]; exact SK10.out, by rw [Hdr.out, HMO.out]; exact HI2.out⟩
                      case measure => simp [intOf]; omega
                    · have hde : t.2.1.length + 1 = ys'.length := by rw [HL.out, Hyl.out]; omega
                      have hlast := lock1_last (ds := ms) (d := (f', ys')) (t := t) (S := (S1, ST, OW)) (n := n0) Hst.out Hop.out Hse.out Hs.out (by simpa using HOth.out) hde
                      have hinv2 := Hinv.out.last (d := (f', ys')) (s := (sx, (sy : Int), 0)) Ht.out Hd.out (by rw [HL.out, Hyl.out]; exact hlt) hn04 (by rw [HL.out]; exact hL4) hk12 ⟨sy0, sy2⟩ (by simpa using HOth.out) hde
                      dsimp only at hlast hinv2
                      rw [HLO.out] at hlast hinv2
                      rw [Int.toNat_natCast] at hlast hinv2
                      have HLA := hide hlast; have HI2 := hide hinv2
                      have hjl := (List.getElem?_eq_some_iff.1 Ht.out).1
                      have hgt : (S1.set n0 (t.1, t.2.1 ++ [(sx, (sy : Int), lv)], t.2.2))[n0]? = some (t.1, t.2.1 ++ [(sx, (sy : Int), lv)], t.2.2) := List.getElem?_set_self hjl
                      have htx2 := hinv2.txn (n := n0) DB.out (List.getElem?_set_self hjl) Hd.out
                      obtain ⟨ops, hos⟩ : ∃ ops, t.2.1 ++ [(sx, (sy : Int), lv)] = ops := ⟨_, rfl⟩
                      rw [hos] at HLA HI2 hgt htx2 SK10
                      have HTX := hide htx2
                      have hddi : ¬ ((L : Int) + 1 < kk') := by omega
                      obtain ⟨g2, cg2, Au2, cu2, hv2, _, _, hg2, he2, huc2, d0, d1, d2, ho2⟩ := SK10.out.look hn0 hgt
                      obtain ⟨rfl, rfl⟩ : g = g2 ∧ cg = cg2 := by simpa using hv2
                      have fz := SK10.out.own.free (n0 * 3 + 2)
                      obtain ⟨es12, sk12⟩ := SK10.out.done hn0 hgt true
                      dsimp only at sk12
                      rw [List.set_set] at sk12
                      obtain ⟨g3, cg3, Au3, cu3, hv3, _, _, hg3, he3, huc3, e0, e1, e2, ho3⟩ := sk12.look hn0 (by rw [List.getElem?_set_self hjl])
                      obtain ⟨rfl, rfl⟩ : g = g3 ∧ cg = cg3 := by simpa using hv3
                      have hlw := spec_LastWrites_c ho3.s3 HTX.out
                      have hz12 : (wc.setCell ⟨g, n0 * 3 + 2, none⟩ (.bool true)).heap.size = wc.heap.size := size_setCell ..
                      have hzc : w3.heap.size + 1 < wc.heap.size := SK10.out.owner.lt
                      have SK12 := hide sk12
                      have hstl' := hide hstl; have HOL := hide holen
                      have HOPB := hide (show ∀ o ∈ ops, opB o = true from fun o ho => HI2.out.ops n0 _ (List.getElem?_set_self hjl) o ho)
                      clear hlast hinv2 htx2 hgt he2 he3 ho2 ho3 sk12 hos hv2 hv3 d0 d1 SK10 hde hstl holen
                      go_wp2_with fail
                      refine hlw.mono ?_
                      rintro e w13 ⟨r13, kk, rfl, hret, b13⟩
                      have SK13 := hide (SK12.out.below b13)
                      have O13 := hide (hret.mono (show w3.heap.size + 2 ≤ (wc.setCell ⟨g, n0 * 3 + 2, none⟩ (.bool true)).heap.size by rw [hz12]; omega))
                      clear e0 e1 e2 d2 fz hlw SK12 b13 hret
                      obtain ⟨A3, c3, rfl, hnc3, hm3, hr3⟩ := O13.out.s3
                      have hl3 := hide hr3.len
                      clear hr3
                      have SK13' := hide (show Sk w2 w3.heap.size n (.slice (some ⟨g, 0, none⟩) n cg) (S1.set n0 (t.1, ops, true)) (commitTo ops ST 0) (OW.set sy ((n0 : Int) + 1)) es12 w13 from SK13.out)
                      clear SK13
                      go_wp2_with fail
                      go_loopw [14] (fun i wr' => ∃ j : Nat, i = .int .i64 j ∧ j ≤ kk ∧ Sk w2 w3.heap.size n (.slice (some ⟨g, 0, none⟩) n cg) (S1.set n0 (t.1, ops, true)) (commitTo ops ST j) (OW.set sy ((n0 : Int) + 1)) es12 wr' ∧ O3 53 wr' (w3.heap.size + 2) (.slice A3 kk c3) kk (lastW ops)) (fun i _ => kk - (intOf i).toNat)
                      case atStart => exact ⟨0, rfl, Nat.zero_le _, SK13'.out, O13.out⟩
                      case round =>
                        clear SK13' O13
                        obtain ⟨j, rfl, hj, hskj, hoj⟩ := hrel
                        have SKJ := hide hskj; have OJ := hide hoj
                        clear hskj hoj
                        by_cases hjk : j < kk
                        · obtain ⟨A4, c4, hA4, _, _, hr4⟩ := OJ.out.s3
                          obtain ⟨rfl, rfl⟩ : A3 = A4 ∧ c3 = c4 := by simpa using hA4
                          obtain ⟨bb, oo, x, y, z, rfl, hbb, hx, p0, p1, p2⟩ := hr4.at_ hjk
                          have hkey := opB_key (HOPB.out _ (lastW_mem (List.mem_of_getElem? hx)).1)
                          obtain ⟨yn, rfl⟩ : ∃ q : Nat, y = q := ⟨y.toNat, by omega⟩
                          have hcl : (commitTo ops ST j).length = 3 := by rw [commitTo_len]; exact hstl'.out
                          obtain ⟨u, hu⟩ : ∃ u, (commitTo ops ST j)[yn]? = some u := ⟨_, List.getElem?_eq_getElem (by omega)⟩
                          have hcs := commitTo_succ (st := ST) hx
                          dsimp only at hcs
                          rw [Int.toNat_natCast] at hcs
                          have HCS := hide hcs
                          have s0 := (SKJ.out.store.cell yn).trans (storeC_get hu)
                          have sf := SKJ.out.store.frozen yn
                          have j0 : (0 : Int) ≤ j := by omega
                          have j1 : (j : Int) < kk := by omega
                          have yn0 : (0 : Int) ≤ yn := by omega
                          have yn3 : (yn : Int) < 3 := by omega
                          have hbs3 : w3.heap.size ≠ bb := by
                            have := (OJ.out.of.lt bb rfl).1; omega
                          have HOA := hide (OF.chg OJ.out.drew.of (Chg.setCell (S := fun q => q = w3.heap.size) (p := ⟨w3.heap.size, yn, none⟩) rfl (.int .i64 z)) (fun q hq e => by have := (OJ.out.of.lt q hq).1; omega))
                          clear hx hu hcs hcl hkey hr4 hA4 p0
                          go_wp2_with fail
                          go_region
                          all_goals
                            go_wp2_with fail
                            go_roundw
                          case rel => exact ⟨j + 1, by go_num, by omega, by rw [HCS.out]; exact SKJ.out.drew.putS yn z, HOA.out⟩
                          case measure => simp [intOf]; omega
                        · obtain rfl : j = kk := by omega
                          have hca := commitTo_all (os := ops) hstl'.out hl3.out
                          rw [hca] at SKJ
                          have hol2 : (OW.set sy ((n0 : Int) + 1)).length = 3 := by simp [HOL.out]
                          obtain ⟨OW2, hOW2⟩ : ∃ o, OW.set sy ((n0 : Int) + 1) = o := ⟨_, rfl⟩
                          rw [hOW2] at hol2 SKJ HI2 HLA
                          have HOL2 := hide hol2
                          have SKJ' := hide (show Sk w2 w3.heap.size n (.slice (some ⟨g, 0, none⟩) n cg) (S1.set n0 (t.1, ops, true)) (commitS ops ST) (freeTo n0 OW2 0) es12 wr by rw [freeTo_zero]; exact SKJ.out)
                          clear hca hol2 hOW2 SKJ OJ
                          go_wp2_with fail
                          go_loopw [15] (fun i wr' => ∃ j : Nat, i = .int .i64 j ∧ j ≤ 3 ∧ Sk w2 w3.heap.size n (.slice (some ⟨g, 0, none⟩) n cg) (S1.set n0 (t.1, ops, true)) (commitS ops ST) (freeTo n0 OW2 j) es12 wr') (fun i _ => 3 - (intOf i).toNat)
                          case atStart => exact ⟨0, rfl, by omega, SKJ'.out⟩
                          case round =>
                            clear SKJ'
                            obtain ⟨j, rfl, hj, hskj⟩ := hrel
                            have SKQ := hide hskj
                            clear hskj
                            by_cases hj3 : j < 3
                            · obtain ⟨x, hx⟩ : ∃ x, OW2[j]? = some x := ⟨_, List.getElem?_eq_getElem (by rw [HOL2.out]; exact hj3)⟩
                              have x0 := (SKQ.out.owner.cell j).trans (storeC_get (freeTo_at n0 hx))
                              have xf := SKQ.out.owner.frozen j
                              have HX := hide hx
                              have j0 : (0 : Int) ≤ j := by omega
                              have j1 : (j : Int) ≤ 2 := by omega
                              have j3 : (j : Int) < 3 := by omega
                              clear hx
                              by_cases hx1 : x = (n0 : Int) + 1
                              · subst hx1
                                have HS := hide (freeTo_free HX.out)
                                have heq : ((n0 : Int) + 1 == (n0 : Int) + 1) = true := by simp
                                go_wp2_with fail
                                go_roundw
                                case rel => exact ⟨j + 1, by go_num, by omega, by rw [HS.out]; exact SKQ.out.putO j 0⟩
                                case measure => simp [intOf]; omega
                              · have HS := hide (freeTo_keep (n := n0) HX.out hx1)
                                have hnq : (x == (n0 : Int) + 1) = false := by rw [beq_eq_false_iff_ne]; exact hx1
                                clear hx1
                                go_wp2_with fail
                                go_roundw
                                case rel => exact ⟨j + 1, by go_num, by omega, by rw [HS.out]; exact SKQ.out⟩
                                case measure => simp [intOf]; omega
                            · obtain rfl : j = 3 := by omega
                              have hfa := freeTo_all n0 HOL2.out
                              rw [hfa] at SKQ
                              clear hfa
                              go_wp2_with fail
                              go_roundw
                              case rel => exact ⟨k + 1, es12, by go_num, by omega, by rw [Hdr.out, HLA.out]; exact SKQ.out, by rw [Hdr.out, HLA.out]; exact HI2.out⟩
                              case measure => simp [intOf]; omega
        · obtain rfl : k = m := by omega
          have hfin : xs.take k = xs := List.take_of_length_le (by rw [hsl.out]; omega)
          rw [hfin] at SK
          go_wp2_with fail
          go_ret
          exact ⟨_, n, es, rfl, SK.out.own.mono b2.size, by rw [F.out]; exact SK.out.says, below_step b2 SK.out.bel⟩

end Go.Proofs.YtfcfhgophpoibaaDoor
