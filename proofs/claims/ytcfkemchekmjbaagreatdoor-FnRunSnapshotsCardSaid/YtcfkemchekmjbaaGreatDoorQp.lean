/- Merged (what the law reaches): SnapI. -/
import Derived.Test.YtcfkemchekmjbaaGreatDoorQo
import Derived.Deep.DeepCutAuto
import Derived.BigRegion
import Derived.BigQuiet
namespace Go.Proofs.YtcfkemchekmjbaaGreatDoor
open Go.RowKit
set_option maxRecDepth 100000 in
set_option maxHeartbeats 16000000 in
theorem impl_RunSnapshots_c {A : Option Addr} {n c : Nat} {ms : Ds} {sv : Value} {m : Nat} {xs : List Int} {w : World} (hr : RDs w A n ms) (hn : n ≤ 1048576) (hsm : SmallD ms) (hs : SI w sv m xs) :
    Calls Tryz.prog 7 #[.slice A n c, sv] w fun e w' => ∃ v m es, e = .returned v ∧ OV w' w.heap.size v m es ∧ SaysT es (snapL ms xs) ∧ Below w.heap.size w w' := by
  have ss := hs
  have hl := hide hr.1
  obtain ⟨As, cs, rfl, hsnc, hsn, hsr⟩ := hs
  have hsl := hide hsr.len
  cases hrun : runB ms xs
  · have hf : snapL ms xs = [] := by simp [snapL, hrun]
    have F := hide hf; have Q := hide hrun; clear hf hrun
    go_enter Tryz.func7, Tryz.ntmps7
    go_wp2_with fail
    refine (runnable_c hr (by omega) hsm ss).mono ?_
    rintro e w1 ⟨rfl, b1⟩
    rw [Q.out]
    go_wp2_with fail
    go_ret
    exact ⟨_, 0, [], rfl, ⟨⟨rfl, .inl ⟨rfl, rfl⟩⟩, fun j e h => by simp at h, fun i j p q _ h => by simp at h, by omega⟩, by rw [F.out]; rfl, b1⟩
  · have hf : snapL ms xs = (snapR ms xs).ts := by simp [snapL, hrun]
    obtain ⟨hn4, hdb, hm40, hxb⟩ := runB_parts hrun
    have F := hide hf; have Q := hide hrun; have DB := hide hdb; have XB := hide hxb
    rw [hl.out] at hn4
    rw [hsl.out] at hm40
    clear hf hdb hxb hrun
    go_enter Tryz.func7, Tryz.ntmps7
    go_wp2_with fail
    refine (runnable_c hr (by omega) hsm ss).mono ?_
    rintro e w1 ⟨rfl, b1⟩
    rw [Q.out]
    go_wp2_with fail
    have R1 := hr.below b1
    refine (machineOf_c R1 (by omega) hsm).mono ?_
    rintro e w2 ⟨v, es0, rfl, M0, b2⟩
    have B2 := below_step b1 b2
    have hz1 := b1.size
    have hz2 := M0.box.lt
    obtain ⟨W, hW⟩ : ∃ W : World, (((w2.alloc (.cells #[.int .i64 0, .int .i64 0, .int .i64 0] 58)).alloc (.cells #[.int .i64 0, .int .i64 0, .int .i64 0] 58)).alloc (.cells #[.int .i64 0, .int .i64 0, .int .i64 0, .int .i64 0, .int .i64 0, .int .i64 0, .int .i64 0, .int .i64 0, .int .i64 0, .int .i64 0, .int .i64 0, .int .i64 0] 59)).alloc (.cells #[.int .i64 0, .int .i64 0, .int .i64 0, .int .i64 0, .int .i64 0, .int .i64 0, .int .i64 0, .int .i64 0, .int .i64 0, .int .i64 0, .int .i64 0, .int .i64 0] 59) = W := ⟨_, rfl⟩
    have NK0 : Nk w1 w2.heap.size A n c v (snap0 ms) es0 W ∧ w2.heap.size + 1 + 1 + 1 < W.heap.size := by
      have K1 := Blk.new w2 58 #[.int .i64 0, .int .i64 0, .int .i64 0]
      have K2 := Blk.new (w2.alloc (.cells #[.int .i64 0, .int .i64 0, .int .i64 0] 58)) 58 #[.int .i64 0, .int .i64 0, .int .i64 0]
      have K3 := Blk.new ((w2.alloc (.cells #[.int .i64 0, .int .i64 0, .int .i64 0] 58)).alloc (.cells #[.int .i64 0, .int .i64 0, .int .i64 0] 58)) 59 #[.int .i64 0, .int .i64 0, .int .i64 0, .int .i64 0, .int .i64 0, .int .i64 0, .int .i64 0, .int .i64 0, .int .i64 0, .int .i64 0, .int .i64 0, .int .i64 0]
      have K4 := Blk.new (((w2.alloc (.cells #[.int .i64 0, .int .i64 0, .int .i64 0] 58)).alloc (.cells #[.int .i64 0, .int .i64 0, .int .i64 0] 58)).alloc (.cells #[.int .i64 0, .int .i64 0, .int .i64 0, .int .i64 0, .int .i64 0, .int .i64 0, .int .i64 0, .int .i64 0, .int .i64 0, .int .i64 0, .int .i64 0, .int .i64 0] 59)) 59 #[.int .i64 0, .int .i64 0, .int .i64 0, .int .i64 0, .int .i64 0, .int .i64 0, .int .i64 0, .int .i64 0, .int .i64 0, .int .i64 0, .int .i64 0, .int .i64 0]
      simp only [World.size_alloc] at K2 K3 K4
      have b3 : Below w2.heap.size w2 W := by
        rw [← hW]
        exact ((((Below.refl _ _).alloc (Nat.le_refl _) _).alloc (by simp) _).alloc (by simp <;> omega) _).alloc (by simp <;> omega) _
      refine ⟨⟨M0.below b3, ?_, ?_, ?_, ?_, below_step b2 b3, hz2⟩, ?_⟩
      · rw [← hW]; exact ((K1.alloc _).alloc _).alloc _
      · rw [← hW]; exact (K2.alloc _).alloc _
      · rw [← hW]; exact K3.alloc _
      · rw [← hW]; exact K4
      · rw [← hW]; simp
    obtain ⟨NK0, hzW⟩ := NK0
    clear M0 b2 B2
    subst hW
    go_wp2_with fail
    go_loopw [27] (fun i wr => ∃ (k : Nat) (es : List El), i = .int .i64 k ∧ k ≤ m ∧ Nk w1 w2.heap.size A n c v (snapR ms (xs.take k)) es wr ∧ SnI ms (snapR ms (xs.take k)) ∧ VerB k (snapR ms (xs.take k)) ∧ w2.heap.size + 1 + 1 + 1 < wr.heap.size) (fun i _ => m - (intOf i).toNat)
    case atStart => exact ⟨0, es0, rfl, Nat.zero_le _, NK0, SnI.zero ms, VerB.zero ms, hzW⟩
    case round =>
      clear NK0 hzW
      obtain ⟨k, es, rfl, hk, hnk, hinv, hver, hsz⟩ := hrel
      have Hinv := hide hinv; have NK := hide hnk; have HV := hide hver; clear hinv hnk hver
      by_cases hkm : k < m
      · have S1r := hsr.below b1
        obtain ⟨b, off, x, rfl, hb, hx, hc⟩ := S1r.at_ hkm
        obtain ⟨hx0, hx1⟩ := XB.out x (List.mem_of_getElem? hx)
        rw [hl.out] at hx1
        obtain ⟨n0, rfl⟩ : ∃ q : Nat, x = q := ⟨x.toNat, by omega⟩
        have hn0 : n0 < n := by omega
        obtain ⟨d, t, hd, ht, hst, hop, hse, hle, hdn⟩ := Hinv.out.fits.at_ (show n0 < ms.length by rw [hl.out]; exact hn0)
        obtain ⟨f, ys⟩ := d
        dsimp only at hst hle hdn
        have hdp := draftB_parts (DB.out _ (List.mem_of_getElem? hd))
        dsimp only at hdp
        have q0 := (NK.out.bel.cell (p := ⟨b, off + k, none⟩) hb).trans hc
        have hdr := snapR_snoc (ds := ms) hx
        rw [Int.toNat_natCast] at hdr
        have n0i : (0 : Int) ≤ n0 := by omega
        have n1i : (n0 : Int) < n := by omega
        have k0 : (0 : Int) ≤ k := by omega
        have k1 : (k : Int) < m := by omega
        have Rr := R1.below NK.out.bel
        have Hdr := hide hdr; have Hst := hide hst; have Hop := hide hop; have Hse := hide hse; have Hdn := hide hdn
        have hA1 : ∀ b off, A = some ⟨b, off, none⟩ → b < w1.heap.size + 1 := fun b off e => by
          obtain ⟨b', off', e', h', _⟩ := R1.2 (by omega)
          rw [e] at e'; injection e' with e'; injection e' with e'; subst e'; omega
        have HA1 := hide hA1
        obtain ⟨S, hS⟩ : ∃ S, snapR ms (xs.take k) = S := ⟨_, rfl⟩
        rw [hS] at Hdr Hinv NK HV Hop Hse ht
        clear hx hc hst hop hse hdn hdr hA1 hS
        by_cases hfull : t.2.1.length = ys.length
        · have hnone := snap1_none (ds := ms) (d := (f, ys)) (t := t) (S := S) Hst.out Hop.out hfull
          have Hn := hide hnone
          clear hnone
          have FU := hide hfull; have HT := hide ht; have HD := hide hd
          clear hfull ht hd
          go_wp2_with fail
          refine (step_full_c NK.out.mach Rr hn0 HT.out HD.out FU.out).mono ?_
          rintro e w3 ⟨rfl, b3⟩
          have NK3 := hide ((NK.out.below b3).alloc (.cells #[.int .i64 0, .int .i64 0, .int .i64 0] 61))
          have hz3 := b3.size
          go_wp2_with fail
          go_roundw
          case rel => exact ⟨k + 1, es, by go_num, by omega, by rw [Hdr.out, Hn.out]; exact NK3.out, by rw [Hdr.out, Hn.out]; exact Hinv.out, by rw [Hdr.out, Hn.out]; exact fun key => by (have h1 := HV.out key; omega), by simp; omega⟩
          case measure => simp [intOf]; omega
        · have hlt : t.2.1.length < ys.length := by omega
          obtain ⟨⟨sx, sy, sz⟩, hs'⟩ : ∃ s, ys[t.2.1.length]? = some s := ⟨_, List.getElem?_eq_getElem hlt⟩
          have hsp := hdp.2.2.2 _ (List.mem_of_getElem? hs')
          dsimp only at hsp
          obtain ⟨hk12, ⟨sy0, sy2⟩, rfl⟩ := hsp
          obtain ⟨sy, rfl⟩ : ∃ q : Nat, sy = q := ⟨sy.toNat, by omega⟩
          have hsy2 : sy ≤ 2 := by omega
          have hL4 : t.2.1.length < 4 := by omega
          have hn04 : n0 < 4 := by omega
          have n4i : (n0 : Int) < 4 := by omega
          obtain ⟨q0v, hq0v⟩ : ∃ q : Int, (if sx = 2 then valOf n0 t.2.1.length else 0) = q := ⟨_, rfl⟩
          have Hq := hide hq0v; have Hs := hide hs'; have HT := hide ht; have HD := hide hd; have Hlt := hide hlt
          have sy3 : (sy : Int) < 3 := by omega
          have hL4' := hide hL4
          clear hs' ht hd hlt hfull hdp hle sy2 hL4 hq0v
          go_wp2_with fail
          refine (step_c NK.out.mach Rr hn4 hn0 HT.out HD.out hL4'.out Hs.out (q := q0v) (by simpa using Hq.out.symm)).mono ?_
          rintro e w3 ⟨rfl, b3⟩
          obtain ⟨W4, hW4⟩ : ∃ W, w3.alloc (.cells #[.int .i64 sx, .int .i64 (sy : Int), .int .i64 q0v] 61) = W := ⟨_, rfl⟩
          have NK4 : Hid _ := hide ((NK.out.below b3).alloc (.cells #[.int .i64 sx, .int .i64 (sy : Int), .int .i64 q0v] 61))
          have KO := Blk.new w3 61 #[.int .i64 sx, .int .i64 (sy : Int), .int .i64 q0v]
          have hob : ∀ k, OT.S v es k → k < w3.heap.size := fun k hk => ((NK.out.below b3).mach.own.range k hk).2
          have HOB := hide hob
          have hz3 : w2.heap.size + 1 + 1 + 1 < w3.heap.size := by have := b3.size; omega
          have hW4z : W4.heap.size = w3.heap.size + 1 := by rw [← hW4]; simp
          rw [hW4] at NK4 KO
          obtain ⟨g, cg, Au, cu, hv, hnc, hlg, hgs, he, huc, c1, c2, ho⟩ := NK4.out.mach.look hn0 HT.out
          obtain ⟨m0, m1, _, _⟩ := NK4.out.mach.box.two
          obtain ⟨x, y, z, hst3⟩ : ∃ a b c, S.st = [a, b, c] := by
            have h3 := Hinv.out.vals.1
            match S.st, h3 with
            | [a, b, c], _ => exact ⟨a, b, c, rfl⟩
          obtain ⟨p, q, r, hvr3⟩ : ∃ a b c, S.ver = [a, b, c] := by
            have h3 := Hinv.out.vlen
            match S.ver, h3 with
            | [a, b, c], _ => exact ⟨a, b, c, rfl⟩
          subst hv
          clear hob he ho
          subst hW4
          go_upto_if 48 with fail
          go_cut [] (fun wx => Nk w1 w2.heap.size A n c (.slice (some ⟨g, 0, none⟩) n cg) ⟨S.ts, S.st, S.ver, snKept S n0, snBegan S n0⟩ es wx ∧ Blk wx w3.heap.size 61 #[.int .i64 sx, .int .i64 (sy : Int), .int .i64 q0v])
          case first =>
            by_cases hL0 : t.2.1.length = 0
            · have hb0 : ((t.2.1.length : Int) == 0) = true := by rw [beq_iff_eq]; omega
              have hkf := snKept_first (S := S) Hop.out hL0
              have hbf := snBegan_first (S := S) Hop.out hL0
              have K3 := NK4.out.store
              rw [hst3] at K3
              obtain ⟨s0, s1, s2⟩ := Blk.three (show Blk _ w2.heap.size 58 #[.int .i64 x, .int .i64 y, .int .i64 z] from K3)
              have K4 := NK4.out.vers
              rw [hvr3] at K4
              obtain ⟨v0, v1, v2⟩ := Blk.three (show Blk _ (w2.heap.size + 1) 58 #[.int .i64 p, .int .i64 q, .int .i64 r] from K4)
              have hklen : n0 < S.kept.length := by rw [Hinv.out.klen]; exact hn04
              have hblen : n0 < S.began.length := by rw [Hinv.out.blen]; exact hn04
              have hk3 : ∀ l ∈ S.kept, l.length = 3 := fun l hl => (Hinv.out.kvals l hl).1
              obtain ⟨⟨ka, kb, kc⟩, hka⟩ : ∃ q : Int × Int × Int, S.kept[n0]? = some [q.1, q.2.1, q.2.2] := by
                have h3 := hk3 _ (List.getElem_mem hklen)
                match hq : S.kept[n0], h3 with
                | [a, b, c], _ => exact ⟨(a, b, c), by rw [List.getElem?_eq_getElem hklen, hq]⟩
              obtain ⟨⟨ba, bb, bc⟩, hba⟩ : ∃ q : Int × Int × Int, S.began[n0]? = some [q.1, q.2.1, q.2.2] := by
                have h3 := Hinv.out.b3 _ (List.getElem_mem hblen)
                match hq : S.began[n0], h3 with
                | [a, b, c], _ => exact ⟨(a, b, c), by rw [List.getElem?_eq_getElem hblen, hq]⟩
              have e0 := (NK4.out.kept.cell (n0 * 3)).trans (storeC_get (flat_get _ hk3 n0 0 _ ka hka rfl))
              have e1 := (NK4.out.kept.cell (n0 * 3 + 1)).trans (storeC_get (flat_get _ hk3 n0 1 _ kb hka rfl))
              have e2 := (NK4.out.kept.cell (n0 * 3 + 2)).trans (storeC_get (flat_get _ hk3 n0 2 _ kc hka rfl))
              have g0 := (NK4.out.began.cell (n0 * 3)).trans (storeC_get (flat_get _ Hinv.out.b3 n0 0 _ ba hba rfl))
              have g1 := (NK4.out.began.cell (n0 * 3 + 1)).trans (storeC_get (flat_get _ Hinv.out.b3 n0 1 _ bb hba rfl))
              have g2 := (NK4.out.began.cell (n0 * 3 + 2)).trans (storeC_get (flat_get _ Hinv.out.b3 n0 2 _ bc hba rfl))
              have e3 := NK4.out.kept.frozen (n0 * 3)
              have e4 := NK4.out.kept.frozen (n0 * 3 + 1)
              have e5 := NK4.out.kept.frozen (n0 * 3 + 2)
              have g3 := NK4.out.began.frozen (n0 * 3)
              have g4 := NK4.out.began.frozen (n0 * 3 + 1)
              have g5 := NK4.out.began.frozen (n0 * 3 + 2)
              have hne1 : w2.heap.size + 1 + 1 ≠ w3.heap.size := by omega
              have hne2 : w2.heap.size + 1 + 1 + 1 ≠ w3.heap.size := by omega
              have NKB := hide (NK4.out.begin (n0 := n0) hst3 hvr3 hk3 Hinv.out.b3 hklen hblen).drew
              have HK3 := hide hk3; have Hst3 := hide hst3; have Hvr3 := hide hvr3
              have Hkf := hide hkf; have Hbf := hide hbf
              clear hka hba hk3 hkf hbf hst3 hvr3 K3 K4 m0 m1 c1 c2
              go_wp2_with fail
              go_region
              all_goals
                go_wp2_with fail
                go_meet
              case rel =>
                rw [Hkf.out, Hbf.out]
                exact ⟨NKB.out, ((KO.far3 hne1.symm _ _ _ _ _ _).far3 hne2.symm _ _ _ _ _ _).drew⟩
            · have hb0 : ((t.2.1.length : Int) == 0) = false := by rw [beq_eq_false_iff_ne]; omega
              have hkf := snKept_later (S := S) Hop.out (fun e => hL0 (by rw [e]; rfl))
              have hbf := snBegan_later (S := S) Hop.out hL0
              have Hkf := hide hkf; have Hbf := hide hbf
              clear hkf hbf
              go_wp2_with fail
              go_meet
              case rel => rw [Hkf.out, Hbf.out]; exact ⟨NK4.out, KO⟩
          case rest =>
            obtain ⟨nk5, ko5⟩ := hcut
            have NK5 := hide nk5
            obtain ⟨o0, o1, o2⟩ := ko5.three
            have hz5 : w3.heap.size < wc.heap.size := ko5.lt
            have hklen : n0 < (snKept S n0).length := by rw [snKept_len, Hinv.out.klen]; exact hn04
            have hk3 : ∀ l ∈ snKept S n0, l.length = 3 := fun l hl => (Hinv.out.kvals' n0 l hl).1
            obtain ⟨s0, s1, s2, hka⟩ : ∃ a b c, (snKept S n0)[n0]? = some [a, b, c] := by
              have h3 := hk3 _ (List.getElem_mem hklen)
              match hq : (snKept S n0)[n0], h3 with
              | [a, b, c], _ => exact ⟨a, b, c, by rw [List.getElem?_eq_getElem hklen, hq]⟩
            have hkd : (snKept S n0).getD n0 [] = [s0, s1, s2] := by rw [List.getD_eq_getElem?_getD, hka]; rfl
            have e0 := (NK5.out.kept.cell (n0 * 3)).trans (storeC_get (flat_get _ hk3 n0 0 _ s0 hka rfl))
            have e1 := (NK5.out.kept.cell (n0 * 3 + 1)).trans (storeC_get (flat_get _ hk3 n0 1 _ s1 hka rfl))
            have e2 := (NK5.out.kept.cell (n0 * 3 + 2)).trans (storeC_get (flat_get _ hk3 n0 2 _ s2 hka rfl))
            have HKD := hide hkd; have E0 := hide e0; have E1 := hide e1; have E2 := hide e2
            clear hka hk3 hklen hkd e0 e1 e2 nk5 m0 m1 c1 c2 NK4 KO
            go_wp2_with fail
            refine (reads_c).mono ?_
            rintro e w6 ⟨rfl, b6⟩
            have NK6 := hide (NK5.out.below b6)
            have KO6 := ko5.belowAll b6
            have hz6 : w3.heap.size < w6.heap.size := KO6.lt
            have hkbb : w2.heap.size + 1 + 1 < wc.heap.size := by omega
            have F0 := hide ((b6.cell (p := ⟨w2.heap.size + 1 + 1, n0 * 3, none⟩) hkbb).trans E0.out)
            have F1 := hide ((b6.cell (p := ⟨w2.heap.size + 1 + 1, n0 * 3 + 1, none⟩) hkbb).trans E1.out)
            have F2 := hide ((b6.cell (p := ⟨w2.heap.size + 1 + 1, n0 * 3 + 2, none⟩) hkbb).trans E2.out)
            clear NK5 ko5 E0 E1 E2 o0 o1 o2
            go_upto_if 56 with fail
            go_cut [] (fun wx => Nk w1 w2.heap.size A n c (.slice (some ⟨g, 0, none⟩) n cg) ⟨S.ts, S.st, S.ver, snKept S n0, snBegan S n0⟩ es wx ∧ Blk wx w3.heap.size 61 #[.int .i64 sx, .int .i64 (sy : Int), .int .i64 (lockV t.2.1 [s0, s1, s2] n0 (sx, (sy : Int), 0))])
            case first =>
              rcases hk12 with rfl | rfl
              · rw [show ((1 : Int) == 1) = true by rfl]
                obtain ⟨g', cg', Au, cu, hv, hnc', hlg', hgs', he, huc, c1, c2, ho⟩ := NK6.out.mach.look hn0 HT.out
                obtain ⟨rfl, rfl⟩ : g = g' ∧ cg = cg' := by simpa using hv
                have c0 := (NK6.out.mach.own.cells he).1
                obtain ⟨m0, m1, _, _⟩ := NK6.out.mach.box.two
                obtain ⟨z0, z1, z2⟩ := KO6.three
                have hgmb : w1.heap.size < w6.heap.size := NK6.out.mach.box.lt
                have hkb : w2.heap.size + 1 + 1 < w6.heap.size := by omega
                have hg3 : g ≠ w3.heap.size := by have := HOB.out g (.inl rfl); omega
                have hk33 : w3.heap.size ≠ w2.heap.size + 1 + 1 := by omega
                have hc8 : ∀ W' : World, Below w6.heap.size w6 W' → (W'.cell? ⟨w1.heap.size, 1, none⟩ = some (.slice (some ⟨g, 0, none⟩) n cg) ∧ W'.cell? ⟨g, n0 * 3, none⟩ = some (.int .i64 t.1) ∧ W'.cell? ⟨g, n0 * 3 + 1, none⟩ = some (.slice Au t.2.1.length cu) ∧ W'.cell? ⟨g, n0 * 3 + 2, none⟩ = some (.bool t.2.2) ∧ W'.cell? ⟨w2.heap.size + 1 + 1, n0 * 3, none⟩ = some (.int .i64 s0) ∧ W'.cell? ⟨w2.heap.size + 1 + 1, n0 * 3 + 1, none⟩ = some (.int .i64 s1) ∧ W'.cell? ⟨w2.heap.size + 1 + 1, n0 * 3 + 2, none⟩ = some (.int .i64 s2) ∧ W'.cell? ⟨w3.heap.size, 1, none⟩ = some (.int .i64 (sy : Int))) := fun W' h => ⟨(h.cell hgmb).trans m1, (h.cell hgs').trans c0, (h.cell hgs').trans c1, (h.cell hgs').trans c2, (h.cell hkb).trans F0.out, (h.cell hkb).trans F1.out, (h.cell hkb).trans F2.out, (h.cell hz6).trans z1⟩
                have hc9 : ∀ (W8 W' : World) (u : Value), W' = W8.setCell ⟨w3.heap.size, 2, none⟩ u → Below w6.heap.size w6 W8 → (W'.cell? ⟨w1.heap.size, 1, none⟩ = some (.slice (some ⟨g, 0, none⟩) n cg) ∧ W'.cell? ⟨g, n0 * 3, none⟩ = some (.int .i64 t.1) ∧ W'.cell? ⟨g, n0 * 3 + 1, none⟩ = some (.slice Au t.2.1.length cu) ∧ W'.cell? ⟨g, n0 * 3 + 2, none⟩ = some (.bool t.2.2) ∧ W'.cell? ⟨w2.heap.size + 1 + 1, n0 * 3, none⟩ = some (.int .i64 s0) ∧ W'.cell? ⟨w2.heap.size + 1 + 1, n0 * 3 + 1, none⟩ = some (.int .i64 s1) ∧ W'.cell? ⟨w2.heap.size + 1 + 1, n0 * 3 + 2, none⟩ = some (.int .i64 s2) ∧ W'.cell? ⟨w3.heap.size, 1, none⟩ = some (.int .i64 (sy : Int))) := fun W8 W' u hW h => by
                  obtain ⟨h1, h2, h3, h4, h5, h6, h7, h8⟩ := hc8 W8 h
                  subst hW
                  refine ⟨(World.cell?_setCell_far _ _ _ _ (by show w3.heap.size ≠ w1.heap.size; omega)).trans h1, (World.cell?_setCell_far _ _ _ _ hg3.symm).trans h2, (World.cell?_setCell_far _ _ _ _ hg3.symm).trans h3, (World.cell?_setCell_far _ _ _ _ hg3.symm).trans h4, (World.cell?_setCell_far _ _ _ _ hk33).trans h5, (World.cell?_setCell_far _ _ _ _ hk33).trans h6, (World.cell?_setCell_far _ _ _ _ hk33).trans h7, (((KO6.belowAll h).set_ 2 u).cell 1)⟩
                have htx : txnB (t.1, t.2.1, t.2.2) = true := Hinv.out.txn DB.out HT.out HD.out
                have hseen := impl_seen_c (s0 := s0) (s1 := s1) (s2 := s2) (ho.s3.below ((Below.refl w6.heap.size w6).drew)) htx hsy2
                have hof : ∀ W8, Below w6.heap.size w6 W8 → W8.frozen? ⟨w3.heap.size, 2, none⟩ = false := fun W8 h => (KO6.belowAll h).frozen 2
                have hoc : ∀ W8, Below w6.heap.size w6 W8 → W8.cell? ⟨w3.heap.size, 2, none⟩ = some (.int .i64 q0v) := fun W8 h => (KO6.belowAll h).cell 2
                have hlv2 : lockV t.2.1 [s0, s1, s2] n0 (1, (sy : Int), 0) = seesV t.2.1 [s0, s1, s2] sy := by unfold lockV; dsimp only; rw [if_neg (show ¬ ((1 : Int) = 2) by decide)]; rfl
                have HLV := hide hlv2
                clear hlv2 he ho hv
                go_wp2_with fail
                go_region_held3 (fun W' => (W'.cell? ⟨w1.heap.size, 1, none⟩ = some (.slice (some ⟨g, 0, none⟩) n cg) ∧ W'.cell? ⟨g, n0 * 3, none⟩ = some (.int .i64 t.1) ∧ W'.cell? ⟨g, n0 * 3 + 1, none⟩ = some (.slice Au t.2.1.length cu) ∧ W'.cell? ⟨g, n0 * 3 + 2, none⟩ = some (.bool t.2.2) ∧ W'.cell? ⟨w2.heap.size + 1 + 1, n0 * 3, none⟩ = some (.int .i64 s0) ∧ W'.cell? ⟨w2.heap.size + 1 + 1, n0 * 3 + 1, none⟩ = some (.int .i64 s1) ∧ W'.cell? ⟨w2.heap.size + 1 + 1, n0 * 3 + 2, none⟩ = some (.int .i64 s2) ∧ W'.cell? ⟨w3.heap.size, 1, none⟩ = some (.int .i64 (sy : Int))))
                  (first | exact hc8 _ (Below.refl _ _).drew | exact hc8 _ (below_of_drew b8) | exact hc9 _ _ _ rfl (below_of_drew b8))
                  (first | (go_at_call 36; refine hseen.mono ?_; rintro e w8 ⟨rfl, b8⟩; have f8 := hof _ (below_of_drew b8); have k8 := hoc _ (below_of_drew b8)))
                replace b8 := below_of_drew b8
                go_wp2_with fail
                go_meet
                case rel =>
                  rw [HLV.out]
                  exact ⟨(NK6.out.below b8).other (by omega) HOB.out 2 _, (KO6.belowAll b8).set_ 2 _⟩
              · rw [show ((2 : Int) == 1) = false by rfl]
                go_wp2_with fail
                go_meet
                case rel =>
                  refine ⟨NK6.out, ?_⟩
                  have hq : valOf n0 t.2.1.length = q0v := by have := Hq.out; simpa using this
                  have hlv2 : lockV t.2.1 [s0, s1, s2] n0 (2, (sy : Int), 0) = q0v := by unfold lockV; dsimp only; rw [if_pos rfl]; exact hq
                  rw [hlv2]; exact KO6
            case rest =>
              obtain ⟨nk9, ko9⟩ := hcut
              obtain ⟨lv, hlv⟩ : ∃ lv, lockV t.2.1 [s0, s1, s2] n0 (sx, (sy : Int), 0) = lv := ⟨_, rfl⟩
              rw [hlv] at ko9
              have HSO := hide (show snO S n0 t (sx, (sy : Int), 0) = (sx, (sy : Int), lv) by unfold snO lockO; rw [HKD.out]; dsimp only; rw [hlv])
              have NK9 := hide nk9
              obtain ⟨y0, y1, y2⟩ := ko9.three
              have R9 := R1.below nk9.bel
              have hz9 : w3.heap.size < wc.heap.size := ko9.lt
              have hlo9 : w1.heap.size + 1 ≤ wc.heap.size := by omega
              clear nk9 hlv ko9 NK6 KO6 hz6 F0 F1 F2
              go_wp2_with fail
              refine (did_c NK9.out.mach R9 HA1.out hn0 HT.out HD.out hL4'.out hlo9).mono ?_
              rintro e w10 ⟨es10, rfl, M10, c10, _⟩
              have NK10 := hide (NK9.out.did M10 c10)
              have hz10 : wc.heap.size ≤ w10.heap.size := c10.size
              have hbf : t.2.2 = false := Hdn.out Hlt.out
              rw [hbf] at NK10
              have hsame := Hinv.out.same (s := (sx, (sy : Int), 0)) Hop.out HT.out HD.out Hlt.out hn04 hL4'.out hk12 ⟨sy0, (by omega : (sy : Int) ≤ 2)⟩
              rw [HSO.out] at hsame
              have HSA := hide hsame
              clear y0 y1 y2 M10 c10 R9 hbf hsame
              cases hdd : decide (t.2.1.length + 1 = ys.length)
              · have hmore := snap1_more (ds := ms) (d := (f, ys)) (t := t) (S := S) (n := n0) Hst.out Hop.out Hse.out Hs.out (by simpa using hdd)
                rw [HSO.out] at hmore
                have HMO := hide hmore
                clear hmore hdd
                go_wp2_with fail
                go_roundw
                case rel => exact ⟨k + 1, es10, by go_num, by omega, by rw [Hdr.out, HMO.out]; exact NK10.out, by rw [Hdr.out, HMO.out]; exact HSA.out, by rw [Hdr.out, HMO.out]; exact fun key => by (have h1 := HV.out key; dsimp only; omega), by omega⟩
                case measure => simp [intOf]; omega
              · have hm : t.2.1.length + 1 = ys.length := by simpa using hdd
                have HM := hide hm
                have hjl := (List.getElem?_eq_some_iff.1 HT.out).1
                have hgt : (S.ts.set n0 (t.1, t.2.1 ++ [(sx, (sy : Int), lv)], false))[n0]? = some (t.1, t.2.1 ++ [(sx, (sy : Int), lv)], false) := List.getElem?_set_self hjl
                have htx2 := HSA.out.txn (n := n0) DB.out (List.getElem?_set_self hjl) HD.out
                have hops := fun o ho => HSA.out.ops n0 _ hgt o ho
                dsimp only at hops
                have hgood := Hinv.out.good (s := (sx, (sy : Int), 0)) Hop.out HT.out HD.out Hlt.out hn04 hL4'.out hk12 ⟨sy0, (by omega : (sy : Int) ≤ 2)⟩ hm
                have hs1b := snap1_bad (ds := ms) (d := (f, ys)) (t := t) (S := S) (n := n0) Hst.out Hop.out Hse.out Hs.out hm
                have hs1g := snap1_good (ds := ms) (d := (f, ys)) (t := t) (S := S) (n := n0) Hst.out Hop.out Hse.out Hs.out hm
                rw [HSO.out] at hgood hs1b hs1g
                have hbl : n0 < (snBegan S n0).length := by rw [snBegan_len, Hinv.out.blen]; exact hn04
                obtain ⟨a0, a1, a2, hba⟩ : ∃ a b c, (snBegan S n0)[n0]? = some [a, b, c] := by
                  have h3 := Hinv.out.b3' n0 _ (List.getElem_mem hbl)
                  match hq : (snBegan S n0)[n0], h3 with
                  | [a, b, c], _ => exact ⟨a, b, c, by rw [List.getElem?_eq_getElem hbl, hq]⟩
                have hbd : (snBegan S n0).getD n0 [] = [a0, a1, a2] := by rw [List.getD_eq_getElem?_getD, hba]; rfl
                rw [hbd] at hs1b hs1g
                obtain ⟨os, hos⟩ : ∃ os, t.2.1 ++ [(sx, (sy : Int), lv)] = os := ⟨_, rfl⟩
                rw [hos] at HSA hgt htx2 NK10 hgood hs1b hs1g hops
                have HTX := hide htx2; have HBA := hide hba; have HGO := hide hgood; have HB1 := hide hs1b; have HG1 := hide hs1g; have HOPB := hide hops
                obtain ⟨g', cg', Au, cu, hv, _, _, hgs2, he, huc, c1, c2, ho⟩ := NK10.out.mach.look hn0 hgt
                obtain ⟨rfl, rfl⟩ : g = g' ∧ cg = cg' := by simpa using hv
                have c0 := (NK10.out.mach.own.cells he).1
                obtain ⟨m0, m1, _, _⟩ := NK10.out.mach.box.two
                have hlw := impl_lastWrites_c ho.s3 HTX.out
                have hgt' := hide hgt
                clear hba hbd hos hs1b hs1g hgood htx2 hgt he ho hv hdd hops
                go_wp2_with fail
                refine hlw.mono ?_
                rintro e w13 ⟨r13, kk, rfl, hret, b13⟩
                have NK13 := hide (NK10.out.below b13)
                have hz13 : w10.heap.size ≤ w13.heap.size := b13.size
                have O13 := hide hret
                clear m0 m1 c0 c1 c2 hlw b13 hret NK10
                obtain ⟨A3, c3, rfl, hnc3, hm3, hr3⟩ := O13.out.s3
                have hl3 := hide hr3.len
                clear hr3
                go_wp2_with fail
                go_loopw [14, 85] (fun s i wr' => ∃ j : Nat, i = .int .i64 j ∧ j ≤ kk ∧ s = .bool (goodTo S.ver [a0, a1, a2] (lastW os) j) ∧ Below w13.heap.size w13 wr') (fun _ i _ => kk - (intOf i).toNat)
                case atStart => exact ⟨0, rfl, Nat.zero_le _, rfl, Below.refl _ _⟩
                case round =>
                  obtain ⟨j, rfl, hj, rfl, bw⟩ := hrel
                  by_cases hjk : j < kk
                  · obtain ⟨A4, c4, hA4, _, _, hr4⟩ := (O13.out.below bw).s3
                    obtain ⟨rfl, rfl⟩ : A3 = A4 ∧ c3 = c4 := by simpa using hA4
                    obtain ⟨bb, oo, x, y, z, rfl, hbb, hx, p0, p1, p2⟩ := hr4.at_ hjk
                    have hkey := opB_key (HOPB.out _ (lastW_mem (List.mem_of_getElem? hx)).1)
                    obtain ⟨yn, rfl⟩ : ∃ q : Nat, y = q := ⟨y.toNat, by omega⟩
                    obtain ⟨va, hva⟩ : ∃ u, S.ver[yn]? = some u := ⟨_, List.getElem?_eq_getElem (by rw [Hinv.out.vlen]; omega)⟩
                    obtain ⟨ba, hba⟩ : ∃ u, ([a0, a1, a2] : List Int)[yn]? = some u := ⟨_, List.getElem?_eq_getElem (by simp; omega)⟩
                    have hgs := goodTo_succ (ver := S.ver) (beg := [a0, a1, a2]) hx
                    dsimp only at hgs
                    rw [Int.toNat_natCast, show S.ver.getD yn 0 = va by rw [List.getD_eq_getElem?_getD, hva]; rfl, show ([a0, a1, a2] : List Int).getD yn 0 = ba by rw [List.getD_eq_getElem?_getD, hba]; rfl] at hgs
                    have NKA := hide ((NK13.out.below bw).alloc (.cells #[.int .i64 x, .int .i64 (yn : Int), .int .i64 z] 61))
                    have s0 := (NKA.out.vers.cell yn).trans (storeC_get hva)
                    have s1 := (NKA.out.began.cell (n0 * 3 + yn)).trans (storeC_get (flat_get _ (Hinv.out.b3' n0) n0 yn _ ba HBA.out hba))
                    have BW := hide (bw.alloc bw.size (.cells #[.int .i64 x, .int .i64 (yn : Int), .int .i64 z] 61))
                    have j0 : (0 : Int) ≤ j := by omega
                    have j1 : (j : Int) < kk := by omega
                    have yn0 : (0 : Int) ≤ yn := by omega
                    have yn3 : (yn : Int) < 3 := by omega
                    have HGS := hide hgs
                    have KX := Blk.new wr 61 #[.int .i64 x, .int .i64 (yn : Int), .int .i64 z]
                    obtain ⟨x0, x1, x2⟩ := KX.three
                    clear hx hva hba hgs hkey hr4 hA4 bw
                    cases hg : goodTo S.ver [a0, a1, a2] (lastW os) j
                    · have hgf := hide hg
                      clear hg
                      go_wp2_with fail
                      go_quiet (fail)
                      go_wp2_with fail
                      go_roundw
                      case rel => exact ⟨j + 1, by go_num, by omega, by rw [HGS.out, hgf.out]; rfl, below_drewN BW.out _⟩
                      case measure => simp [intOf]; omega
                    · have hgf := hide hg
                      clear hg
                      go_wp2_with fail
                      go_quiet (fail)
                      go_wp2_with fail
                      go_roundw
                      case rel => exact ⟨j + 1, by go_num, by omega, by rw [HGS.out, hgf.out]; rfl, below_drewN BW.out _⟩
                      case measure => simp [intOf]; omega
                  · obtain rfl : j = kk := by omega
                    have hl3' := hl3.out
                    cases hg : goodTo S.ver [a0, a1, a2] (lastW os) j
                    · have hb := HB1.out (by rw [hl3']; exact hg)
                      have HBB := hide hb
                      have NKE := hide (NK13.out.below bw)
                      have hzw := bw.size
                      clear hb hg hl3'
                      go_wp2_with fail
                      go_roundw
                      case rel => exact ⟨k + 1, es10, by go_num, by omega, by rw [Hdr.out, HBB.out]; exact NKE.out, by rw [Hdr.out, HBB.out]; exact HSA.out, by rw [Hdr.out, HBB.out]; exact fun key => by (have h1 := HV.out key; dsimp only; omega), by omega⟩
                      case measure => simp [intOf]; omega
                    · have hb := HG1.out (by rw [hl3']; exact hg)
                      rw [hl3'] at hb
                      have HBB := hide hb
                      have HGO' := HGO.out
                      rw [hl3'] at HGO'
                      have HGOO := hide HGO'
                      have NKE := hide (NK13.out.below bw)
                      have hzw := bw.size
                      clear hb hg hl3' HGO' O13 NK13 bw
                      obtain ⟨g', cg', Au2, cu2, hv, _, _, hgs3, he, huc2, c1, c2, ho⟩ := NKE.out.mach.look hn0 hgt'.out
                      obtain ⟨rfl, rfl⟩ : g = g' ∧ cg = cg' := by simpa using hv
                      obtain ⟨m0, m1, _, _⟩ := NKE.out.mach.box.two
                      have fz := NKE.out.mach.own.free (n0 * 3 + 2)
                      obtain ⟨es12, nk12⟩ := NKE.out.done hn0 hgt'.out
                      dsimp only at nk12
                      rw [List.set_set] at nk12
                      obtain ⟨g', cg', Au3, cu3, hv3, _, _, hgs4, he3, huc3, d1, d2, ho3⟩ := nk12.mach.look hn0 (by rw [List.getElem?_set_self hjl])
                      obtain ⟨rfl, rfl⟩ : g = g' ∧ cg = cg' := by simpa using hv3
                      have d0 := (nk12.mach.own.cells he3).1
                      obtain ⟨y0, y1, _, _⟩ := nk12.mach.box.two
                      have htx3 : txnB (t.1, os, true) = true := HGOO.out.txn (n := n0) DB.out (List.getElem?_set_self hjl) HD.out
                      have hlw := impl_lastWrites_c ho3.s3 htx3
                      have NK14 := hide nk12
                      have hz14 : (wr.setCell ⟨g, n0 * 3 + 2, none⟩ (.bool true)).heap.size = wr.heap.size := size_setCell ..
                      clear he ho he3 ho3 hv hv3 htx3 nk12 NKE
                      go_wp2_with fail
                      refine hlw.mono ?_
                      rintro e w15 ⟨r15, kk2, rfl, hret, b15⟩
                      have NK15 := hide (NK14.out.below b15)
                      have hz15 : wr.heap.size ≤ w15.heap.size := by have := b15.size; omega
                      have O15 := hide (hret.mono (show w2.heap.size + 1 + 1 + 1 + 1 ≤ (wr.setCell ⟨g, n0 * 3 + 2, none⟩ (.bool true)).heap.size by rw [hz14]; omega))
                      clear y0 y1 d0 d1 d2 m0 m1 c1 c2 fz hlw NK14 b15 hret
                      obtain ⟨A5, c5, rfl, hnc5, hm5, hr5⟩ := O15.out.s3
                      have hl5 := hr5.len
                      obtain rfl : kk2 = j := by have := hl3.out; omega
                      have hvb := fun key => (HV.out.bump os key (j := kk2) (by omega))
                      clear hr5
                      have NK15' := hide (show Nk w1 w2.heap.size A n c (.slice (some ⟨g, 0, none⟩) n cg) ⟨S.ts.set n0 (t.1, os, true), commitTo os S.st 0, bumpTo S.ver (lastW os) 0, snKept S n0, snBegan S n0⟩ es12 w15 from NK15.out)
                      clear NK15
                      go_wp2_with fail
                      go_loopw [122] (fun i wr' => ∃ j : Nat, i = .int .i64 j ∧ j ≤ kk2 ∧ Nk w1 w2.heap.size A n c (.slice (some ⟨g, 0, none⟩) n cg) ⟨S.ts.set n0 (t.1, os, true), commitTo os S.st j, bumpTo S.ver (lastW os) j, snKept S n0, snBegan S n0⟩ es12 wr' ∧ O3 61 wr' (w2.heap.size + 1 + 1 + 1 + 1) (.slice A5 kk2 c5) kk2 (lastW os) ∧ w15.heap.size ≤ wr'.heap.size) (fun i _ => kk2 - (intOf i).toNat)
                      case atStart => exact ⟨0, rfl, Nat.zero_le _, NK15'.out, O15.out, Nat.le_refl _⟩
                      case round =>
                        clear NK15' O15
                        obtain ⟨j, rfl, hj, hnkj, hoj, hzj⟩ := hrel
                        have NKJ := hide hnkj; have OJ := hide hoj
                        clear hnkj hoj
                        by_cases hjk : j < kk2
                        · obtain ⟨A4, c4, hA4, _, _, hr4⟩ := OJ.out.s3
                          obtain ⟨rfl, rfl⟩ : A5 = A4 ∧ c5 = c4 := by simpa using hA4
                          obtain ⟨bb, oo, x, y, z, rfl, hbb, hx, p0, p1, p2⟩ := hr4.at_ hjk
                          have hkey := opB_key (HOPB.out _ (lastW_mem (List.mem_of_getElem? hx)).1)
                          obtain ⟨yn, rfl⟩ : ∃ q : Nat, y = q := ⟨y.toNat, by omega⟩
                          have hcl : (commitTo os S.st j).length = 3 := by rw [commitTo_len]; exact Hinv.out.vals.1
                          have hbl3 : (bumpTo S.ver (lastW os) j).length = 3 := by rw [bumpTo_len]; exact Hinv.out.vlen
                          obtain ⟨u, hu⟩ : ∃ u, (commitTo os S.st j)[yn]? = some u := ⟨_, List.getElem?_eq_getElem (by omega)⟩
                          obtain ⟨va, hva⟩ : ∃ u, (bumpTo S.ver (lastW os) j)[yn]? = some u := ⟨_, List.getElem?_eq_getElem (by omega)⟩
                          have hvd : (bumpTo S.ver (lastW os) j).getD yn 0 = va := by rw [List.getD_eq_getElem?_getD, hva]; rfl
                          have hcs := commitTo_succ (st := S.st) hx
                          have hbs := bumpTo_succ (ver := S.ver) hx
                          dsimp only at hcs hbs
                          rw [Int.toNat_natCast] at hcs hbs
                          rw [hvd] at hbs
                          have hvr := HV.out.bump os yn (j := j) (by omega)
                          rw [hvd] at hvr
                          have HCS := hide hcs; have HBS := hide hbs
                          have NKA := hide (NKJ.out.alloc (.cells #[.int .i64 x, .int .i64 (yn : Int), .int .i64 z] 61))
                          have s0 := (NKA.out.store.cell yn).trans (storeC_get hu)
                          have sf := NKA.out.store.frozen yn
                          have r0 := (NKA.out.vers.cell yn).trans (storeC_get hva)
                          have rf := NKA.out.vers.frozen yn
                          have j0 : (0 : Int) ≤ j := by omega
                          have j1 : (j : Int) < kk2 := by omega
                          have yn0 : (0 : Int) ≤ yn := by omega
                          have yn3 : (yn : Int) < 3 := by omega
                          have va0 : 0 ≤ va := by omega
                          have va1 : va ≤ 1000 := by omega
                          have hOA := (OJ.out.below ((Below.refl _ _).alloc (Nat.le_refl _) (.cells #[.int .i64 x, .int .i64 (yn : Int), .int .i64 z] 61)))
                          have hOB := (OF.chg hOA.of (Chg.setCell (S := fun q => q = w2.heap.size) (p := ⟨w2.heap.size, yn, none⟩) rfl (.int .i64 z)) (fun q hq e => by have := (hOA.of.lt q hq).1; omega))
                          have HOA := hide (OF.chg hOB (Chg.setCell (S := fun q => q = w2.heap.size + 1) (p := ⟨w2.heap.size + 1, yn, none⟩) rfl (.int .i64 (va + 1))) (fun q hq e => by have := (hOA.of.lt q hq).1; omega))
                          clear hx hu hva hvd hcs hbs hcl hbl3 hkey hr4 hOA hOB hA4 hvr hvb
                          go_wp2_with fail
                          go_roundw
                          case rel => exact ⟨j + 1, by go_num, by omega, by rw [HCS.out, HBS.out]; exact (NKA.out.putS yn z).putV yn (va + 1), HOA.out, by rw [size_setCell, size_setCell]; simp; omega⟩
                          case measure => simp [intOf]; omega
                        · obtain rfl : j = kk2 := by omega
                          have hca := commitTo_all (os := os) (st := S.st) Hinv.out.vals.1 hl5
                          rw [hca] at NKJ
                          have hv2 := fun key => hvb key
                          have HV2 := hide hv2
                          clear hca hv2 hvb OJ
                          go_wp2_with fail
                          go_roundw
                          case rel => exact ⟨k + 1, es12, by go_num, by omega, by rw [Hdr.out, HBB.out]; exact NKJ.out, by rw [Hdr.out, HBB.out]; exact HGOO.out, by rw [Hdr.out, HBB.out]; exact fun key => by (have h1 := HV2.out key; dsimp only; omega), by omega⟩
                          case measure => simp [intOf]; omega
      · obtain rfl : k = m := by omega
        have hfin : xs.take k = xs := List.take_of_length_le (by rw [hsl.out]; omega)
        rw [hfin] at NK
        have hsmT := (snapL_four ms xs).small
        rw [F.out] at hsmT
        have HSM := hide hsmT
        clear hsmT
        go_wp2_with fail
        refine (history_c NK.out.mach (by omega) HSM.out).mono ?_
        rintro e w9 ⟨v9, es9, rfl, D9, hs9, b9⟩
        go_wp2_with fail
        go_ret
        exact ⟨_, n, es9, rfl, D9.mono (Nat.le_trans hz1 NK.out.bel.size), by rw [F.out]; exact hs9, below_step b1 (below_step NK.out.bel b9)⟩
end Go.Proofs.YtcfkemchekmjbaaGreatDoor
