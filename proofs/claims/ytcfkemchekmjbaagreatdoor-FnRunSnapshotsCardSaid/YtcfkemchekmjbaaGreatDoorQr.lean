/- Merged (what the law reaches): SnapS. -/
import Derived.Test.YtcfkemchekmjbaaGreatDoorQq
import Derived.Deep.DeepCutAuto
import Derived.BigRegion
import Derived.BigQuiet
namespace Go.Proofs.YtcfkemchekmjbaaGreatDoor
open Go.RowKit
def snN (S : Sn) (n0 i : Nat) : Option (List Int) := if i = n0 then some ((snKept S n0).getD n0 []) else seenOf S i
def slN (S : Sn) (n0 : Nat) (ver : List Int) (i : Nat) : Option (List Bool) := if i = n0 then some (staleRow ver ((snBegan S n0).getD n0 [])) else if (opsOf S.ts i).length = 0 then none else some (staleRow ver (S.began.getD i []))
theorem opsOf_set {ts : List Tx} {n0 : Nat} {x : Tx} (h : n0 < ts.length) (i : Nat) : opsOf (ts.set n0 x) i = if i = n0 then x.2.1 else opsOf ts i := by
  unfold opsOf
  simp only [List.getD_eq_getElem?_getD]
  by_cases e : i = n0
  · subst e; rw [if_pos rfl, List.getElem?_set_self h]; rfl
  · rw [if_neg e, List.getElem?_set_ne (fun e' => e e'.symm)]
section
variable {S : Sn} {n0 : Nat} {f : Int} {os : List T3} {dn : Bool} {st' ver' : List Int}
theorem seenOf_next (h : n0 < S.ts.length) (ho : os.length ≠ 0) (i : Nat) : seenOf ⟨S.ts.set n0 (f, os, dn), st', ver', snKept S n0, snBegan S n0⟩ i = snN S n0 i := by
  unfold seenOf snN
  dsimp only
  rw [opsOf_set h]
  by_cases e : i = n0
  · subst e; rw [if_pos rfl, if_neg ho, if_pos rfl]
  · rw [if_neg e, if_neg e, snKept_other S e]; rfl
theorem staleOf_next (h : n0 < S.ts.length) (ho : os.length ≠ 0) (i : Nat) : staleOf ⟨S.ts.set n0 (f, os, dn), st', ver', snKept S n0, snBegan S n0⟩ i = slN S n0 ver' i := by
  unfold staleOf slN
  dsimp only
  rw [opsOf_set h]
  by_cases e : i = n0
  · subst e; rw [if_pos rfl, if_neg ho, if_pos rfl]
  · rw [if_neg e, if_neg e, snBegan_other S e]
end
theorem slN_some {ds : Ds} {S : Sn} (hi : SnI ds S) {n0 i : Nat} {ver : List Int} {r : List Bool} (h : slN S n0 ver i = some r) :
    ∃ beg, (∀ ver', slN S n0 ver' i = some (staleRow ver' beg)) ∧ r = staleRow ver beg ∧ ∀ key, beg.getD key 0 ≤ S.ver.getD key 0 := by
  unfold slN at h ⊢
  by_cases e : i = n0
  · rw [if_pos e] at h; injection h with h
    exact ⟨_, fun v => by rw [if_pos e], h.symm, fun key => hi.vers' n0 n0 key⟩
  · rw [if_neg e] at h
    by_cases e2 : (opsOf S.ts i).length = 0
    · rw [if_pos e2] at h; cases h
    · rw [if_neg e2] at h; injection h with h
      exact ⟨_, fun v => by rw [if_neg e, if_neg e2], h.symm, fun key => hi.vers i key⟩
theorem slN_none {S : Sn} {n0 i : Nat} {ver : List Int} (h : slN S n0 ver i = none) (ver' : List Int) : slN S n0 ver' i = none := by
  unfold slN at h ⊢
  by_cases e : i = n0
  · rw [if_pos e] at h; cases h
  · rw [if_neg e] at h ⊢
    by_cases e2 : (opsOf S.ts i).length = 0
    · rw [if_pos e2]
    · rw [if_neg e2] at h; cases h
theorem infoRow : (Tryz.prog.info? 24).map (fun i => (i.zero, i.size, i.bytes)) = some (some (.slice none 0 0), 1, 24) := by kernel_rfl
theorem infoRowB : (Tryz.prog.info? 78).map (fun i => (i.zero, i.size, i.bytes)) = some (some (.slice none 0 0), 1, 24) := by kernel_rfl
theorem infoB : (Tryz.prog.info? 4).map (fun i => (i.zero, i.size, i.bytes)) = some (some (.bool false), 1, 1) := by kernel_rfl
def nilC (n : Nat) : Array Value := (List.replicate n (Value.slice none 0 0)).toArray
theorem nilC_get {n i : Nat} (h : i < n) : (nilC n)[i]? = some (.slice none 0 0) := by simp [nilC, h]
theorem madeCells_one' (z : Value) (n : Nat) : madeCells #[z] n = (List.replicate n z).toArray := by
  rw [← Array.toArray_toList (xs := madeCells _ _), toList_madeCells_one]
theorem run_make_rows (n : Nat) (hn : n ≤ 4) (w : World) :
    (Instr.makeSlice 37 (.int .i64 (n : Int)) (.int .i64 (n : Int))).run Tryz.prog w = .ok (.slice (some ⟨w.heap.size, 0, none⟩) n n) (w.alloc (.cells (nilC n) 24)) := by
  obtain ⟨i, hi, hz, hs, hb⟩ := info_parts infoRow
  rw [run_make_rowN 37 24 i (.slice none 0 0) Tryz.underlying37 hi hz .i64 .i64 n n (Nat.le_refl _) (by rw [hb]; omega) (by omega) w]
  rw [hs, Nat.mul_one]
  rw [show (Value.slice none 0 0).cells = #[Value.slice none 0 0] from rfl, madeCells_one']
  rfl
theorem run_make_rowsB (n : Nat) (hn : n ≤ 4) (w : World) :
    (Instr.makeSlice 75 (.int .i64 (n : Int)) (.int .i64 (n : Int))).run Tryz.prog w = .ok (.slice (some ⟨w.heap.size, 0, none⟩) n n) (w.alloc (.cells (nilC n) 78)) := by
  obtain ⟨i, hi, hz, hs, hb⟩ := info_parts infoRowB
  rw [run_make_rowN 75 78 i (.slice none 0 0) Tryz.underlying75 hi hz .i64 .i64 n n (Nat.le_refl _) (by rw [hb]; omega) (by omega) w]
  rw [hs, Nat.mul_one]
  rw [show (Value.slice none 0 0).cells = #[Value.slice none 0 0] from rfl, madeCells_one']
  rfl
theorem run_make_B3 (w : World) :
    (Instr.makeSlice 78 (.int .i64 3) (.int .i64 3)).run Tryz.prog w = .ok (.slice (some ⟨w.heap.size, 0, none⟩) 3 3) (w.alloc (.cells (boolC [false, false, false]) 4)) := by
  obtain ⟨i, hi, hz, hs, hb⟩ := info_parts infoB
  have := run_make_rowN 78 4 i (.bool false) Tryz.underlying78 hi hz .i64 .i64 3 3 (Nat.le_refl _) (by rw [hb]; omega) (by omega) w
  rw [hs, Nat.mul_one] at this
  rw [show (Value.bool false).cells = #[Value.bool false] from rfl, madeCells_one'] at this
  exact this
set_option maxRecDepth 100000 in
set_option maxHeartbeats 16000000 in
theorem spec_RunSnapshots_c {A : Option Addr} {n c : Nat} {ms : Ds} {sv : Value} {m : Nat} {xs : List Int} {w : World} (hr : RDs w A n ms) (hn : n ≤ 1048576) (hsm : SmallD ms) (hs : SI w sv m xs) :
    Calls Tryz.prog 9 #[.slice A n c, sv] w fun e w' => ∃ v m es, e = .returned v ∧ OT w' w.heap.size v m es ∧ SaysT es (snapL ms xs) ∧ Below w.heap.size w w' := by
  have ss := hs
  have hl := hide hr.1
  obtain ⟨As, cs, rfl, hsnc, hsn, hsr⟩ := hs
  have hsl := hide hsr.len
  have hmk := make3
  cases hp : planB ms
  · have hf : snapL ms xs = [] := by simp [snapL, runB, hp]
    have F := hide hf; have P := hide hp; clear hf hp
    go_enter Tryz.func9, Tryz.ntmps9
    go_wp2_with fail
    refine (spec_PlanValid_c hr (by omega) hsm).mono ?_
    rintro e w2 ⟨rfl, b2⟩
    rw [P.out]
    go_wp2_with fail
    go_ret
    exact ⟨_, 0, [], rfl, (OT.zero (Nat.le_refl _)).mono b2.size, by rw [F.out]; rfl, b2.alloc b2.size _⟩
  · cases hq : schedB n xs
    · have hf : snapL ms xs = [] := by simp [snapL, runB, hp, hl.out, hq]
      have F := hide hf; have P := hide hp; have Q := hide hq; clear hf hp hq
      go_enter Tryz.func9, Tryz.ntmps9
      go_wp2_with fail
      refine (spec_PlanValid_c hr (by omega) hsm).mono ?_
      rintro e w2 ⟨rfl, b2⟩
      rw [P.out]
      go_wp2_with fail
      refine (spec_ScheduleValid_c (ss.below b2) (by omega) (by omega)).mono ?_
      rintro e w' ⟨rfl, rfl⟩
      rw [Q.out]
      go_wp2_with fail
      go_ret
      exact ⟨_, 0, [], rfl, (OT.zero (Nat.le_refl _)).mono b2.size, by rw [F.out]; rfl, b2.alloc b2.size _⟩
    · have hrun : runB ms xs = true := by simp [runB, hp, hl.out, hq]
      have hf : snapL ms xs = (snapR ms xs).ts := by simp [snapL, hrun]
      obtain ⟨hn4, hdb, hm40, hxb⟩ := runB_parts hrun
      have F := hide hf; have P := hide hp; have Q := hide hq; have DB := hide hdb; have XB := hide hxb
      rw [hl.out] at hn4
      have hmk2 := run_make_rows n hn4
      have hmk3 := run_make_rowsB n hn4
      have hmk4 := run_make_B3
      clear hf hp hq hdb hxb hrun
      go_enter Tryz.func9, Tryz.ntmps9
      go_wp2_with fail
      refine (spec_PlanValid_c hr (by omega) hsm).mono ?_
      rintro e w2 ⟨rfl, b2⟩
      rw [P.out]
      have R1 := hr.below b2
      go_wp2_with fail
      refine (spec_ScheduleValid_c (ss.below b2) (by omega) (by omega)).mono ?_
      rintro e w' ⟨rfl, rfl⟩
      rw [Q.out]
      go_wp2_with fail
      refine (l17Empty_c R1 (by omega)).mono ?_
      rintro e w3 ⟨v3, es3, rfl, D3, hs3, b3⟩
      have hz23 := b3.size
      have K1 := ((Blk.new w3 3 #[.int .i64 0, .int .i64 0, .int .i64 0]).alloc (.cells (nilC n) 24)).alloc (.cells (nilC n) 78)
      have K2 := (Blk.new (w3.alloc (.cells #[.int .i64 0, .int .i64 0, .int .i64 0] 3)) 24 (nilC n)).alloc (.cells (nilC n) 78)
      have K3 := Blk.new ((w3.alloc (.cells #[.int .i64 0, .int .i64 0, .int .i64 0] 3)).alloc (.cells (nilC n) 24)) 78 (nilC n)
      simp only [World.size_alloc] at K2 K3
      have A0 : Zk w2 w3.heap.size n v3 (emptyT ms) z3 es3 (seenOf (snap0 ms)) (staleOf (snap0 ms)) (((w3.alloc (.cells #[.int .i64 0, .int .i64 0, .int .i64 0] 3)).alloc (.cells (nilC n) 24)).alloc (.cells (nilC n) 78)) := by
        have hz : ∀ i, opsOf (snap0 ms).ts i = [] := fun i => by
          show opsOf (emptyT ms) i = []
          unfold opsOf emptyT
          rw [List.getD_eq_getElem?_getD, List.getElem?_map]
          cases ms[i]? <;> rfl
        refine ⟨((D3.alloc _).alloc _).alloc _, hs3, K1, ⟨_, K2, by simp [nilC], fun i hi => ⟨_, nilC_get hi, fun _ => rfl, fun r h => by (unfold seenOf at h; rw [hz] at h; simp at h)⟩⟩, ⟨_, K3, by simp [nilC], fun i hi => ⟨_, nilC_get hi, fun _ => rfl, fun r h => by (unfold staleOf at h; rw [hz] at h; simp at h)⟩, fun i j b b' _ h1 _ => ?_⟩, ((b3.alloc b3.size _).alloc (by simp; omega) _).alloc (by simp; omega) _, hz23⟩
        have hin : i < n := by have := (Array.getElem?_eq_some_iff.1 h1).1; simpa [nilC] using this
        rw [nilC_get hin] at h1
        injection h1 with h1; cases h1
      clear D3 hs3 K1 K2 K3 b3
      go_wp2_with fail
      go_loopw [9] (fun i wr => ∃ (k : Nat) (es : List El), i = .int .i64 k ∧ k ≤ m ∧ Zk w2 w3.heap.size n v3 (snapR ms (xs.take k)).ts (snapR ms (xs.take k)).st es (seenOf (snapR ms (xs.take k))) (staleOf (snapR ms (xs.take k))) wr ∧ SnI ms (snapR ms (xs.take k))) (fun i _ => m - (intOf i).toNat)
      case atStart => exact ⟨0, es3, rfl, Nat.zero_le _, A0, SnI.zero ms⟩
      case round =>
        obtain ⟨k, es, rfl, hk, hsk, hinv⟩ := hrel
        clear A0
        have Hinv := hide hinv; have ZK := hide hsk; clear hinv hsk
        by_cases hkm : k < m
        · have hri := hsr.below b2
          obtain ⟨b, off, x, rfl, hb, hx, hc⟩ := hri.at_ hkm
          obtain ⟨hx0, hx1⟩ := XB.out x (List.mem_of_getElem? hx)
          rw [hl.out] at hx1
          obtain ⟨n0, rfl⟩ : ∃ q : Nat, x = q := ⟨x.toNat, by omega⟩
          have hn0 : n0 < n := by omega
          obtain ⟨d, t, hd, ht, hst, hop, hse, hle, hdn⟩ := Hinv.out.fits.at_ (show n0 < ms.length by rw [hl.out]; exact hn0)
          have hdp := draftB_parts (DB.out d (List.mem_of_getElem? hd))
          have hdr := snapR_snoc (ds := ms) hx
          rw [Int.toNat_natCast] at hdr
          have Hdr := hide hdr
          obtain ⟨S, hS⟩ : ∃ S, snapR ms (xs.take k) = S := ⟨_, rfl⟩
          rw [hS] at Hdr Hinv ZK hop hse ht
          have hstl : S.st.length = 3 := Hinv.out.vals.1
          clear hS hdr
          obtain ⟨g, cg, Au, cu, rfl, hnc, hlg, hgs', he, huc, c0, c1, c2, ho⟩ := ZK.out.look hn0 ht
          obtain ⟨bp, op, f', ys', B', kk', d', rfl, hbp, hx', p0, p1, hkd', hdm', hri'⟩ := R1.at_ hn0
          have e2 := hd.symm.trans hx'
          injection e2 with e2
          subst e2
          dsimp only at hst hle hdp hdn
          have hyl : ys'.length = kk' := hri'.len
          have hbel := ZK.out.bel
          have q0 := (hbel.cell (p := ⟨b, off + k, none⟩) hb).trans hc
          have q1 := (hbel.cell (p := ⟨bp, op + n0 * 2 + 1, none⟩) hbp).trans p1
          have Hst := hide hst; have Hop := hide hop; have Hse := hide hse; have Hdn := hide hdn; have Hd := hide hd; have Ht := hide ht; have Hyl := hide hyl
          have hk4 : kk' ≤ 4 := by rw [← hyl]; exact hdp.2.1
          have hlk : t.2.1.length ≤ kk' := by rw [← hyl]; exact hle
          have Hdp := hide hdp.2.2.2
          have Hp1 := hide p1
          have HUL := hide (fun q (h : (Value.slice Au t.2.1.length cu).ownBlock = some q) => (ho.of.lt q h).2)
          have He := hide he
          have hpos : ∀ o ∈ t.2.1, 0 ≤ o.2.2 := fun o ho => by
            have h1 := Hinv.out.ops n0 t ht o ho
            unfold opB at h1
            simp only [Bool.and_eq_true] at h1
            exact ((inB_iff _ _ _).1 h1.2.2.1).1
          have HPos := hide hpos
          clear hx hc hd ht hst hop hse hle hdn hdp he p0 p1 hx' hbel ho hpos
          obtain ⟨L, hL⟩ : ∃ L, t.2.1.length = L := ⟨_, rfl⟩
          rw [hL] at c1 hlk
          have HL := hide hL
          clear hL hyl
          have n0i : (0 : Int) ≤ n0 := by omega
          have n1i : (n0 : Int) < n := by omega
          have k0 : (0 : Int) ≤ k := by omega
          have k1 : (k : Int) < m := by omega
          by_cases hfull : L = kk'
          · have hnone := snap1_none (ds := ms) (d := (f', ys')) (t := t) (S := S) Hst.out Hop.out (by rw [HL.out, Hyl.out, hfull])
            have Hn := hide hnone
            clear hnone
            subst hfull
            go_wp2_with fail
            go_roundw
            case rel => exact ⟨k + 1, es, by go_num, by omega, by rw [Hdr.out, Hn.out]; exact ZK.out, by rw [Hdr.out, Hn.out]; exact Hinv.out⟩
            case measure => simp [intOf]; omega
          · have hlt : L < kk' := by omega
            obtain ⟨bs, os, sx, sy, sz, rfl, hbs, hs', r0, r1, r2⟩ := hri'.at_ hlt
            have hsp := Hdp.out _ (List.mem_of_getElem? hs')
            dsimp only at hsp
            obtain ⟨hk12, ⟨sy0, sy2⟩, rfl⟩ := hsp
            obtain ⟨sy, rfl⟩ : ∃ q : Nat, sy = q := ⟨sy.toNat, by omega⟩
            have Hs := hide (show ys'[t.2.1.length]? = some (sx, (sy : Int), 0) by rw [HL.out]; exact hs')
            have hLi : (0 : Int) ≤ L := by omega
            have hL4 : L < 4 := by omega
            have Li : (L : Int) < kk' := by omega
            have hn04 : n0 < 4 := by omega
            have hne : ((L : Int) == (kk' : Int)) = false := by rw [beq_eq_false_iff_ne]; omega
            have sy3 : (sy : Int) < 3 := by omega
            have HR0 := hide r0; have HR1 := hide r1; have HR2 := hide r2
            have htl : n0 < S.ts.length := by rw [Hinv.out.fits.1, hl.out]; exact hn0
            clear hs' hfull r0 r1 r2
            go_upto_if 64 with fail
            go_cut [] (fun wx => Zk w2 w3.heap.size n (.slice (some ⟨g, 0, none⟩) n cg) S.ts S.st es (snN S n0) (slN S n0 S.ver) wx ∧ wr.heap.size ≤ wx.heap.size)
            case first => as_aux_lemma =>
              by_cases hL0 : L = 0
              · have hb0 : ((L : Int) == 0) = true := by rw [beq_iff_eq]; omega
                have hkf := snKept_first (S := S) Hop.out (by rw [HL.out]; exact hL0)
                have hbf := snBegan_first (S := S) Hop.out (by rw [HL.out]; exact hL0)
                have hkd : (snKept S n0).getD n0 [] = S.st := by rw [hkf, getD_setL _ _ _ _ (by rw [Hinv.out.klen]; exact hn04), if_pos rfl]
                have hbd : (snBegan S n0).getD n0 [] = S.ver := by rw [hbf, getD_setL _ _ _ _ (by rw [Hinv.out.blen]; exact hn04), if_pos rfl]
                have HKD := hide hkd; have HBD := hide hbd
                have hso := SI.of_blk (n := 3) (c := 3) (xs := S.st) (ZK.out.store.alloc (.cells #[] 3)) (fun q y h => storeC_get h) hstl (by omega) (by omega)
                have hzw := ZK.out.size
                clear hkf hbf hkd hbd hL0
                go_upto_region 15 with (at_builtin; refine wpList_appI rfl _ _ rfl rfl (OI.empty wr) rfl hso (by omega) (by simp) ?_; intro v1 w1 h1 hg1 hat1; have h1' : OI w1 wr.heap.size v1 3 S.st := (by simpa using h1); obtain ⟨Av1, cv1, rfl⟩ := h1'.shape; have Z1 := ZK.out.below (below_app ((Below.refl wr.heap.size wr).alloc (Nat.le_refl _) (.cells #[] 3)) (OI.empty wr) (Nat.le_refl _) hg1); have hz1 := hg1.size; obtain ⟨u1, x1, f1, _⟩ := Z1.seenAt hn0)
                have o1 : OI w1 (w3.heap.size + 1 + 1 + 1) (.slice Av1 3 cv1) 3 S.st := h1'.mono (by omega)
                have ZS := Z1.setSeen (n0 := n0) o1
                obtain ⟨W5, hW5⟩ : ∃ W, w1.setCell ⟨w3.heap.size + 1, n0, none⟩ (.slice Av1 3 cv1) = W := ⟨_, rfl⟩
                have hz5 : wr.heap.size ≤ W5.heap.size := by rw [← hW5, size_setCell]; simp at hz1; omega
                rw [hW5] at ZS ⊢
                have ZSS := hide (ZS.setStale (n0 := n0) [false, false, false])
                obtain ⟨u2, x2, f2, _⟩ := (ZS.alloc (.cells (boolC [false, false, false]) 4)).staleAt hn0
                clear hW5 Z1 x1 f1 ZS o1 h1 h1' hg1 hat1
                go_wp2_with fail
                go_meet
                case rel =>
                  refine ⟨ZSS.out.congr (fun i hi => ?_) (fun i hi => ?_), by rw [size_setCell]; simp; omega⟩
                  · unfold snN; rw [HKD.out]
                  · unfold slN staleOf; rw [HBD.out, staleRow_new]
              · have hb0 : ((L : Int) == 0) = false := by rw [beq_eq_false_iff_ne]; omega
                have hne0 : (opsOf S.ts n0).length ≠ 0 := by rw [Hop.out, HL.out]; exact hL0
                have hkf := snKept_later (S := S) Hop.out (fun e => hL0 (by rw [← HL.out, e]; rfl))
                have hbf := snBegan_later (S := S) Hop.out (by rw [HL.out]; exact hL0)
                have ZC := hide (ZK.out.congr (sn' := snN S n0) (sl' := slN S n0 S.ver) (fun i hi => by
                  unfold snN; by_cases e : i = n0
                  · subst e; rw [if_pos rfl, hkf]; unfold seenOf; rw [if_neg hne0]
                  · rw [if_neg e]) (fun i hi => by
                  unfold slN staleOf; by_cases e : i = n0
                  · subst e; rw [if_pos rfl, hbf, if_neg hne0]
                  · rw [if_neg e]))
                clear hkf hbf hne0
                go_wp2_with fail
                go_meet
                case rel => exact ⟨ZC.out, Nat.le_refl _⟩
            case rest =>
              obtain ⟨zk5, hz5⟩ := hcut
              rename World => w5
              have Z5 := hide zk5
              clear zk5 c0 c1 c2 q1
              have q1 := (Z5.out.bel.cell (p := ⟨bp, op + n0 * 2 + 1, none⟩) hbp).trans Hp1.out
              have a0 := (Z5.out.bel.cell (p := ⟨bs, os + L * 3, none⟩) hbs).trans HR0.out
              have a1 := (Z5.out.bel.cell (p := ⟨bs, os + L * 3 + 1, none⟩) hbs).trans HR1.out
              have a2 := (Z5.out.bel.cell (p := ⟨bs, os + L * 3 + 2, none⟩) hbs).trans HR2.out
              go_wp2_with fail
              have K6 := Blk.new w5 61 #[.int .i64 sx, .int .i64 (sy : Int), .int .i64 0]
              have Z6 := Z5.out.alloc (.cells #[.int .i64 sx, .int .i64 (sy : Int), .int .i64 0] 61)
              obtain ⟨W6, hW6⟩ : ∃ W, w5.alloc (.cells #[.int .i64 sx, .int .i64 (sy : Int), .int .i64 0] 61) = W := ⟨_, rfl⟩
              rw [hW6] at K6 Z6 ⊢
              obtain ⟨KP, hKP⟩ : ∃ K, (snKept S n0).getD n0 [] = K := ⟨_, rfl⟩
              have hkv := Hinv.out.keptV (n := n0) hn04
              have hsn : snN S n0 n0 = some KP := by unfold snN; rw [if_pos rfl, hKP]
              rw [hKP] at hkv
              obtain ⟨u, x0, _, _, hu⟩ := Z6.seenAt hn0
              have ou := hu KP hsn
              obtain ⟨bu, cu3, rfl⟩ : ∃ bu cu3, u = .slice (some ⟨bu, 0, none⟩) 3 cu3 := by
                rcases ou.1.2 with ⟨_, h0⟩ | ⟨g', cap, cur, h1, _⟩
                · omega
                · exact ⟨g', cap, h1⟩
              obtain ⟨s0, hs0, t0⟩ := ou.cell sy (by omega)
              have hz6 : w5.heap.size < W6.heap.size := K6.lt
              have hbu : bu < W6.heap.size := by obtain ⟨cs3, hb3, _⟩ := ou.blk (k := bu) rfl; exact hb3.lt
              have hsb1 : w3.heap.size + 1 < W6.heap.size := by have := Z6.size; omega
              obtain ⟨c0, c1, c2⟩ := Z6.own.cells He.out
              dsimp only at c0 c1 c2
              have hgb : g < W6.heap.size := by omega
              obtain ⟨z0, z1, z2⟩ := K6.three
              have hown : ownV t.2.1 sy s0 = seesV t.2.1 KP sy := by
                have h1 := Hinv.out.own Hop.out Ht.out Hd.out (by rw [HL.out, Hyl.out]; exact hlt) sy
                rw [hKP] at h1
                rwa [show KP.getD sy 0 = s0 by rw [List.getD_eq_getElem?_getD, hs0]; rfl] at h1
              have HOwn := hide hown; have HKP := hide hKP
              have ho5 : O3 61 W6 w2.heap.size (.slice Au t.2.1.length cu) t.2.1.length t.2.1 := Z6.own.own n0 _ He.out
              have hl18 := l18Own_c (f := t.1) (key := (sy : Int)) (other := s0) (dn := t.2.2) (ho5.s3.below ((Below.refl W6.heap.size W6).drew)) HPos.out
              have hc8 : ∀ W' : World, Below W6.heap.size W6 W' → (W'.cell? ⟨g, n0 * 3, none⟩ = some (.int .i64 t.1) ∧ W'.cell? ⟨g, n0 * 3 + 1, none⟩ = some (.slice Au t.2.1.length cu) ∧ W'.cell? ⟨g, n0 * 3 + 2, none⟩ = some (.bool t.2.2) ∧ W'.cell? ⟨w3.heap.size + 1, n0, none⟩ = some (.slice (some ⟨bu, 0, none⟩) 3 cu3) ∧ W'.cell? ⟨bu, sy, none⟩ = some (.int .i64 s0) ∧ W'.cell? ⟨w5.heap.size, 1, none⟩ = some (.int .i64 (sy : Int))) := fun W' h => ⟨(h.cell hgb).trans c0, (h.cell hgb).trans c1, (h.cell hgb).trans c2, (h.cell hsb1).trans x0, (h.cell hbu).trans t0, (h.cell hz6).trans z1⟩
              have SZ6 := hide Z6
              clear hW6 hs0 hown c0 c1 c2 t0 x0 a0 a1 a2 q1 hu ou hkv hsn hKP Z6
              go_region_held3 (fun W' => (W'.cell? ⟨g, n0 * 3, none⟩ = some (.int .i64 t.1) ∧ W'.cell? ⟨g, n0 * 3 + 1, none⟩ = some (.slice Au t.2.1.length cu) ∧ W'.cell? ⟨g, n0 * 3 + 2, none⟩ = some (.bool t.2.2) ∧ W'.cell? ⟨w3.heap.size + 1, n0, none⟩ = some (.slice (some ⟨bu, 0, none⟩) 3 cu3) ∧ W'.cell? ⟨bu, sy, none⟩ = some (.int .i64 s0) ∧ W'.cell? ⟨w5.heap.size, 1, none⟩ = some (.int .i64 (sy : Int))))
                (first | exact hc8 _ (Below.refl _ _).drew | exact hc8 _ (below_of_drew b8))
                (first | (go_at_call 42; refine hl18.mono ?_; rintro e w8 ⟨rfl, b8⟩))
              replace b8 := below_of_drew b8
              have SK8 := hide (SZ6.out.below b8)
              have K8 := K6.belowAll b8
              clear hc8 hl18 ho5 z0 z1 z2 K6 SZ6
              obtain ⟨z0, z1, z2⟩ := K8.three
              have hz8 : w5.heap.size < w8.heap.size := K8.lt
              go_upto_if 100 with fail
              go_cut [13] (fun s wx => s = .int .i64 (lockV t.2.1 KP n0 (sx, (sy : Int), 0)) ∧ Zk w2 w3.heap.size n (.slice (some ⟨g, 0, none⟩) n cg) S.ts S.st es (snN S n0) (slN S n0 S.ver) wx ∧ Blk wx w5.heap.size 61 #[.int .i64 sx, .int .i64 (sy : Int), .int .i64 0])
              case first => as_aux_lemma =>
                rcases hk12 with rfl | rfl
                · have h12 : ((1 : Int) == 2) = false := by rfl
                  go_wp2_with fail
                  go_meet
                  case rel => exact ⟨by rw [HOwn.out]; unfold lockV; dsimp only; rw [if_neg (show ¬ ((1 : Int) = 2) by decide)]; rfl, SK8.out, K8⟩
                · have h12 : ((2 : Int) == 2) = true := by rfl
                  go_wp2_with fail
                  refine (l17Value_c hn04 hL4).mono ?_
                  rintro e w' ⟨rfl, rfl⟩
                  go_wp2_with fail
                  go_meet
                  case rel => exact ⟨by unfold lockV; dsimp only; rw [if_pos rfl, HL.out], SK8.out, K8⟩
              case rest =>
                obtain ⟨rfl, sk9, ko9⟩ := hcut
                obtain ⟨lv, hlv⟩ : ∃ lv, lockV t.2.1 KP n0 (sx, (sy : Int), 0) = lv := ⟨_, rfl⟩
                rw [hlv]
                have HSO := hide (show snO S n0 t (sx, (sy : Int), 0) = (sx, (sy : Int), lv) by unfold snO lockO; rw [HKP.out]; dsimp only; rw [hlv])
                clear hlv SK8 K8 z0 z1 z2
                have ZK9 := hide sk9
                clear sk9
                go_upto_region 20 with fail
                go_cut [] (fun wx => ∃ es', Zk w2 w3.heap.size n (.slice (some ⟨g, 0, none⟩) n cg) (S.ts.set n0 (t.1, t.2.1 ++ [(sx, (sy : Int), lv)], t.2.2)) S.st es' (snN S n0) (slN S n0 S.ver) wx)
                case first => as_aux_lemma =>
                  obtain ⟨_, d1, _⟩ := ZK9.out.own.cells He.out
                  have dz1 := ZK9.out.own.free (n0 * 3 + 1)
                  dsimp only at d1
                  rw [HL.out] at d1
                  have ho2 : O3 61 wc w2.heap.size (.slice Au L cu) L t.2.1 := by have := ZK9.out.own.own n0 _ He.out; dsimp only at this; rw [HL.out] at this; exact this
                  have hz9 : w5.heap.size < wc.heap.size := ko9.lt
                  have hbase : w2.heap.size ≤ (wc.drew.alloc (.cells #[.int .i64 sx, .int .i64 (sy : Int), .int .i64 lv] 61)).heap.size := by have := ZK9.out.bel.size; simp; omega
                  have KN := Blk.new wc.drew 61 #[.int .i64 sx, .int .i64 (sy : Int), .int .i64 lv]
                  have hgW : g < wc.heap.size := by omega
                  obtain ⟨csg, hKG⟩ : ∃ cs, Blk wc g 66 cs := by
                    rcases ZK9.out.own.shape with ⟨h1, _⟩ | ⟨g', c', h1, _, _, _, _, cs, hb⟩
                    · cases h1
                    · injection h1 with h1; injection h1 with h1; injection h1 with h1; subst h1; exact ⟨cs, hb⟩
                  have hcg := (hKG.cell (n0 * 3 + 1)).symm.trans d1
                  have Hcg := hide hcg; have HKG := hide hKG
                  have hne : (Value.slice Au L cu).ownBlock ≠ some g := by have := ZK9.out.own.ne He.out (k := g) rfl; dsimp only at this; rw [HL.out] at this; exact this
                  have Hne := hide hne
                  have hul := HUL.out
                  rw [HL.out] at hul
                  have HWU := hide (show (Value.slice Au L cu).ownBlock ≠ some w5.heap.size from fun e => by have := hul _ e; omega)
                  have Hwg := hide (show w5.heap.size ≠ g by omega)
                  obtain ⟨k0', k1', _⟩ := ko9.three
                  have HC := hide (show ∀ W' : World, W'.heap[w5.heap.size]? = wc.heap[w5.heap.size]? → W'.cell? ⟨w5.heap.size, 0, none⟩ = some (.int .i64 sx) ∧ W'.cell? ⟨w5.heap.size, 1, none⟩ = some (.int .i64 (sy : Int)) from fun W' h1 => ⟨(World.cell?_of_block h1).trans k0', (World.cell?_of_block h1).trans k1'⟩)
                  clear hne hcg hKG hul
                  refine wp_region_held_drew (S := (fun W' => W'.cell? ⟨w5.heap.size, 0, none⟩ = some (.int .i64 sx) ∧ W'.cell? ⟨w5.heap.size, 1, none⟩ = some (.int .i64 (sy : Int)))) (by kernel_rfl) ?_ (fun hHeld => ?_)
                  · exact HC.out _ rfl
                  refine wpAnyH_take (i := 0) (v := ?vvr1) (by rw [List.getElem?_toArray]; exact rfl) (by kernel_rfl) (by kernel_rfl) (by kernel_rfl) (by intro _ _ _ h; exact h) (Or.inl ⟨by rfl, ?hyr1⟩) hHeld ?restr1
                  case' hyr1 => (intro w hSw; (try dsimp only at hSw); go_simp; try (with_reducible rfl))
                  (try simp only [Act.put, List.setIfInBounds_toArray, List.set_cons_zero, List.set_cons_succ])
                  refine wpAnyH_take (i := 1) (v := ?vvr2) (by rw [List.getElem?_toArray]; exact rfl) (by kernel_rfl) (by kernel_rfl) (by kernel_rfl) (by intro _ _ _ h; exact h) (Or.inl ⟨by rfl, ?hyr2⟩) hHeld ?restr2
                  case' hyr2 => (intro w hSw; (try dsimp only at hSw); go_simp; try (with_reducible rfl))
                  (try simp only [Act.put, List.setIfInBounds_toArray, List.set_cons_zero, List.set_cons_succ])
                  refine wpAnyH_take (i := 2) (v := ?vvr3) (by rw [List.getElem?_toArray]; exact rfl) (by kernel_rfl) (by kernel_rfl) (by kernel_rfl) (by intro _ _ _ h; exact h) (Or.inl ⟨by rfl, ?hyr3⟩) hHeld ?restr3
                  case' hyr3 => (intro w hSw; (try dsimp only at hSw); go_simp; try (with_reducible rfl))
                  (try simp only [Act.put, List.setIfInBounds_toArray, List.set_cons_zero, List.set_cons_succ])
                  refine wpAnyH_take (i := 3) (v := ?vvr4) (by rw [List.getElem?_toArray]; exact rfl) (by kernel_rfl) (by kernel_rfl) (by kernel_rfl) (by intro _ _ _ h; exact h) (Or.inl ⟨by rfl, ?hyr4⟩) hHeld ?restr4
                  case' hyr4 => (intro w hSw; (try dsimp only at hSw); go_simp; try (with_reducible rfl))
                  (try simp only [Act.put, List.setIfInBounds_toArray, List.set_cons_zero, List.set_cons_succ])
                  refine wpAnyH_take (i := 4) (v := ?vvr5) (by rw [List.getElem?_toArray]; exact rfl) (by kernel_rfl) (by kernel_rfl) (by kernel_rfl) (by intro _ _ _ h; exact h) (Or.inl ⟨by rfl, ?hyr5⟩) hHeld ?restr5
                  case' hyr5 => (intro w hSw; (try dsimp only at hSw); go_simp; try (with_reducible rfl))
                  (try simp only [Act.put, List.setIfInBounds_toArray, List.set_cons_zero, List.set_cons_succ])
                  refine wpAnyH_take (i := 5) (v := ?vvr6) (by rw [List.getElem?_toArray]; exact rfl) (by kernel_rfl) (by kernel_rfl) (by kernel_rfl) (by intro _ _ _ h; exact h) (Or.inl ⟨by rfl, ?hyr6⟩) hHeld ?restr6
                  case' hyr6 => (intro w hSw; (try dsimp only at hSw); go_simp; try (with_reducible rfl))
                  (try simp only [Act.put, List.setIfInBounds_toArray, List.set_cons_zero, List.set_cons_succ])
                  refine wpAnyH_take (i := 7) (v := ?vvr7) (by rw [List.getElem?_toArray]; exact rfl) (by kernel_rfl) (by kernel_rfl) (by kernel_rfl) (by intro _ _ _ h; exact h) (Or.inl ⟨by rfl, ?hyr7⟩) hHeld ?restr7
                  case' hyr7 => (intro w hSw; (try dsimp only at hSw); go_simp; try (with_reducible rfl))
                  (try simp only [Act.put, List.setIfInBounds_toArray, List.set_cons_zero, List.set_cons_succ])
                  refine wpAnyH_take (i := 8) (v := ?vvr8) (by rw [List.getElem?_toArray]; exact rfl) (by kernel_rfl) (by kernel_rfl) (by kernel_rfl) (by intro _ _ _ h; exact h) (Or.inl ⟨by rfl, ?hyr8⟩) hHeld ?restr8
                  case' hyr8 => (intro w hSw; (try dsimp only at hSw); go_simp; try (with_reducible rfl))
                  (try simp only [Act.put, List.setIfInBounds_toArray, List.set_cons_zero, List.set_cons_succ])
                  refine wpAnyH_take (i := 9) (v := ?vvr9) (by rw [List.getElem?_toArray]; exact rfl) (by kernel_rfl) (by kernel_rfl) (by kernel_rfl) (by intro _ _ _ h; exact h) (Or.inl ⟨by rfl, ?hyr9⟩) hHeld ?restr9
                  case' hyr9 => (intro w hSw; (try dsimp only at hSw); go_simp; try (with_reducible rfl))
                  (try simp only [Act.put, List.setIfInBounds_toArray, List.set_cons_zero, List.set_cons_succ])
                  refine wpAnyH_take (i := 10) (v := ?vvr10) (by rw [List.getElem?_toArray]; exact rfl) (by kernel_rfl) (by kernel_rfl) (by kernel_rfl) (by intro _ _ _ h; exact h) (Or.inl ⟨by rfl, ?hyr10⟩) hHeld ?restr10
                  case' hyr10 => (intro w hSw; (try dsimp only at hSw); go_simp; try (with_reducible rfl))
                  (try simp only [Act.put, List.setIfInBounds_toArray, List.set_cons_zero, List.set_cons_succ])
                  refine wpAnyH_take (i := 11) (v := ?vvr11) (by rw [List.getElem?_toArray]; exact rfl) (by kernel_rfl) (by kernel_rfl) (by kernel_rfl) (by intro _ _ _ h; exact h) (Or.inl ⟨by rfl, ?hyr11⟩) hHeld ?restr11
                  case' hyr11 => (intro w hSw; (try dsimp only at hSw); go_simp; try (with_reducible rfl))
                  (try simp only [Act.put, List.setIfInBounds_toArray, List.set_cons_zero, List.set_cons_succ])
                  refine wpAnyH_take (i := 12) (v := ?vvr12) (by rw [List.getElem?_toArray]; exact rfl) (by kernel_rfl) (by kernel_rfl) (by kernel_rfl) (by intro _ _ _ h; exact h) (Or.inl ⟨by rfl, ?hyr12⟩) hHeld ?restr12
                  case' hyr12 => (intro w hSw; (try dsimp only at hSw); go_simp; try (with_reducible rfl))
                  (try simp only [Act.put, List.setIfInBounds_toArray, List.set_cons_zero, List.set_cons_succ])
                  refine wpAnyH_ready (rs := [6, 13]) (by kernel_rfl) (by simp) ?_
                  refine AllReadyH.cons (by rw [List.getElem?_toArray]; exact rfl) (fun K hK => ?_) ?_
                  · skip
                    go_simp
                    refine hK.out _ _ ?_ (fun hHeld => ?_)
                    · first | exact HC.out _ rfl | exact HC.out _ (Below.heap_alloc wc (.cells #[.int .i64 sx, .int .i64 (sy : Int), .int .i64 lv] 61) _ hz9)
                    clear hK K
                    (try simp only [Act.put, List.setIfInBounds_toArray, List.set_cons_zero, List.set_cons_succ])
                    refine wpAnyH_ready (rs := [13]) (by kernel_rfl) (by simp) ?_
                    refine AllReadyH.cons (by rw [List.getElem?_toArray]; exact rfl) (fun K hK => ?_) AllReadyH.nil
                    go_simp
                    refine hK.out _ _ ?_ (fun hHeld => ?_)
                    · exact HC.out _ (Below.heap_alloc wc (.cells #[.int .i64 sx, .int .i64 (sy : Int), .int .i64 lv] 61) _ hz9)
                    clear hK K
                    (try simp only [Act.put, List.setIfInBounds_toArray, List.set_cons_zero, List.set_cons_succ])
                    refine wpAnyH_ready (rs := [14]) (by kernel_rfl) (by simp) ?_
                    refine AllReadyH.cons (by rw [List.getElem?_toArray]; exact rfl) (fun K hK => ?_) AllReadyH.nil
                    refine step_app3 (by rfl) (.tmp 110) (.tmp 117) (by rfl) (by rfl) (ho2.drew.alloc _) (by rfl) (S3.one KN (Nat.le_refl _)) (by omega) hbase ?_
                    intro v' w' ho' hg' hat'
                    obtain ⟨Av, cv, rfl⟩ := ho'.shape
                    have hcw := ((HKG.out.drew.alloc (.cells #[.int .i64 sx, .int .i64 (sy : Int), .int .i64 lv] 61)).grown hg' (fun e => Hne.out e.symm))
                    have cw := (hcw.cell (n0 * 3 + 1)).trans Hcg.out
                    have fw := hcw.frozen (n0 * 3 + 1)
                    refine hK.out _ _ ?_ (fun hHeld => ?_)
                    · exact HC.out _ ((hg'.block _ (by simp; omega) (fun e => HWU.out e.symm)).trans (Below.heap_alloc wc (.cells #[.int .i64 sx, .int .i64 (sy : Int), .int .i64 lv] 61) _ hz9))
                    clear hK K
                    (try simp only [Act.put, List.setIfInBounds_toArray, List.set_cons_zero, List.set_cons_succ])
                    refine wpAnyH_take (i := 15) (v := ?vvr13) (by rw [List.getElem?_toArray]; exact rfl) (by kernel_rfl) (by kernel_rfl) (by kernel_rfl) (by intro _ _ _ h; exact h) (Or.inl ⟨by rfl, ?hyr13⟩) hHeld ?restr13
                    case' hyr13 => (intro w hSw; (try dsimp only at hSw); go_simp; try (with_reducible rfl))
                    (try simp only [Act.put, List.setIfInBounds_toArray, List.set_cons_zero, List.set_cons_succ])
                    refine wpAnyH_take (i := 16) (v := ?vvr14) (by rw [List.getElem?_toArray]; exact rfl) (by kernel_rfl) (by kernel_rfl) (by kernel_rfl) (by intro _ _ _ h; exact h) (Or.inl ⟨by rfl, ?hyr14⟩) hHeld ?restr14
                    case' hyr14 => (intro w hSw; (try dsimp only at hSw); go_simp; try (with_reducible rfl))
                    (try simp only [Act.put, List.setIfInBounds_toArray, List.set_cons_zero, List.set_cons_succ])
                    refine wpAnyH_ready (rs := [17]) (by kernel_rfl) (by simp) ?_
                    refine AllReadyH.cons (by rw [List.getElem?_toArray]; exact rfl) (fun K hK => ?_) AllReadyH.nil
                    go_simp
                    refine hK.out _ _ ?_ (fun hHeld => ?_)
                    · exact HC.out _ ((Below.heap_setCell _ ⟨g, n0 * 3 + 1, none⟩ _ _ Hwg.out).trans ((hg'.block _ (by simp; omega) (fun e => HWU.out e.symm)).trans (Below.heap_alloc wc (.cells #[.int .i64 sx, .int .i64 (sy : Int), .int .i64 lv] 61) _ hz9)))
                    clear hK K
                    (try simp only [Act.put, List.setIfInBounds_toArray, List.set_cons_zero, List.set_cons_succ])
                    refine wpAnyH_done (by kernel_rfl) ?_ _
                    have HHO := hide ho'; have HHG := hide hg'; have HHA := hide hat'
                    clear hcw cw fw
                    go_wp2_with fail
                    go_meet
                    case rel =>
                      have hgg' : (wc.drew.alloc (.cells #[.int .i64 sx, .int .i64 (sy : Int), .int .i64 lv] 61)).grownBy w' (Value.slice Au t.2.1.length cu).ownBlock := by rw [HL.out]; exact HHG.out
                      have hha' : (Value.slice Av (L + 1) cv).ownBlock = (Value.slice Au t.2.1.length cu).ownBlock ∨ (Value.slice Av (L + 1) cv).ownBlock = some (wc.drew.alloc (.cells #[.int .i64 sx, .int .i64 (sy : Int), .int .i64 lv] 61)).heap.size := by rw [HL.out]; exact HHA.out
                      exact ⟨_, (ZK9.out.drew.alloc (.cells #[.int .i64 sx, .int .i64 (sy : Int), .int .i64 lv] 61)).add He.out hgg' HHO.out hha'⟩
                  refine AllReadyH.cons (by rw [List.getElem?_toArray]; exact rfl) (fun K hK => ?_) AllReadyH.nil
                  go_simp
                  refine hK.out _ _ ?_ (fun hHeld => ?_)
                  · exact HC.out _ (Below.heap_alloc wc (.cells #[.int .i64 sx, .int .i64 (sy : Int), .int .i64 lv] 61) _ hz9)
                  clear hK K
                  (try simp only [Act.put, List.setIfInBounds_toArray, List.set_cons_zero, List.set_cons_succ])
                  refine wpAnyH_ready (rs := [6]) (by kernel_rfl) (by simp) ?_
                  refine AllReadyH.cons (by rw [List.getElem?_toArray]; exact rfl) (fun K hK => ?_) AllReadyH.nil
                  go_simp
                  refine hK.out _ _ ?_ (fun hHeld => ?_)
                  · first | exact HC.out _ rfl | exact HC.out _ (Below.heap_alloc wc (.cells #[.int .i64 sx, .int .i64 (sy : Int), .int .i64 lv] 61) _ hz9)
                  clear hK K
                  (try simp only [Act.put, List.setIfInBounds_toArray, List.set_cons_zero, List.set_cons_succ])
                  refine wpAnyH_ready (rs := [14]) (by kernel_rfl) (by simp) ?_
                  refine AllReadyH.cons (by rw [List.getElem?_toArray]; exact rfl) (fun K hK => ?_) AllReadyH.nil
                  refine step_app3 (by rfl) (.tmp 110) (.tmp 117) (by rfl) (by rfl) (ho2.drew.alloc _) (by rfl) (S3.one KN (Nat.le_refl _)) (by omega) hbase ?_
                  intro v' w' ho' hg' hat'
                  obtain ⟨Av, cv, rfl⟩ := ho'.shape
                  have hcw := ((HKG.out.drew.alloc (.cells #[.int .i64 sx, .int .i64 (sy : Int), .int .i64 lv] 61)).grown hg' (fun e => Hne.out e.symm))
                  have cw := (hcw.cell (n0 * 3 + 1)).trans Hcg.out
                  have fw := hcw.frozen (n0 * 3 + 1)
                  refine hK.out _ _ ?_ (fun hHeld => ?_)
                  · exact HC.out _ ((hg'.block _ (by simp; omega) (fun e => HWU.out e.symm)).trans (Below.heap_alloc wc (.cells #[.int .i64 sx, .int .i64 (sy : Int), .int .i64 lv] 61) _ hz9))
                  clear hK K
                  (try simp only [Act.put, List.setIfInBounds_toArray, List.set_cons_zero, List.set_cons_succ])
                  refine wpAnyH_take (i := 15) (v := ?vvr15) (by rw [List.getElem?_toArray]; exact rfl) (by kernel_rfl) (by kernel_rfl) (by kernel_rfl) (by intro _ _ _ h; exact h) (Or.inl ⟨by rfl, ?hyr15⟩) hHeld ?restr15
                  case' hyr15 => (intro w hSw; (try dsimp only at hSw); go_simp; try (with_reducible rfl))
                  (try simp only [Act.put, List.setIfInBounds_toArray, List.set_cons_zero, List.set_cons_succ])
                  refine wpAnyH_take (i := 16) (v := ?vvr16) (by rw [List.getElem?_toArray]; exact rfl) (by kernel_rfl) (by kernel_rfl) (by kernel_rfl) (by intro _ _ _ h; exact h) (Or.inl ⟨by rfl, ?hyr16⟩) hHeld ?restr16
                  case' hyr16 => (intro w hSw; (try dsimp only at hSw); go_simp; try (with_reducible rfl))
                  (try simp only [Act.put, List.setIfInBounds_toArray, List.set_cons_zero, List.set_cons_succ])
                  refine wpAnyH_ready (rs := [17]) (by kernel_rfl) (by simp) ?_
                  refine AllReadyH.cons (by rw [List.getElem?_toArray]; exact rfl) (fun K hK => ?_) AllReadyH.nil
                  go_simp
                  refine hK.out _ _ ?_ (fun hHeld => ?_)
                  · exact HC.out _ ((Below.heap_setCell _ ⟨g, n0 * 3 + 1, none⟩ _ _ Hwg.out).trans ((hg'.block _ (by simp; omega) (fun e => HWU.out e.symm)).trans (Below.heap_alloc wc (.cells #[.int .i64 sx, .int .i64 (sy : Int), .int .i64 lv] 61) _ hz9)))
                  clear hK K
                  (try simp only [Act.put, List.setIfInBounds_toArray, List.set_cons_zero, List.set_cons_succ])
                  refine wpAnyH_done (by kernel_rfl) ?_ _
                  have HHO := hide ho'; have HHG := hide hg'; have HHA := hide hat'
                  clear hcw cw fw
                  go_wp2_with fail
                  go_meet
                  case rel =>
                    have hgg' : (wc.drew.alloc (.cells #[.int .i64 sx, .int .i64 (sy : Int), .int .i64 lv] 61)).grownBy w' (Value.slice Au t.2.1.length cu).ownBlock := by rw [HL.out]; exact HHG.out
                    have hha' : (Value.slice Av (L + 1) cv).ownBlock = (Value.slice Au t.2.1.length cu).ownBlock ∨ (Value.slice Av (L + 1) cv).ownBlock = some (wc.drew.alloc (.cells #[.int .i64 sx, .int .i64 (sy : Int), .int .i64 lv] 61)).heap.size := by rw [HL.out]; exact HHA.out
                    exact ⟨_, (ZK9.out.drew.alloc (.cells #[.int .i64 sx, .int .i64 (sy : Int), .int .i64 lv] 61)).add He.out hgg' HHO.out hha'⟩
                case rest =>
                  obtain ⟨es10, sk10⟩ := hcut
                  have ZK10 := hide sk10
                  have q1 := (sk10.bel.cell (p := ⟨bp, op + n0 * 2 + 1, none⟩) hbp).trans Hp1.out
                  have hbf : t.2.2 = false := Hdn.out (by rw [HL.out, Hyl.out]; exact hlt)
                  rw [hbf] at ZK10
                  have hsame := Hinv.out.same (s := (sx, (sy : Int), 0)) Hop.out Ht.out Hd.out (by rw [HL.out, Hyl.out]; exact hlt) hn04 (by rw [HL.out]; exact hL4) hk12 ⟨sy0, sy2⟩
                  rw [HSO.out] at hsame
                  have HSA := hide hsame
                  clear sk10 ko9 ZK9 hbf hsame
                  by_cases hdd : L + 1 < kk'
                  · have hdn : t.2.1.length + 1 ≠ ys'.length := by rw [HL.out, Hyl.out]; omega
                    have hmore := snap1_more (ds := ms) (d := (f', ys')) (t := t) (S := S) (n := n0) Hst.out Hop.out Hse.out Hs.out hdn
                    rw [HSO.out] at hmore
                    have HMO := hide hmore
                    have hddi : (L : Int) + 1 < kk' := by omega
                    clear hmore hdn
                    go_wp2_with fail
                    go_roundw
                    case rel => exact ⟨k + 1, es10, by go_num, by omega, by rw [Hdr.out, HMO.out]; exact ZK10.out.congr (fun i hi => seenOf_next htl (by simp) i) (fun i hi => staleOf_next htl (by simp) i), by rw [Hdr.out, HMO.out]; exact HSA.out⟩
                    case measure => simp [intOf]; omega
                  · have hde : t.2.1.length + 1 = ys'.length := by rw [HL.out, Hyl.out]; omega
                    have hgood := Hinv.out.good (s := (sx, (sy : Int), 0)) Hop.out Ht.out Hd.out (by rw [HL.out, Hyl.out]; exact hlt) hn04 (by rw [HL.out]; exact hL4) hk12 ⟨sy0, sy2⟩ hde
                    have hs1b := snap1_bad (ds := ms) (d := (f', ys')) (t := t) (S := S) (n := n0) Hst.out Hop.out Hse.out Hs.out hde
                    have hs1g := snap1_good (ds := ms) (d := (f', ys')) (t := t) (S := S) (n := n0) Hst.out Hop.out Hse.out Hs.out hde
                    rw [HSO.out] at hgood hs1b hs1g
                    have hbl : n0 < (snBegan S n0).length := by rw [snBegan_len, Hinv.out.blen]; exact hn04
                    obtain ⟨a0, a1, a2, hba⟩ : ∃ a b c, (snBegan S n0)[n0]? = some [a, b, c] := by
                      have h3 := Hinv.out.b3' n0 _ (List.getElem_mem hbl)
                      match hq : (snBegan S n0)[n0], h3 with
                      | [a, b, c], _ => exact ⟨a, b, c, by rw [List.getElem?_eq_getElem hbl, hq]⟩
                    have hbd : (snBegan S n0).getD n0 [] = [a0, a1, a2] := by rw [List.getD_eq_getElem?_getD, hba]; rfl
                    have hsl0 : slN S n0 S.ver n0 = some (staleRow S.ver [a0, a1, a2]) := by unfold slN; rw [if_pos rfl, hbd]
                    have HSL0 := hide hsl0
                    rw [hbd] at hs1b hs1g
                    have hgt : (S.ts.set n0 (t.1, t.2.1 ++ [(sx, (sy : Int), lv)], false))[n0]? = some (t.1, t.2.1 ++ [(sx, (sy : Int), lv)], false) := List.getElem?_set_self htl
                    have htx2 := HSA.out.txn (n := n0) DB.out (List.getElem?_set_self htl) Hd.out
                    have hops := fun o ho => HSA.out.ops n0 _ hgt o ho
                    dsimp only at hops
                    obtain ⟨ops, hos⟩ : ∃ ops, t.2.1 ++ [(sx, (sy : Int), lv)] = ops := ⟨_, rfl⟩
                    have hopl : ops.length ≠ 0 := by rw [← hos]; simp
                    rw [hos] at HSA hgt htx2 ZK10 hgood hs1b hs1g hops
                    have HTX := hide htx2; have HGO := hide hgood; have HB1 := hide hs1b; have HG1 := hide hs1g; have HOPB := hide hops; have Hgt := hide hgt
                    have hddi : ¬ ((L : Int) + 1 < kk') := by omega
                    obtain ⟨g2, cg2, Au2, cu2, hv2, _, _, hg2, he2, huc2, d0, d1, d2, ho2⟩ := ZK10.out.look hn0 hgt
                    obtain ⟨rfl, rfl⟩ : g = g2 ∧ cg = cg2 := by simpa using hv2
                    have hlw := spec_LastWrites_c ho2.s3 HTX.out
                    have hzc := ZK10.out.size
                    clear hgood hs1b hs1g hba hbd hsl0 hgt htx2 hops hos he2 ho2 hv2 hde hstl
                    go_wp2_with fail
                    refine hlw.mono ?_
                    rintro e w13 ⟨r13, kk, rfl, hret, b13⟩
                    have ZK13 := hide (ZK10.out.below b13)
                    have O13 := hide (hret.mono (show w3.heap.size + 1 + 1 + 1 ≤ wc.heap.size by omega))
                    clear d0 d1 d2 hlw ZK10 b13 hret
                    obtain ⟨A3, c3, rfl, hnc3, hm3, hr3⟩ := O13.out.s3
                    have hl3 := hide hr3.len
                    clear hr3
                    go_wp2_with fail
                    go_loopw [15, 16] (fun s i wr' => ∃ j : Nat, i = .int .i64 j ∧ j ≤ kk ∧ s = .bool (goodTo S.ver [a0, a1, a2] (lastW ops) j) ∧ Below w13.heap.size w13 wr') (fun _ i _ => kk - (intOf i).toNat)
                    case atStart => exact ⟨0, rfl, Nat.zero_le _, rfl, Below.refl _ _⟩
                    case round => as_aux_lemma =>
                      obtain ⟨j, rfl, hj, rfl, bw⟩ := hrel
                      by_cases hjk : j < kk
                      · obtain ⟨A4, c4, hA4, _, _, hr4⟩ := (O13.out.below bw).s3
                        obtain ⟨rfl, rfl⟩ : A3 = A4 ∧ c3 = c4 := by simpa using hA4
                        obtain ⟨bb, oo, x, y, z, rfl, hbb, hx, p0, p1, p2⟩ := hr4.at_ hjk
                        have hkey := opB_key (HOPB.out _ (lastW_mem (List.mem_of_getElem? hx)).1)
                        obtain ⟨yn, rfl⟩ : ∃ q : Nat, y = q := ⟨y.toNat, by omega⟩
                        have hgs := goodTo_succ (ver := S.ver) (beg := [a0, a1, a2]) hx
                        dsimp only at hgs
                        rw [Int.toNat_natCast] at hgs
                        have hgt2 := staleRow_get S.ver [a0, a1, a2] (key := yn) (by omega)
                        obtain ⟨bq, hbq⟩ : ∃ q, (!(S.ver.getD yn 0 == ([a0, a1, a2] : List Int).getD yn 0)) = q := ⟨_, rfl⟩
                        have hbq2 : (S.ver.getD yn 0 == ([a0, a1, a2] : List Int).getD yn 0) = !bq := by rw [← hbq]; simp
                        rw [hbq] at hgt2
                        rw [hbq2] at hgs
                        obtain ⟨u, x1, _, _, hu⟩ := (ZK13.out.below bw).staleAt hn0
                        obtain ⟨b3, rfl, _, hb3⟩ := hu _ HSL0.out
                        have t1 := (hb3.cell yn).trans (boolC_get hgt2)
                        have j0 : (0 : Int) ≤ j := by omega
                        have j1 : (j : Int) < kk := by omega
                        have yn0 : (0 : Int) ≤ yn := by omega
                        have yn3 : (yn : Int) < 3 := by omega
                        have HGS := hide hgs; have BW := hide bw
                        clear hx hgs hgt2 hbq hbq2 hkey hr4 hA4 bw hu hb3
                        cases hg : goodTo S.ver [a0, a1, a2] (lastW ops) j
                        · have hgf := hide hg
                          clear hg
                          go_wp2_with fail
                          go_quiet (fail)
                          go_wp2_with fail
                          go_roundw
                          case rel => exact ⟨j + 1, by go_num, by omega, by rw [HGS.out, hgf.out]; rfl, below_drewN BW.out _⟩
                          case measure => simp [intOf]; omega
                        · have hgf := hide hg
                          clear hg
                          go_wp2_with fail
                          go_quiet (fail)
                          go_wp2_with fail
                          go_roundw
                          case rel => exact ⟨j + 1, by go_num, by omega, by rw [HGS.out, hgf.out]; rfl, below_drewN BW.out _⟩
                          case measure => simp [intOf]; omega
                      · obtain rfl : j = kk := by omega
                        have hl3' := hl3.out
                        have ZE := hide (ZK13.out.below bw)
                        have OE := hide (O13.out.below bw)
                        clear bw
                        obtain ⟨g3, cg3, Au3, cu4, hv3, _, _, _, _, _, _, _, c2, _⟩ := ZE.out.look hn0 Hgt.out
                        obtain ⟨rfl, rfl⟩ : g = g3 ∧ cg = cg3 := by simpa using hv3
                        have fz := ZE.out.own.free (n0 * 3 + 2)
                        clear hv3
                        obtain ⟨gb, hgb'⟩ : ∃ q, goodTo S.ver [a0, a1, a2] (lastW ops) j = q := ⟨_, rfl⟩
                        rw [hgb']
                        obtain ⟨es12, zk12⟩ := ZE.out.done hn0 Hgt.out gb
                        dsimp only at zk12
                        rw [List.set_set] at zk12
                        have ZD := hide zk12
                        have OD := hide (OF.chg OE.out.of (Chg.setCell (S := fun q => q = g) (p := ⟨g, n0 * 3 + 2, none⟩) rfl (.bool gb)) (fun q hq e => by
                          obtain ⟨cs5, hb5⟩ : ∃ cs, Blk wr g 66 cs := by
                            rcases ZE.out.own.shape with ⟨h1, _⟩ | ⟨g', c', h1, _, _, _, _, cs, hb⟩
                            · cases h1
                            · injection h1 with h1; injection h1 with h1; injection h1 with h1; subst h1; exact ⟨cs, hb⟩
                          exact OE.out.of.ne_blk hb5 (by decide) (e ▸ hq)))
                        clear zk12 ZE OE
                        cases gb
                        · have hb := HB1.out (by rw [hl3']; exact hgb')
                          have HBB := hide hb
                          clear hb hgb' hl3'
                          go_wp2_with fail
                          go_loopw [17] (fun i wr' => i = .int .i64 0 ∧ Zk w2 w3.heap.size n (.slice (some ⟨g, 0, none⟩) n cg) (S.ts.set n0 (t.1, ops, false)) S.st es12 (snN S n0) (slN S n0 S.ver) wr') (fun _ _ => 0)
                          case atStart => exact ⟨rfl, ZD.out⟩
                          case round => as_aux_lemma =>
                            obtain ⟨rfl, hz⟩ := hrel
                            have HZ := hide hz
                            clear hz
                            by_cases hk0 : j = 0
                            · have hk0i : ¬ ((0 : Int) < j) := by omega
                              go_wp2_with fail
                              go_roundw
                              case rel => exact ⟨k + 1, es12, by go_num, by omega, by rw [Hdr.out, HBB.out]; exact HZ.out.congr (fun i hi => seenOf_next htl hopl i) (fun i hi => staleOf_next htl hopl i), by rw [Hdr.out, HBB.out]; exact HSA.out⟩
                              case measure => simp [intOf]; omega
                            · have hk0i : (0 : Int) < j := by omega
                              go_wp2_with fail
                              go_roundw
                              case rel => exact ⟨k + 1, es12, by go_num, by omega, by rw [Hdr.out, HBB.out]; exact HZ.out.congr (fun i hi => seenOf_next htl hopl i) (fun i hi => staleOf_next htl hopl i), by rw [Hdr.out, HBB.out]; exact HSA.out⟩
                              case measure => simp [intOf]; omega
                        · have hb := HG1.out (by rw [hl3']; exact hgb')
                          rw [hl3'] at hb
                          have HGO' := HGO.out
                          rw [hl3'] at HGO'
                          have HBB := hide hb; have HGOO := hide HGO'
                          have ZD' := hide (show Zk w2 w3.heap.size n (.slice (some ⟨g, 0, none⟩) n cg) (S.ts.set n0 (t.1, ops, true)) (commitTo ops S.st 0) es12 (snN S n0) (slN S n0 (bumpTo S.ver (lastW ops) 0)) _ from ZD.out)
                          clear hb hgb' hl3' HGO' ZD
                          go_wp2_with fail
                          go_loopw [17] (fun i wr' => ∃ q : Nat, i = .int .i64 q ∧ q ≤ j ∧ Zk w2 w3.heap.size n (.slice (some ⟨g, 0, none⟩) n cg) (S.ts.set n0 (t.1, ops, true)) (commitTo ops S.st q) es12 (snN S n0) (slN S n0 (bumpTo S.ver (lastW ops) q)) wr' ∧ OF 61 3 wr' (w3.heap.size + 1 + 1 + 1) (.slice A3 j c3) j (flat3 (lastW ops))) (fun i _ => j - (intOf i).toNat)
                          case atStart => exact ⟨0, rfl, Nat.zero_le _, ZD'.out, OD.out⟩
                          case round => as_aux_lemma =>
                            clear ZD' OD
                            obtain ⟨q, rfl, hq, hzq, hoq⟩ := hrel
                            have ZQ := hide hzq; have OQ := hide (show O3 61 wr (w3.heap.size + 1 + 1 + 1) (.slice A3 j c3) j (lastW ops) from hoq)
                            clear hzq hoq
                            by_cases hqk : q < j
                            · obtain ⟨A4, c4, hA4, _, _, hr4⟩ := OQ.out.s3
                              obtain ⟨rfl, rfl⟩ : A3 = A4 ∧ c3 = c4 := by simpa using hA4
                              obtain ⟨bb, oo, x, y, z, rfl, hbb, hx, p0, p1, p2⟩ := hr4.at_ hqk
                              have hkey := opB_key (HOPB.out _ (lastW_mem (List.mem_of_getElem? hx)).1)
                              obtain ⟨yn, rfl⟩ : ∃ q : Nat, y = q := ⟨y.toNat, by omega⟩
                              have hcl : (commitTo ops S.st q).length = 3 := by rw [commitTo_len]; exact Hinv.out.vals.1
                              obtain ⟨u, hu⟩ : ∃ u, (commitTo ops S.st q)[yn]? = some u := ⟨_, List.getElem?_eq_getElem (by omega)⟩
                              have hcs := commitTo_succ (st := S.st) hx
                              have hbs := bumpTo_succ (ver := S.ver) hx
                              dsimp only at hcs hbs
                              rw [Int.toNat_natCast] at hcs hbs
                              have HCS := hide hcs; have HBS := hide hbs
                              have s0 := (ZQ.out.store.cell yn).trans (storeC_get hu)
                              have sf := ZQ.out.store.frozen yn
                              have q0' : (0 : Int) ≤ q := by omega
                              have q1' : (q : Int) < j := by omega
                              have yn0 : (0 : Int) ≤ yn := by omega
                              have yn3 : (yn : Int) < 3 := by omega
                              have hyn2 : yn ≤ 2 := by omega
                              have hbs3 : w3.heap.size ≠ bb := by have := (OQ.out.of.lt bb rfl).1; omega
                              have HOA := hide (OF.chg OQ.out.drew.of (Chg.setCell (S := fun a => a = w3.heap.size) (p := ⟨w3.heap.size, yn, none⟩) rfl (.int .i64 z)) (fun a ha e => by have := (OQ.out.of.lt a ha).1; omega))
                              have ZA := hide ((ZQ.out.drew.putS yn z).congr (sn' := snN S n0) (sl' := fun a => if a < 0 then slN S n0 (bumpTo S.ver (lastW ops) (q + 1)) a else slN S n0 (bumpTo S.ver (lastW ops) q) a) (fun _ _ => rfl) (fun a _ => by simp))
                              have HX := hide hx
                              clear hx hu hcs hbs hcl hkey hr4 hA4 p0
                              go_wp2_with fail
                              go_region
                              go_wp2_with fail
                              go_loopw [18] (fun i wr' => ∃ a : Nat, i = .int .i64 a ∧ a ≤ n ∧ Zk w2 w3.heap.size n (.slice (some ⟨g, 0, none⟩) n cg) (S.ts.set n0 (t.1, ops, true)) ((commitTo ops S.st q).set yn z) es12 (snN S n0) (fun b => if b < a then slN S n0 (bumpTo S.ver (lastW ops) (q + 1)) b else slN S n0 (bumpTo S.ver (lastW ops) q) b) wr' ∧ OF 61 3 wr' (w3.heap.size + 1 + 1 + 1) (.slice (some ⟨bb, oo, none⟩) j c3) j (flat3 (lastW ops))) (fun i _ => n - (intOf i).toNat)
                              case atStart => exact ⟨0, rfl, Nat.zero_le _, ZA.out, HOA.out⟩
                              case round => as_aux_lemma =>
                                clear ZA HOA p1 p2 s0 sf
                                obtain ⟨a, rfl, ha, hza, hoa⟩ := hrel
                                have ZA := hide hza; have OA := hide (show O3 61 wr (w3.heap.size + 1 + 1 + 1) (.slice (some ⟨bb, oo, none⟩) j c3) j (lastW ops) from hoa)
                                clear hza hoa
                                by_cases han : a < n
                                · obtain ⟨u2, x2, _, hu0, hu1⟩ := ZA.out.staleAt han
                                  have ai0 : (0 : Int) ≤ a := by omega
                                  have ai1 : (a : Int) < n := by omega
                                  rw [if_neg (Nat.lt_irrefl a)] at hu0 hu1
                                  cases hsl : slN S n0 (bumpTo S.ver (lastW ops) q) a with
                                  | none =>
                                    obtain rfl := hu0 hsl
                                    have HSL := hide hsl
                                    clear hu0 hu1 hsl
                                    go_wp2_with fail
                                    go_roundw
                                    case rel => exact ⟨a + 1, by go_num, by omega, ZA.out.congr (fun _ _ => rfl) (fun b _ => by
                                      by_cases e : b = a
                                      · subst e; rw [if_pos (by omega), if_neg (by omega), HSL.out]; exact slN_none HSL.out _
                                      · by_cases e2 : b < a
                                        · rw [if_pos (by omega), if_pos e2]
                                        · rw [if_neg (by omega), if_neg e2]), OA.out⟩
                                    case measure => simp [intOf]; omega
                                  | some r =>
                                    obtain ⟨b3, rfl, _, hb3⟩ := hu1 r hsl
                                    obtain ⟨beg, hall, hr, hle⟩ := slN_some Hinv.out hsl
                                    obtain ⟨A4, c4, hA4, _, _, hr4⟩ := OA.out.s3
                                    obtain ⟨e5, rfl⟩ : some (⟨bb, oo, none⟩ : Addr) = A4 ∧ c3 = c4 := by simpa using hA4
                                    subst e5
                                    obtain ⟨bb', oo', x', y', z', e6, hbb', hx', p0, p1, p2⟩ := hr4.at_ hqk
                                    injection e6 with e6; injection e6 with e6 e7
                                    subst e6; subst e7
                                    have e8 := HX.out.symm.trans hx'
                                    injection e8 with e8
                                    obtain ⟨rfl, rfl, rfl⟩ : x = x' ∧ (yn : Int) = y' ∧ z = z' := by simpa using e8
                                    have hrl : ∃ bx, r[yn]? = some bx := by rw [hr]; exact ⟨_, staleRow_get _ _ hyn2⟩
                                    obtain ⟨bx, hbx⟩ := hrl
                                    have t3 := (hb3.cell yn).trans (boolC_get hbx)
                                    have tf := hb3.frozen yn
                                    have hb3l := hb3.lt
                                    have hnb : bb ≠ b3 := fun e => OA.out.of.ne_blk hb3 (by decide) (by rw [← e]; rfl)
                                    have hnb2 : w3.heap.size + 1 + 1 ≠ b3 := fun e => by
                                      obtain ⟨cs9, hb9, _⟩ := ZA.out.stale
                                      have := (e ▸ hb9 : Blk wr b3 _ _).same hb3
                                      revert this; decide
                                    have ZM := hide (ZA.out.drew.mark (key := yn) han (by rw [if_neg (Nat.lt_irrefl a)]; exact hsl) x2)
                                    have OM := hide (OF.chg OA.out.drew.of (Chg.setCell (S := fun c => c = b3) (p := ⟨b3, yn, none⟩) rfl (.bool true)) (fun c hc e => OA.out.of.ne_blk hb3 (by decide) (e ▸ hc)))
                                    have hnew : slN S n0 (bumpTo S.ver (lastW ops) (q + 1)) a = some (r.set yn true) := by
                                      rw [hall, HBS.out, hr]
                                      exact congrArg some (staleRow_bump (by rw [bumpTo_len]; exact Hinv.out.vlen) hyn2 (Int.le_trans (hle yn) (bumpTo_le _ _ _ _).1))
                                    have HNEW := hide hnew
                                    clear hu0 hu1 hsl hall hr hle hx' e8 hbx hnew hr4 hA4 hb3 p0
                                    go_wp2_with fail
                                    go_region
                                    go_wp2_with fail
                                    go_roundw
                                    case rel => exact ⟨a + 1, by go_num, by omega, ZM.out.congr (fun _ _ => rfl) (fun b _ => by
                                      by_cases e : b = a
                                      · subst e; rw [if_pos (by omega), if_pos rfl]; exact HNEW.out
                                      · rw [if_neg e]
                                        by_cases e2 : b < a
                                        · rw [if_pos (by omega), if_pos e2]
                                        · rw [if_neg (by omega), if_neg e2]), OM.out⟩
                                    case measure => simp [intOf]; omega
                                · obtain rfl : a = n := by omega
                                  go_wp2_with fail
                                  go_roundw
                                  case rel => exact ⟨q + 1, by go_num, by omega, by rw [HCS.out]; exact ZA.out.congr (fun _ _ => rfl) (fun b hb => by rw [if_pos hb]), OA.out⟩
                                  case measure => simp [intOf]; omega
                            · obtain rfl : q = j := by omega
                              have hca := commitTo_all (os := ops) (st := S.st) Hinv.out.vals.1 hl3.out
                              rw [hca] at ZQ
                              clear hca OQ
                              go_wp2_with fail
                              go_roundw
                              case rel => exact ⟨k + 1, es12, by go_num, by omega, by rw [Hdr.out, HBB.out]; exact ZQ.out.congr (fun i hi => seenOf_next htl hopl i) (fun i hi => staleOf_next htl hopl i), by rw [Hdr.out, HBB.out]; exact HGOO.out⟩
                              case measure => simp [intOf]; omega
        · obtain rfl : k = m := by omega
          have hfin : xs.take k = xs := List.take_of_length_le (by rw [hsl.out]; omega)
          rw [hfin] at ZK
          go_wp2_with fail
          go_ret
          exact ⟨_, n, es, rfl, ZK.out.own.mono b2.size, by rw [F.out]; exact ZK.out.says, below_step b2 ZK.out.bel⟩
end Go.Proofs.YtcfkemchekmjbaaGreatDoor
