/- spec.RunDirty. -/
import Derived.Test.YtfcfhgophpoibaaDoorRunP
import Derived.Deep.RegionLaw
import Derived.Deep.RegionWith
import Derived.Deep.RegionHeld3
import Derived.BigRegion
namespace Go.Proofs.YtfcfhgophpoibaaDoor
open Go.RowKit

/-- 'append(v, u...)' on slices of ops, inside a region that draws its order. -/
theorem step_app3 {w : World} {o : Oper} {a : Act} {K : Act → World → Prop} {Q : Exit → Act → World → Prop} {ops : Array Oper} {E : Prop} (hgd : o.guard = none) (s x : Operand)
    (ho : o.op = .call { callee := .builtin .append, args := #[s, x], argTypes := #[33, 33] })
    {B : Nat} {v : Value} {n : Nat} {ts : List T3} (hs : a.eval s = v) (hown : O3 53 w B v n ts)
    {u : Value} {m : Nat} {us : List T3} (hx : a.eval x = u) (hr : S3 w u m us) (hnm : n + m ≤ 1048576) (hbase : B ≤ w.heap.size)
    (h : ∀ v' w', O3 53 w' B v' (n + m) (ts ++ us) → w.grownBy w' v.ownBlock → (v'.ownBlock = v.ownBlock ∨ v'.ownBlock = some w.heap.size) → K (a.put o.dst v') w') :
    if Region.wanted o (yielded ops a.tmps) = true then Oper.wp Tryd.prog o a w K Q else E := by
  have hw : Region.wanted o (yielded ops a.tmps) = true := by simp [Region.wanted, hgd]
  rw [if_pos hw]
  obtain ⟨i, hi, hz, hsz, hby⟩ := info_parts infoOpz
  obtain ⟨A, c, rfl, _, _, hR⟩ := hr
  obtain ⟨v', w', hrun, h2, h3, h4⟩ := app_rd (P := Tryd.prog) B 33 o.type 53 i (.agg #[.int .i64 0, .int .i64 0, .int .i64 0]) 3 24 Tryd.underlying33 hi hz hsz hby rfl (by omega) v n _ hown.1 A m c _ hR.rd (ints_oneCell _ _) (by simp only [maxLen]; omega) (by omega) hbase
  unfold Oper.wp execOp
  simp only [ho, resolve, invoke, builtin, Sem.run_bind, Sem.run_pure, Result.andThen_ok, List.map_toArray, List.map_cons, List.map_nil, hs, hx, hrun]
  exact h v' w' ⟨by rw [flat3_append]; simpa using h2, hnm⟩ h3 h4

set_option maxHeartbeats 400000 in
theorem l17Value_c {n at_ : Nat} {w : World} (hn : n < 4) (ha : at_ < 4) : Calls Tryd.prog 35 #[.int .i64 (n : Int), .int .i64 (at_ : Int)] w fun e w' => e = .returned (.int .i64 (valOf n at_)) ∧ w = w' := by
  have h1 : (n : Int) < 4 := by omega
  have h2 : (at_ : Int) < 4 := by omega
  go_enter Tryd.func35, Tryd.ntmps35
  go_wp2
  go_ret
  exact ⟨by unfold valOf; rfl, rfl⟩

theorem make3 (w : World) : (Instr.makeSlice 24 (.int .i64 3) (.int .i64 3)).run Tryd.prog w = .ok (.slice (some ⟨w.heap.size, 0, none⟩) 3 3) (w.alloc (.cells #[.int .i64 0, .int .i64 0, .int .i64 0] 3)) := run_make_ints 3 (by omega) w
theorem own3 (w : World) : OI (w.alloc (.cells #[.int .i64 0, .int .i64 0, .int .i64 0] 3)) w.heap.size (.slice (some ⟨w.heap.size, 0, none⟩) 3 3) 3 [0, 0, 0] := OI.of_blk (Blk.new w _ _) (Nat.le_refl _) rfl rfl (by omega)
theorem SaysT.ops {es : List El} {ts : List Tx} (h : SaysT es ts) {lo n : Nat} {v : Value} {w : World} (D : OT w lo v n es) {k : Nat} {t : Tx} (hk : ts[k]? = some t) :
    ∃ u, es[k]? = some (t.1, (u, t.2.1.length, flat3 t.2.1), t.2.2) ∧ O3 53 w lo u t.2.1.length t.2.1 := by
  obtain ⟨e, he, e1, e2, e3⟩ := h.at_ hk
  have ho := D.own k e he
  obtain ⟨f, ⟨u, m, xs⟩, d⟩ := e
  dsimp only at e1 e2 e3 ho
  subst e1; subst e2; subst e3
  have hl := ho.len
  rw [flat3_len] at hl
  obtain rfl : t.2.1.length = m := by omega
  exact ⟨u, he, ho⟩
theorem SaysT.set_ {es : List El} {ts : List Tx} (h : SaysT es ts) (k : Nat) (t : Tx) (u : Value) (m : Nat) : SaysT (es.set k (t.1, (u, m, flat3 t.2.1), t.2.2)) (ts.set k t) := by
  unfold SaysT at *
  rw [List.map_set, List.map_set, h]
theorem OI.set_ne {w : World} {B n : Nat} {v : Value} {xs : List Int} (h : OI w B v n xs) {p : Addr} (hp : v.ownBlock ≠ some p.block) (u : Value) : OI (w.setCell p u) B v n xs :=
  h.grown (grown_setCell (World.grownBy.refl w (some p.block)) (.inl rfl) u) (.inr hp)
/-- The state of a run in memory: the history, the store. -/
structure AtRun (w : World) (lo : Nat) (v : Value) (gs n : Nat) (S : RunSt) (es : List El) : Prop where
  own : OT w lo v n es
  says : SaysT es S.1
  store : OI w lo (.slice (some ⟨gs, 0, none⟩) 3 3) 3 S.2
  apart : v.ownBlock ≠ some gs
  inner : ∀ (j : Nat) (e : El), es[j]? = some e → e.2.1.1.ownBlock ≠ some gs

theorem AtRun.below {w w' : World} {lo gs n : Nat} {v : Value} {S : RunSt} {es : List El} (h : AtRun w lo v gs n S es) (hb : Below w.heap.size w w') : AtRun w' lo v gs n S es :=
  ⟨h.own.below hb, h.says, h.store.below hb, h.apart, h.inner⟩
theorem AtRun.alloc {w : World} {lo gs n : Nat} {v : Value} {S : RunSt} {es : List El} (h : AtRun w lo v gs n S es) (o : Obj) : AtRun (w.alloc o) lo v gs n S es := h.below ((Below.refl _ _).alloc (Nat.le_refl _) _)
theorem AtRun.drew {w : World} {lo gs n : Nat} {v : Value} {S : RunSt} {es : List El} (h : AtRun w lo v gs n S es) : AtRun w.drew lo v gs n S es := h.below (Below.refl _ _).drew
/-- A value put into the store. -/
theorem AtRun.put {w : World} {lo gs n : Nat} {v : Value} {S : RunSt} {es : List El} (h : AtRun w lo v gs n S es) (i : Nat) (x : Int) : AtRun (w.setCell ⟨gs, i, none⟩ (.int .i64 x)) lo v gs n (S.1, S.2.set i x) es :=
  ⟨h.own.chg (Chg.setCell (S := fun k => k = gs) (p := ⟨gs, i, none⟩) rfl _) (fun k hk e => by
      subst e
      rcases hk with hk | ⟨j, e, hj, hk⟩
      · exact h.apart hk
      · exact h.inner j e hj hk), h.says, h.store.store i x, h.apart, h.inner⟩
/-- One more operation, and done or not. -/
theorem AtRun.add {w w' : World} {lo gs n g c : Nat} {S : RunSt} {es : List El} (h : AtRun w lo (.slice (some ⟨g, 0, none⟩) n c) gs n S es) {j : Nat} {t : Tx} {u : Value} (he : es[j]? = some (t.1, (u, t.2.1.length, flat3 t.2.1), t.2.2))
    (hg : w.grownBy w' u.ownBlock) {u' : Value} {o : T3} {L : Nat} (ho : O3 53 w' lo u' L (t.2.1 ++ [o])) (hq : u'.ownBlock = u.ownBlock ∨ u'.ownBlock = some w.heap.size) (d : Bool) :
    AtRun ((w'.setCell ⟨g, j * 3 + 1, none⟩ u').setCell ⟨g, j * 3 + 2, none⟩ (.bool d)) lo (.slice (some ⟨g, 0, none⟩) n c) gs n (S.1.set j (t.1, t.2.1 ++ [o], d), S.2) (es.set j (t.1, (u', L, flat3 (t.2.1 ++ [o])), d)) := by
  have hjl := (List.getElem?_eq_some_iff.1 he).1
  have hgs : gs < w.heap.size := (World.ownsRow.lt h.store.1 gs rfl).2
  have hu : u.ownBlock ≠ some gs := h.inner j _ he
  have D1 := h.own.append he hg (q := (u', L, flat3 (t.2.1 ++ [o]))) ho.of (hq.imp id (fun e k hk => by rw [e] at hk; injection hk with hk; omega))
  have D2 := D1.set2 (List.getElem?_set_self hjl) d
  rw [List.set_set] at D2
  refine ⟨D2, ?_, ?_, h.apart, fun i e hi => ?_⟩
  · exact h.says.set_ j (t.1, t.2.1 ++ [o], d) u' L
  · have hne : gs ≠ g := fun e => h.apart (by rw [e]; rfl)
    exact ((h.store.grown hg (.inr (fun e => hu e.symm))).set_ne (p := ⟨g, j * 3 + 1, none⟩) (fun e => hne (by injection e)) _).set_ne (p := ⟨g, j * 3 + 2, none⟩) (fun e => hne (by injection e)) _
  · by_cases e1 : j = i
    · subst e1
      rw [List.getElem?_set_self hjl] at hi
      injection hi with hi; subst hi
      rcases hq with hq | hq
      · rw [hq]; exact hu
      · rw [hq]; intro e; injection e with e; omega
    · rw [List.getElem?_set_ne e1] at hi
      exact h.inner i e hi

set_option maxRecDepth 100000 in
set_option maxHeartbeats 8000000 in
theorem spec_RunDirty_c {A : Option Addr} {n c : Nat} {ms : Ds} {sv : Value} {m : Nat} {xs : List Int} {w : World} (hr : RDs w A n ms) (hn : n ≤ 1048576) (hsm : SmallD ms) (hs : SI w sv m xs) :
    Calls Tryd.prog 9 #[.slice A n c, sv] w fun e w' => ∃ v m es, e = .returned v ∧ OT w' w.heap.size v m es ∧ SaysT es (dirtyL ms xs) ∧ Below w.heap.size w w' := by
  have ss := hs
  have hl := hide hr.1
  obtain ⟨As, cs, rfl, hsnc, hsn, hsr⟩ := hs
  have hsl := hide hsr.len
  have hmk := make3
  cases hp : planB ms
  · have hf : dirtyL ms xs = [] := by simp [dirtyL, runB, hp]
    have F := hide hf; have P := hide hp; clear hf hp
    go_enter Tryd.func9, Tryd.ntmps9
    go_wp2_with fail
    refine (l1OwnDraftList_c hr (by omega) hsm).mono ?_
    rintro e w1 ⟨v1, ds1, rfl, D1, hs1, b1⟩
    obtain ⟨A1, c1, rfl, hn1, R1⟩ := D1.rds hs1
    go_wp2_with fail
    refine (spec_PlanValid_c R1 (by omega) hsm).mono ?_
    rintro e w2 ⟨rfl, b2⟩
    rw [P.out]
    go_wp2_with fail
    go_ret
    exact ⟨_, 0, [], rfl, (OT.zero (Nat.le_refl _)).mono (below_step b1 b2).size, by rw [F.out]; rfl, (below_step b1 b2).alloc (below_step b1 b2).size _⟩
  · cases hq : schedB n xs
    · have hf : dirtyL ms xs = [] := by simp [dirtyL, runB, hp, hl.out, hq]
      have F := hide hf; have P := hide hp; have Q := hide hq; clear hf hp hq
      go_enter Tryd.func9, Tryd.ntmps9
      go_wp2_with fail
      refine (l1OwnDraftList_c hr (by omega) hsm).mono ?_
      rintro e w1 ⟨v1, ds1, rfl, D1, hs1, b1⟩
      obtain ⟨A1, c1, rfl, hn1, R1⟩ := D1.rds hs1
      go_wp2_with fail
      refine (spec_PlanValid_c R1 (by omega) hsm).mono ?_
      rintro e w2 ⟨rfl, b2⟩
      rw [P.out]
      have B2 := below_step b1 b2
      go_wp2_with fail
      refine (spec_ScheduleValid_c (ss.below B2) (by omega) (by omega)).mono ?_
      rintro e w' ⟨rfl, rfl⟩
      rw [Q.out]
      go_wp2_with fail
      go_ret
      exact ⟨_, 0, [], rfl, (OT.zero (Nat.le_refl _)).mono B2.size, by rw [F.out]; rfl, B2.alloc B2.size _⟩
    · have hrun : runB ms xs = true := by simp [runB, hp, hl.out, hq]
      have hf : dirtyL ms xs = (dirtyR ms xs).1 := by simp [dirtyL, hrun]
      obtain ⟨hn4, hdb, hm40, hxb⟩ := runB_parts hrun
      have F := hide hf; have P := hide hp; have Q := hide hq; have DB := hide hdb; have XB := hide hxb
      rw [hl.out] at hn4
      clear hf hp hq hdb hxb hrun
      go_enter Tryd.func9, Tryd.ntmps9
      go_wp2_with fail
      refine (l1OwnDraftList_c hr (by omega) hsm).mono ?_
      rintro e w1 ⟨v1, ds1, rfl, D1, hs1, b1⟩
      obtain ⟨A1, c1, rfl, hn1, R1⟩ := D1.rds hs1
      go_wp2_with fail
      refine (spec_PlanValid_c R1 (by omega) hsm).mono ?_
      rintro e w2 ⟨rfl, b2⟩
      rw [P.out]
      have B2 := below_step b1 b2
      replace R1 := R1.below b2
      go_wp2_with fail
      refine (spec_ScheduleValid_c (ss.below B2) (by omega) (by omega)).mono ?_
      rintro e w' ⟨rfl, rfl⟩
      rw [Q.out]
      go_wp2_with fail
      refine (l17Empty_c R1 (by omega)).mono ?_
      rintro e w3 ⟨v3, es3, rfl, D3, hs3, b3⟩
      have S3' : SI w2 (.slice As m cs) m xs := ss.below B2
      have o3 := (own3 w3).mono b3.size
      have A0 : AtRun (w3.alloc (.cells #[.int .i64 0, .int .i64 0, .int .i64 0] 3)) w2.heap.size v3 w3.heap.size n (emptyT ms, [0, 0, 0]) es3 :=
        ⟨D3.alloc _, hs3, o3, fun e => by have := D3.range _ (.inl e); omega, fun j e hj he => by have := D3.range _ (.inr ⟨j, e, hj, he⟩); omega⟩
      have B4 : Below w2.heap.size w2 (w3.alloc (.cells #[.int .i64 0, .int .i64 0, .int .i64 0] 3)) := b3.alloc b3.size _
      clear D3 hs3 D1 hs1 o3
      go_wp2_with fail
      go_loopw [7] (fun i wr => ∃ (k : Nat) (es : List El), i = .int .i64 k ∧ k ≤ m ∧ AtRun wr w2.heap.size v3 w3.heap.size n (dirtyR ms (xs.take k)) es ∧ Fits ms (dirtyR ms (xs.take k)).1 ∧ Vals (dirtyR ms (xs.take k)).2 ∧ Below w2.heap.size w2 wr) (fun i _ => m - (intOf i).toNat)
      case atStart => exact ⟨0, es3, rfl, Nat.zero_le _, by simpa [dirtyR] using A0, by simpa [dirtyR] using Fits.empty DB.out, by simpa [dirtyR] using Vals.zero, B4⟩
      case round =>
        obtain ⟨k, es, rfl, hk, AR, hfit, hval, hbel⟩ := hrel
        clear A0 B4
        have hfin := hfit; have hvl := hval
        have Hfit := hide hfit; have Hval := hide hval; clear hfit hval hfin hvl
        by_cases hkm : k < m
        · have hri := hsr.below B2
          obtain ⟨b, off, x, rfl, hb, hx, hc⟩ := hri.at_ hkm
          obtain ⟨hx0, hx1⟩ := XB.out x (List.mem_of_getElem? hx)
          rw [hl.out] at hx1
          obtain ⟨n0, rfl⟩ : ∃ q : Nat, x = q := ⟨x.toNat, by omega⟩
          have hn0 : n0 < n := by omega
          obtain ⟨d, t, hd, ht, hst, hop, hse, hle, hdn⟩ := Hfit.out.at_ (show n0 < ms.length by rw [hl.out]; exact hn0)
          have hdp := draftB_parts (DB.out d (List.mem_of_getElem? hd))
          obtain ⟨u, he, ho⟩ := AR.says.ops AR.own ht
          obtain ⟨bp, op, f', ys', B', kk', d', rfl, hbp, hx', p0, p1, hkd', hdm', hri'⟩ := R1.at_ hn0
          have e2 := hd.symm.trans hx'
          injection e2 with e2
          subst e2
          dsimp only at hst hle hdp hdn
          have hyl : ys'.length = kk' := hri'.len
          rcases AR.own.shape with ⟨_, h0⟩ | ⟨g, cg, rfl, hlg, hgs', hnc, hcm, _⟩
          · omega
          obtain ⟨c0, c1, c2⟩ := AR.own.cells he
          have fz1 := AR.own.free (n0 * 3 + 1)
          have fz2 := AR.own.free (n0 * 3 + 2)
          obtain ⟨Au, cu, rfl, huc, _, _⟩ := ho.form
          have q0 := (hbel.cell (p := ⟨b, off + k, none⟩) hb).trans hc
          have q1 := (hbel.cell (p := ⟨bp, op + n0 * 2 + 1, none⟩) hbp).trans p1
          have hdr := dirtyR_snoc (ds := ms) hx
          rw [Int.toNat_natCast] at hdr
          dsimp only at c1
          have Hdr := hide hdr; have Hst := hide hst; have Hop := hide hop; have Hse := hide hse; have Hdn := hide hdn; have Hd := hide hd; have Ht := hide ht; have He := hide he; have Hyl := hide hyl
          have hk4 : kk' ≤ 4 := by rw [← hyl]; exact hdp.2.1
          have hlk : t.2.1.length ≤ kk' := by rw [← hyl]; exact hle
          have Hdp := hide hdp.2.2.2
          have HAR := hide AR
          have Hp1 := hide p1
          clear hx hc hd ht hst hop hse hle hdn hdp he p0 p1 hx' hdr c0 AR
          obtain ⟨L, hL⟩ : ∃ L, t.2.1.length = L := ⟨_, rfl⟩
          rw [hL] at c1 hlk ho
          have HL := hide hL
          clear hL hyl
          have n0i : (0 : Int) ≤ n0 := by omega
          have n1i : (n0 : Int) < n := by omega
          have k0 : (0 : Int) ≤ k := by omega
          have k1 : (k : Int) < m := by omega
          by_cases hfull : L = kk'
          · have hnone := dirty1_none (ds := ms) (d := (f', ys')) (t := t) (S := dirtyR ms (xs.take k)) Hst.out Hop.out (by rw [HL.out, Hyl.out, hfull])
            have Hn := hide hnone
            clear hnone
            subst hfull
            go_wp2_with fail
            go_roundw
            case rel => exact ⟨k + 1, es, by go_num, by omega, by rw [Hdr.out, Hn.out]; exact HAR.out, by rw [Hdr.out, Hn.out]; exact Hfit.out, by rw [Hdr.out, Hn.out]; exact Hval.out, hbel⟩
            case measure => simp [intOf]; omega
          · have hlt : L < kk' := by omega
            obtain ⟨bs, os, sx, sy, sz, rfl, hbs, hs', r0, r1, r2⟩ := hri'.at_ hlt
            have hsp := Hdp.out _ (List.mem_of_getElem? hs')
            dsimp only at hsp
            obtain ⟨hk12, ⟨sy0, sy2⟩, rfl⟩ := hsp
            obtain ⟨sy, rfl⟩ : ∃ q : Nat, sy = q := ⟨sy.toNat, by omega⟩
            have a0 := (hbel.cell (p := ⟨bs, os + L * 3, none⟩) hbs).trans r0
            have a1 := (hbel.cell (p := ⟨bs, os + L * 3 + 1, none⟩) hbs).trans r1
            have a2 := (hbel.cell (p := ⟨bs, os + L * 3 + 2, none⟩) hbs).trans r2
            have hsome := dirty1_some (ds := ms) (d := (f', ys')) (t := t) (S := dirtyR ms (xs.take k)) Hst.out Hop.out Hse.out (by rw [HL.out]; exact hs')
            rw [HL.out] at hsome
            have Hsome := hide hsome
            have hstep := Hfit.out.step Hd.out Ht.out (by rw [HL.out, Hyl.out]; exact hlt)
            have Hstep := hide hstep
            obtain ⟨sv0, hsv0, hsc0⟩ := HAR.out.store.cell sy (by omega)
            have hsf0 := HAR.out.store.free sy
            have hvb := Hval.out.2 sv0 (List.mem_of_getElem? hsv0)
            have hgg : g ≠ w3.heap.size := fun e => HAR.out.apart (by rw [e]; rfl)
            have hin := HAR.out.inner n0 _ He.out
            have Hin := hide hin; have Hsv := hide hsv0
            have syi : (sy : Int) ≤ 2 := sy2
            have hL4 : L < 4 := by omega
            have Li : (L : Int) < kk' := by omega
            clear hsome hstep hsv0 hin r0 r1 r2 hs' sy2
            have hn04 : n0 < 4 := by omega
            have hgs3 := (World.ownsRow.lt HAR.out.store.1 w3.heap.size rfl).2
            have b0 : (wr.alloc (.cells #[.int .i64 0, .int .i64 0, .int .i64 0] 53)).heap.size = wr.heap.size + 1 := by simp
            clear b0
            rcases hk12 with rfl | rfl
            · go_wp2_with fail
              have hsv : dirtyV (dirtyR ms (xs.take k)).2 n0 L (1, (sy : Int), 0) = sv0 := by simp [dirtyV, List.getD, Hsv.out]
              have hss : dirtyS (dirtyR ms (xs.take k)).2 n0 L (1, (sy : Int), 0) = (dirtyR ms (xs.take k)).2 := by simp [dirtyS]
              have hso := Hsome.out
              rw [hsv, hss] at hso
              have hsp2 := Hstep.out ((1, (sy : Int), sv0) : T3)
              rw [HL.out, Hyl.out] at hsp2
              rw [Hyl.out] at hso
              obtain ⟨W, hW⟩ : ∃ W : World, W = wr.alloc (.cells #[.int .i64 1, .int .i64 (sy : Int), .int .i64 0] 53) := ⟨_, rfl⟩
              have AR2 : AtRun W w2.heap.size (.slice (some ⟨g, 0, none⟩) n cg) w3.heap.size n ((dirtyR ms (xs.take k)).1, (dirtyR ms (xs.take k)).2) es := by rw [hW]; exact (HAR.out.alloc _)
              have K10 : Blk W wr.heap.size 53 #[.int .i64 1, .int .i64 (sy : Int), .int .i64 0] := by rw [hW]; have := Blk.new wr 53 #[.int .i64 1, .int .i64 (sy : Int), .int .i64 0]; exact this
              have B10 : Below w2.heap.size w2 W := by rw [hW]; exact hbel.alloc hbel.size _
              have hWz : W.heap.size = wr.heap.size + 1 := by rw [hW]; simp
              have q1' : W.cell? ⟨bp, op + n0 * 2 + 1, none⟩ = some (.slice (some ⟨bs, os, none⟩) kk' d') := (B10.cell (p := ⟨bp, op + n0 * 2 + 1, none⟩) hbp).trans Hp1.out
              rw [← hW]
              have Hso := hide hso; have Hsp2 := hide hsp2
              clear hW hsv hss hso hsp2 a0 a1 a2 hsc0 hsf0 c1 c2 fz1 fz2 q0 q1 ho
              obtain ⟨d0, d1, d2⟩ := AR2.own.cells He.out
              have dz1 := AR2.own.free (n0 * 3 + 1)
              obtain ⟨s0, hs0, e0⟩ := AR2.store.cell sy (by omega)
              have hs0v : s0 = sv0 := by have := Hsv.out; rw [hs0] at this; injection this
              have e1' := e0
              rw [hs0v] at e1'
              clear e0 hs0v
              obtain ⟨k0', k1', k2'⟩ : W.cell? ⟨wr.heap.size, 0, none⟩ = some (.int .i64 1) ∧ W.cell? ⟨wr.heap.size, 1, none⟩ = some (.int .i64 (sy : Int)) ∧ W.cell? ⟨wr.heap.size, 2, none⟩ = some (.int .i64 0) := ⟨K10.cell 0, K10.cell 1, K10.cell 2⟩
              dsimp only at d1
              rw [HL.out] at d1
              have ho2 : O3 53 W w2.heap.size (.slice Au L cu) L t.2.1 := by have := AR2.own.own n0 _ He.out; dsimp only at this; rw [HL.out] at this; exact this
              have HK := hide K10; have HAR2 := hide AR2
              have hbase : w2.heap.size ≤ (W.drew.alloc (.cells #[.int .i64 1, .int .i64 (sy : Int), .int .i64 sv0] 53)).heap.size := by have := B10.size; simp; omega
              have KN := Blk.new W.drew 53 #[.int .i64 1, .int .i64 (sy : Int), .int .i64 sv0]
              have hgW : g < W.heap.size := by omega
              obtain ⟨csg, hKG⟩ : ∃ cs, Blk W g 35 cs := by
                rcases AR2.own.shape with ⟨h1, _⟩ | ⟨g', c', h1, _, _, _, _, cs, hb⟩
                · cases h1
                · injection h1 with h1; injection h1 with h1; injection h1 with h1; subst h1; exact ⟨cs, hb⟩
              have hcg := (hKG.cell (n0 * 3 + 1)).symm.trans d1
              have hcg2 := (hKG.cell (n0 * 3 + 2)).symm.trans d2
              dsimp only at hcg2
              have Hcg2 := hide hcg2; clear hcg2
              have hvl : Vals (dirtyR ms (xs.take k)).2 := Hval.out
              have HV := hide hvl; clear hvl
              have Hcg := hide hcg; have HKG := hide hKG
              have hne : (Value.slice Au L cu).ownBlock ≠ some g := by have := AR2.own.ne He.out (k := g) rfl; dsimp only at this; rw [HL.out] at this; exact this
              have Hne := hide hne
              clear hne hcg hKG K10 AR2 hs0
              have HWz := hide hWz; clear hWz
              have sy3 : (sy : Int) < 3 := by omega
              go_wp2_with fail
              obtain ⟨hgs1, hgs2⟩ : w3.heap.size < W.heap.size ∧ wr.heap.size < W.heap.size := by have := HWz.out; omega
              have hwg : wr.heap.size ≠ g := by omega
              have hwu : (Value.slice Au L cu).ownBlock ≠ some wr.heap.size := fun e => by have := (HAR2.out.own.own n0 _ He.out).lt wr.heap.size; dsimp only at this; rw [HL.out] at this; have h1 := (HAR.out.own.own n0 _ He.out).lt wr.heap.size; dsimp only at h1; rw [HL.out] at h1; have := h1 e; omega
              have hgu : (Value.slice Au L cu).ownBlock ≠ some w3.heap.size := fun e => by have := Hin.out; (try dsimp only at this); rw [HL.out] at this; exact this e
              have hc : ∀ W' : World, W'.heap[wr.heap.size]? = W.heap[wr.heap.size]? → W'.heap[w3.heap.size]? = W.heap[w3.heap.size]? → W'.cell? ⟨wr.heap.size, 0, none⟩ = some (.int .i64 1) ∧ W'.cell? ⟨wr.heap.size, 1, none⟩ = some (.int .i64 (sy : Int)) ∧ W'.cell? ⟨wr.heap.size, 2, none⟩ = some (.int .i64 0) ∧ W'.cell? ⟨w3.heap.size, sy, none⟩ = some (.int .i64 sv0) := fun W' h1 h2 =>
                ⟨(World.cell?_of_block h1).trans k0', (World.cell?_of_block h1).trans k1', (World.cell?_of_block h1).trans k2', (World.cell?_of_block h2).trans e1'⟩
              have HC := hide hc; have HWU := hide hwu; have HGU := hide hgu; have Hwg := hide hwg
              clear hc hwu hgu hwg
              refine wp_region_held_drew (S := (fun W' => W'.cell? ⟨wr.heap.size, 0, none⟩ = some (.int .i64 1) ∧ W'.cell? ⟨wr.heap.size, 1, none⟩ = some (.int .i64 (sy : Int)) ∧ W'.cell? ⟨wr.heap.size, 2, none⟩ = some (.int .i64 0) ∧ W'.cell? ⟨w3.heap.size, sy, none⟩ = some (.int .i64 sv0))) (by kernel_rfl) ?_ (fun hHeld => ?_)
              · exact HC.out _ rfl rfl
              refine wpAnyH_take (i := 0) (v := ?vvr1) (by rw [List.getElem?_toArray]; exact rfl) (by kernel_rfl) (by kernel_rfl) (by kernel_rfl) (by intro _ _ _ h; exact h) (Or.inl ⟨by rfl, ?hyr1⟩) hHeld ?restr1
              case' hyr1 => (intro w hSw; (try dsimp only at hSw); go_simp; try (with_reducible rfl))
              (try simp only [Act.put, List.setIfInBounds_toArray, List.set_cons_zero, List.set_cons_succ])
              refine wpAnyH_take (i := 1) (v := ?vvr2) (by rw [List.getElem?_toArray]; exact rfl) (by kernel_rfl) (by kernel_rfl) (by kernel_rfl) (by intro _ _ _ h; exact h) (Or.inl ⟨by rfl, ?hyr2⟩) hHeld ?restr2
              case' hyr2 => (intro w hSw; (try dsimp only at hSw); go_simp; try (with_reducible rfl))
              (try simp only [Act.put, List.setIfInBounds_toArray, List.set_cons_zero, List.set_cons_succ])
              refine wpAnyH_take (i := 2) (v := ?vvr3) (by rw [List.getElem?_toArray]; exact rfl) (by kernel_rfl) (by kernel_rfl) (by kernel_rfl) (by intro _ _ _ h; exact h) (Or.inl ⟨by rfl, ?hyr3⟩) hHeld ?restr3
              case' hyr3 => (intro w hSw; (try dsimp only at hSw); go_simp; try (with_reducible rfl))
              (try simp only [Act.put, List.setIfInBounds_toArray, List.set_cons_zero, List.set_cons_succ])
              refine wpAnyH_take (i := 3) (v := ?vvr4) (by rw [List.getElem?_toArray]; exact rfl) (by kernel_rfl) (by kernel_rfl) (by kernel_rfl) (by intro _ _ _ h; exact h) (Or.inl ⟨by rfl, ?hyr4⟩) hHeld ?restr4
              case' hyr4 => (intro w hSw; (try dsimp only at hSw); go_simp; try (with_reducible rfl))
              (try simp only [Act.put, List.setIfInBounds_toArray, List.set_cons_zero, List.set_cons_succ])
              refine wpAnyH_take (i := 4) (v := ?vvr5) (by rw [List.getElem?_toArray]; exact rfl) (by kernel_rfl) (by kernel_rfl) (by kernel_rfl) (by intro _ _ _ h; exact h) (Or.inl ⟨by rfl, ?hyr5⟩) hHeld ?restr5
              case' hyr5 => (intro w hSw; (try dsimp only at hSw); go_simp; try (with_reducible rfl))
              (try simp only [Act.put, List.setIfInBounds_toArray, List.set_cons_zero, List.set_cons_succ])
              refine wpAnyH_take (i := 5) (v := ?vvr6) (by rw [List.getElem?_toArray]; exact rfl) (by kernel_rfl) (by kernel_rfl) (by kernel_rfl) (by intro _ _ _ h; exact h) (Or.inl ⟨by rfl, ?hyr6⟩) hHeld ?restr6
              case' hyr6 => (intro w hSw; (try dsimp only at hSw); go_simp; try (with_reducible rfl))
              (try simp only [Act.put, List.setIfInBounds_toArray, List.set_cons_zero, List.set_cons_succ])
              refine wpAnyH_take (i := 7) (v := ?vvr7) (by rw [List.getElem?_toArray]; exact rfl) (by kernel_rfl) (by kernel_rfl) (by kernel_rfl) (by intro _ _ _ h; exact h) (Or.inl ⟨by rfl, ?hyr7⟩) hHeld ?restr7
              case' hyr7 => (intro w hSw; (try dsimp only at hSw); go_simp; try (with_reducible rfl))
              (try simp only [Act.put, List.setIfInBounds_toArray, List.set_cons_zero, List.set_cons_succ])
              refine wpAnyH_take (i := 8) (v := ?vvr8) (by rw [List.getElem?_toArray]; exact rfl) (by kernel_rfl) (by kernel_rfl) (by kernel_rfl) (by intro _ _ _ h; exact h) (Or.inl ⟨by rfl, ?hyr8⟩) hHeld ?restr8
              case' hyr8 => (intro w hSw; (try dsimp only at hSw); go_simp; try (with_reducible rfl))
              (try simp only [Act.put, List.setIfInBounds_toArray, List.set_cons_zero, List.set_cons_succ])
              refine wpAnyH_take (i := 9) (v := ?vvr9) (by rw [List.getElem?_toArray]; exact rfl) (by kernel_rfl) (by kernel_rfl) (by kernel_rfl) (by intro _ _ _ h; exact h) (Or.inl ⟨by rfl, ?hyr9⟩) hHeld ?restr9
              case' hyr9 => (intro w hSw; (try dsimp only at hSw); go_simp; try (with_reducible rfl))
              (try simp only [Act.put, List.setIfInBounds_toArray, List.set_cons_zero, List.set_cons_succ])
              refine wpAnyH_take (i := 10) (v := ?vvr10) (by rw [List.getElem?_toArray]; exact rfl) (by kernel_rfl) (by kernel_rfl) (by kernel_rfl) (by intro _ _ _ h; exact h) (Or.inl ⟨by rfl, ?hyr10⟩) hHeld ?restr10
              case' hyr10 => (intro w hSw; (try dsimp only at hSw); go_simp; try (with_reducible rfl))
              (try simp only [Act.put, List.setIfInBounds_toArray, List.set_cons_zero, List.set_cons_succ])
              refine wpAnyH_take (i := 11) (v := ?vvr11) (by rw [List.getElem?_toArray]; exact rfl) (by kernel_rfl) (by kernel_rfl) (by kernel_rfl) (by intro _ _ _ h; exact h) (Or.inl ⟨by rfl, ?hyr11⟩) hHeld ?restr11
              case' hyr11 => (intro w hSw; (try dsimp only at hSw); go_simp; try (with_reducible rfl))
              (try simp only [Act.put, List.setIfInBounds_toArray, List.set_cons_zero, List.set_cons_succ])
              refine wpAnyH_take (i := 12) (v := ?vvr12) (by rw [List.getElem?_toArray]; exact rfl) (by kernel_rfl) (by kernel_rfl) (by kernel_rfl) (by intro _ _ _ h; exact h) (Or.inl ⟨by rfl, ?hyr12⟩) hHeld ?restr12
              case' hyr12 => (intro w hSw; (try dsimp only at hSw); go_simp; try (with_reducible rfl))
              (try simp only [Act.put, List.setIfInBounds_toArray, List.set_cons_zero, List.set_cons_succ])
              refine wpAnyH_take (i := 13) (v := ?vvr13) (by rw [List.getElem?_toArray]; exact rfl) (by kernel_rfl) (by kernel_rfl) (by kernel_rfl) (by intro _ _ _ h; exact h) (Or.inl ⟨by rfl, ?hyr13⟩) hHeld ?restr13
              case' hyr13 => (intro w hSw; (try dsimp only at hSw); go_simp; try (with_reducible rfl))
              (try simp only [Act.put, List.setIfInBounds_toArray, List.set_cons_zero, List.set_cons_succ])
              refine wpAnyH_take (i := 14) (v := ?vvr14) (by rw [List.getElem?_toArray]; exact rfl) (by kernel_rfl) (by kernel_rfl) (by kernel_rfl) (by intro _ _ _ h; exact h) (Or.inl ⟨by rfl, ?hyr14⟩) hHeld ?restr14
              case' hyr14 => (intro w hSw; (try dsimp only at hSw); go_simp; try (with_reducible rfl))
              (try simp only [Act.put, List.setIfInBounds_toArray, List.set_cons_zero, List.set_cons_succ])
              refine wpAnyH_take (i := 15) (v := ?vvr15) (by rw [List.getElem?_toArray]; exact rfl) (by kernel_rfl) (by kernel_rfl) (by kernel_rfl) (by intro _ _ _ h; exact h) (Or.inl ⟨by rfl, ?hyr15⟩) hHeld ?restr15
              case' hyr15 => (intro w hSw; (try dsimp only at hSw); go_simp; try (with_reducible rfl))
              (try simp only [Act.put, List.setIfInBounds_toArray, List.set_cons_zero, List.set_cons_succ])
              refine wpAnyH_take (i := 16) (v := ?vvr16) (by rw [List.getElem?_toArray]; exact rfl) (by kernel_rfl) (by kernel_rfl) (by kernel_rfl) (by intro _ _ _ h; exact h) (Or.inl ⟨by rfl, ?hyr16⟩) hHeld ?restr16
              case' hyr16 => (intro w hSw; (try dsimp only at hSw); go_simp; try (with_reducible rfl))
              (try simp only [Act.put, List.setIfInBounds_toArray, List.set_cons_zero, List.set_cons_succ])
              refine wpAnyH_ready (rs := [6, 17]) (by kernel_rfl) (by simp) ?_
              refine AllReadyH.cons (by rw [List.getElem?_toArray]; exact rfl) (fun K hK => ?_) ?_
              · skip
                go_simp
                refine hK.out _ _ ?_ (fun hHeld => ?_)
                · first | exact HC.out _ rfl rfl | exact HC.out _ (Below.heap_alloc W (.cells #[.int .i64 1, .int .i64 (sy : Int), .int .i64 sv0] 53) _ hgs2) (Below.heap_alloc W (.cells #[.int .i64 1, .int .i64 (sy : Int), .int .i64 sv0] 53) _ hgs1)
                clear hK K
                (try simp only [Act.put, List.setIfInBounds_toArray, List.set_cons_zero, List.set_cons_succ])
                refine wpAnyH_ready (rs := [17]) (by kernel_rfl) (by simp) ?_
                refine AllReadyH.cons (by rw [List.getElem?_toArray]; exact rfl) (fun K hK => ?_) AllReadyH.nil
                go_simp
                refine hK.out _ _ ?_ (fun hHeld => ?_)
                · exact HC.out _ (Below.heap_alloc W (.cells #[.int .i64 1, .int .i64 (sy : Int), .int .i64 sv0] 53) _ hgs2) (Below.heap_alloc W (.cells #[.int .i64 1, .int .i64 (sy : Int), .int .i64 sv0] 53) _ hgs1)
                clear hK K
                (try simp only [Act.put, List.setIfInBounds_toArray, List.set_cons_zero, List.set_cons_succ])
                refine wpAnyH_ready (rs := [18]) (by kernel_rfl) (by simp) ?_
                refine AllReadyH.cons (by rw [List.getElem?_toArray]; exact rfl) (fun K hK => ?_) AllReadyH.nil
                refine step_app3 (by rfl) (.tmp 75) (.tmp 86) (by rfl) (by rfl) (ho2.drew.alloc _) (by rfl) (S3.one KN (Nat.le_refl _)) (by omega) hbase ?_
                intro v' w' ho' hg' hat'
                obtain ⟨Av, cv, rfl⟩ := ho'.shape
                have hcw := ((HKG.out.drew.alloc (.cells #[.int .i64 1, .int .i64 (sy : Int), .int .i64 sv0] 53)).grown hg' (fun e => Hne.out e.symm))
                have cw := (hcw.cell (n0 * 3 + 1)).trans Hcg.out
                have fw := hcw.frozen (n0 * 3 + 1)
                refine hK.out _ _ ?_ (fun hHeld => ?_)
                · exact HC.out _ ((hg'.block _ (by simp; omega) (fun e => HWU.out e.symm)).trans (Below.heap_alloc W (.cells #[.int .i64 1, .int .i64 (sy : Int), .int .i64 sv0] 53) _ hgs2)) ((hg'.block _ (by simp; omega) (fun e => HGU.out e.symm)).trans (Below.heap_alloc W (.cells #[.int .i64 1, .int .i64 (sy : Int), .int .i64 sv0] 53) _ hgs1))
                clear hK K
                (try simp only [Act.put, List.setIfInBounds_toArray, List.set_cons_zero, List.set_cons_succ])
                refine wpAnyH_take (i := 19) (v := ?vvr17) (by rw [List.getElem?_toArray]; exact rfl) (by kernel_rfl) (by kernel_rfl) (by kernel_rfl) (by intro _ _ _ h; exact h) (Or.inl ⟨by rfl, ?hyr17⟩) hHeld ?restr17
                case' hyr17 => (intro w hSw; (try dsimp only at hSw); go_simp; try (with_reducible rfl))
                (try simp only [Act.put, List.setIfInBounds_toArray, List.set_cons_zero, List.set_cons_succ])
                refine wpAnyH_take (i := 20) (v := ?vvr18) (by rw [List.getElem?_toArray]; exact rfl) (by kernel_rfl) (by kernel_rfl) (by kernel_rfl) (by intro _ _ _ h; exact h) (Or.inl ⟨by rfl, ?hyr18⟩) hHeld ?restr18
                case' hyr18 => (intro w hSw; (try dsimp only at hSw); go_simp; try (with_reducible rfl))
                (try simp only [Act.put, List.setIfInBounds_toArray, List.set_cons_zero, List.set_cons_succ])
                refine wpAnyH_ready (rs := [21]) (by kernel_rfl) (by simp) ?_
                refine AllReadyH.cons (by rw [List.getElem?_toArray]; exact rfl) (fun K hK => ?_) AllReadyH.nil
                go_simp
                refine hK.out _ _ ?_ (fun hHeld => ?_)
                · exact HC.out _ ((Below.heap_setCell _ ⟨g, n0 * 3 + 1, none⟩ _ _ Hwg.out).trans ((hg'.block _ (by simp; omega) (fun e => HWU.out e.symm)).trans (Below.heap_alloc W (.cells #[.int .i64 1, .int .i64 (sy : Int), .int .i64 sv0] 53) _ hgs2))) ((Below.heap_setCell _ ⟨g, n0 * 3 + 1, none⟩ _ _ hgg.symm).trans ((hg'.block _ (by simp; omega) (fun e => HGU.out e.symm)).trans (Below.heap_alloc W (.cells #[.int .i64 1, .int .i64 (sy : Int), .int .i64 sv0] 53) _ hgs1)))
                clear hK K
                (try simp only [Act.put, List.setIfInBounds_toArray, List.set_cons_zero, List.set_cons_succ])
                refine wpAnyH_done (by kernel_rfl) ?_ _
                have B11 := below_app3 (B10.drew.alloc (by have := B10.size; simpa using this) (.cells #[.int .i64 1, .int .i64 (sy : Int), .int .i64 sv0] 53)) (ho2.drew.alloc _) (Nat.le_refl _) hg'
                have qL : (w'.setCell ⟨g, n0 * 3 + 1, none⟩ (.slice Av (L + 1) cv)).cell? ⟨bp, op + n0 * 2 + 1, none⟩ = some (.slice (some ⟨bs, os, none⟩) kk' d') := (World.cell?_setCell_far _ ⟨g, n0 * 3 + 1, none⟩ ⟨bp, op + n0 * 2 + 1, none⟩ _ (by show g ≠ bp; omega)).trans ((B11.cell (p := ⟨bp, op + n0 * 2 + 1, none⟩) hbp).trans Hp1.out)
                have hcL := hcw.set_ (n0 * 3 + 1) (.slice Av (L + 1) cv)
                have cL : (w'.setCell ⟨g, n0 * 3 + 1, none⟩ (.slice Av (L + 1) cv)).cell? ⟨g, n0 * 3 + 2, none⟩ = some (.bool t.2.2) := (hcL.cell (n0 * 3 + 2)).trans ((Array.getElem?_setIfInBounds_ne (by omega)).trans Hcg2.out)
                have fL := hcL.frozen (n0 * 3 + 2)
                have HCW := hide hcw
                have HHO := hide ho'; have HHG := hide hg'; have HHA := hide hat'
                clear hcL hcw cw fw k0' k1' k2' e1' d0 d1 d2 dz1 q1'
                go_wp2_with fail
                go_roundw
                case rel =>
                  have hgg' : (W.drew.alloc (.cells #[.int .i64 1, .int .i64 (sy : Int), .int .i64 sv0] 53)).grownBy w' (Value.slice Au t.2.1.length cu).ownBlock := by rw [HL.out]; exact HHG.out
                  have hha' : (Value.slice Av (L + 1) cv).ownBlock = (Value.slice Au t.2.1.length cu).ownBlock ∨ (Value.slice Av (L + 1) cv).ownBlock = some (W.drew.alloc (.cells #[.int .i64 1, .int .i64 (sy : Int), .int .i64 sv0] 53)).heap.size := by rw [HL.out]; exact HHA.out
                  have AR3 := ((HAR2.out.drew.alloc (.cells #[.int .i64 1, .int .i64 (sy : Int), .int .i64 sv0] 53)).add He.out hgg' HHO.out hha' (decide (L + 1 = kk')))
                  have hdd : (((L : Int) + 1 == (kk' : Int)) : Bool) = decide (L + 1 = kk') := by rw [Bool.eq_iff_iff, decide_eq_true_iff, beq_iff_eq]; omega
                  have AR4 := hide AR3
                  clear AR3 hgg' hha'
                  refine ⟨k + 1, es.set n0 (t.1, (.slice Av (L + 1) cv, L + 1, flat3 (t.2.1 ++ [((1, (sy : Int), sv0) : T3)])), decide (L + 1 = kk')), by go_num, by omega, ?_, ?_, ?_, ?_⟩
                  · rw [Hdr.out, Hso.out, hdd]
                    exact AR4.out
                  · rw [Hdr.out, Hso.out]; exact Hsp2.out
                  · rw [Hdr.out, Hso.out]; exact HV.out
                  · exact (B11.setCell (p := ⟨g, n0 * 3 + 1, none⟩) hlg _).setCell (p := ⟨g, n0 * 3 + 2, none⟩) hlg _
                case measure => simp [intOf]; omega
              refine AllReadyH.cons (by rw [List.getElem?_toArray]; exact rfl) (fun K hK => ?_) AllReadyH.nil
              go_simp
              refine hK.out _ _ ?_ (fun hHeld => ?_)
              · exact HC.out _ (Below.heap_alloc W (.cells #[.int .i64 1, .int .i64 (sy : Int), .int .i64 sv0] 53) _ hgs2) (Below.heap_alloc W (.cells #[.int .i64 1, .int .i64 (sy : Int), .int .i64 sv0] 53) _ hgs1)
              clear hK K
              (try simp only [Act.put, List.setIfInBounds_toArray, List.set_cons_zero, List.set_cons_succ])
              refine wpAnyH_ready (rs := [6]) (by kernel_rfl) (by simp) ?_
              refine AllReadyH.cons (by rw [List.getElem?_toArray]; exact rfl) (fun K hK => ?_) AllReadyH.nil
              go_simp
              refine hK.out _ _ ?_ (fun hHeld => ?_)
              · first | exact HC.out _ rfl rfl | exact HC.out _ (Below.heap_alloc W (.cells #[.int .i64 1, .int .i64 (sy : Int), .int .i64 sv0] 53) _ hgs2) (Below.heap_alloc W (.cells #[.int .i64 1, .int .i64 (sy : Int), .int .i64 sv0] 53) _ hgs1)
              clear hK K
              (try simp only [Act.put, List.setIfInBounds_toArray, List.set_cons_zero, List.set_cons_succ])
              refine wpAnyH_ready (rs := [18]) (by kernel_rfl) (by simp) ?_
              refine AllReadyH.cons (by rw [List.getElem?_toArray]; exact rfl) (fun K hK => ?_) AllReadyH.nil
              refine step_app3 (by rfl) (.tmp 75) (.tmp 86) (by rfl) (by rfl) (ho2.drew.alloc _) (by rfl) (S3.one KN (Nat.le_refl _)) (by omega) hbase ?_
              intro v' w' ho' hg' hat'
              obtain ⟨Av, cv, rfl⟩ := ho'.shape
              have hcw := ((HKG.out.drew.alloc (.cells #[.int .i64 1, .int .i64 (sy : Int), .int .i64 sv0] 53)).grown hg' (fun e => Hne.out e.symm))
              have cw := (hcw.cell (n0 * 3 + 1)).trans Hcg.out
              have fw := hcw.frozen (n0 * 3 + 1)
              refine hK.out _ _ ?_ (fun hHeld => ?_)
              · exact HC.out _ ((hg'.block _ (by simp; omega) (fun e => HWU.out e.symm)).trans (Below.heap_alloc W (.cells #[.int .i64 1, .int .i64 (sy : Int), .int .i64 sv0] 53) _ hgs2)) ((hg'.block _ (by simp; omega) (fun e => HGU.out e.symm)).trans (Below.heap_alloc W (.cells #[.int .i64 1, .int .i64 (sy : Int), .int .i64 sv0] 53) _ hgs1))
              clear hK K
              (try simp only [Act.put, List.setIfInBounds_toArray, List.set_cons_zero, List.set_cons_succ])
              refine wpAnyH_take (i := 19) (v := ?vvr19) (by rw [List.getElem?_toArray]; exact rfl) (by kernel_rfl) (by kernel_rfl) (by kernel_rfl) (by intro _ _ _ h; exact h) (Or.inl ⟨by rfl, ?hyr19⟩) hHeld ?restr19
              case' hyr19 => (intro w hSw; (try dsimp only at hSw); go_simp; try (with_reducible rfl))
              (try simp only [Act.put, List.setIfInBounds_toArray, List.set_cons_zero, List.set_cons_succ])
              refine wpAnyH_take (i := 20) (v := ?vvr20) (by rw [List.getElem?_toArray]; exact rfl) (by kernel_rfl) (by kernel_rfl) (by kernel_rfl) (by intro _ _ _ h; exact h) (Or.inl ⟨by rfl, ?hyr20⟩) hHeld ?restr20
              case' hyr20 => (intro w hSw; (try dsimp only at hSw); go_simp; try (with_reducible rfl))
              (try simp only [Act.put, List.setIfInBounds_toArray, List.set_cons_zero, List.set_cons_succ])
              refine wpAnyH_ready (rs := [21]) (by kernel_rfl) (by simp) ?_
              refine AllReadyH.cons (by rw [List.getElem?_toArray]; exact rfl) (fun K hK => ?_) AllReadyH.nil
              go_simp
              refine hK.out _ _ ?_ (fun hHeld => ?_)
              · exact HC.out _ ((Below.heap_setCell _ ⟨g, n0 * 3 + 1, none⟩ _ _ Hwg.out).trans ((hg'.block _ (by simp; omega) (fun e => HWU.out e.symm)).trans (Below.heap_alloc W (.cells #[.int .i64 1, .int .i64 (sy : Int), .int .i64 sv0] 53) _ hgs2))) ((Below.heap_setCell _ ⟨g, n0 * 3 + 1, none⟩ _ _ hgg.symm).trans ((hg'.block _ (by simp; omega) (fun e => HGU.out e.symm)).trans (Below.heap_alloc W (.cells #[.int .i64 1, .int .i64 (sy : Int), .int .i64 sv0] 53) _ hgs1)))
              clear hK K
              (try simp only [Act.put, List.setIfInBounds_toArray, List.set_cons_zero, List.set_cons_succ])
              refine wpAnyH_done (by kernel_rfl) ?_ _
              have B11 := below_app3 (B10.drew.alloc (by have := B10.size; simpa using this) (.cells #[.int .i64 1, .int .i64 (sy : Int), .int .i64 sv0] 53)) (ho2.drew.alloc _) (Nat.le_refl _) hg'
              have qL : (w'.setCell ⟨g, n0 * 3 + 1, none⟩ (.slice Av (L + 1) cv)).cell? ⟨bp, op + n0 * 2 + 1, none⟩ = some (.slice (some ⟨bs, os, none⟩) kk' d') := (World.cell?_setCell_far _ ⟨g, n0 * 3 + 1, none⟩ ⟨bp, op + n0 * 2 + 1, none⟩ _ (by show g ≠ bp; omega)).trans ((B11.cell (p := ⟨bp, op + n0 * 2 + 1, none⟩) hbp).trans Hp1.out)
              have hcL := hcw.set_ (n0 * 3 + 1) (.slice Av (L + 1) cv)
              have cL : (w'.setCell ⟨g, n0 * 3 + 1, none⟩ (.slice Av (L + 1) cv)).cell? ⟨g, n0 * 3 + 2, none⟩ = some (.bool t.2.2) := (hcL.cell (n0 * 3 + 2)).trans ((Array.getElem?_setIfInBounds_ne (by omega)).trans Hcg2.out)
              have fL := hcL.frozen (n0 * 3 + 2)
              have HCW := hide hcw
              have HHO := hide ho'; have HHG := hide hg'; have HHA := hide hat'
              clear hcL hcw cw fw k0' k1' k2' e1' d0 d1 d2 dz1 q1'
              go_wp2_with fail
              go_roundw
              case rel =>
                have hgg' : (W.drew.alloc (.cells #[.int .i64 1, .int .i64 (sy : Int), .int .i64 sv0] 53)).grownBy w' (Value.slice Au t.2.1.length cu).ownBlock := by rw [HL.out]; exact HHG.out
                have hha' : (Value.slice Av (L + 1) cv).ownBlock = (Value.slice Au t.2.1.length cu).ownBlock ∨ (Value.slice Av (L + 1) cv).ownBlock = some (W.drew.alloc (.cells #[.int .i64 1, .int .i64 (sy : Int), .int .i64 sv0] 53)).heap.size := by rw [HL.out]; exact HHA.out
                have AR3 := ((HAR2.out.drew.alloc (.cells #[.int .i64 1, .int .i64 (sy : Int), .int .i64 sv0] 53)).add He.out hgg' HHO.out hha' (decide (L + 1 = kk')))
                have hdd : (((L : Int) + 1 == (kk' : Int)) : Bool) = decide (L + 1 = kk') := by rw [Bool.eq_iff_iff, decide_eq_true_iff, beq_iff_eq]; omega
                have AR4 := hide AR3
                clear AR3 hgg' hha'
                refine ⟨k + 1, es.set n0 (t.1, (.slice Av (L + 1) cv, L + 1, flat3 (t.2.1 ++ [((1, (sy : Int), sv0) : T3)])), decide (L + 1 = kk')), by go_num, by omega, ?_, ?_, ?_, ?_⟩
                · rw [Hdr.out, Hso.out, hdd]
                  exact AR4.out
                · rw [Hdr.out, Hso.out]; exact Hsp2.out
                · rw [Hdr.out, Hso.out]; exact HV.out
                · exact (B11.setCell (p := ⟨g, n0 * 3 + 1, none⟩) hlg _).setCell (p := ⟨g, n0 * 3 + 2, none⟩) hlg _
              case measure => simp [intOf]; omega
            · have sy3 : (sy : Int) < 3 := by omega
              have hb14 : (wr.alloc (.cells #[.int .i64 2, .int .i64 (sy : Int), .int .i64 0] 53)).drew.cell? ⟨wr.heap.size, 1, none⟩ = some (.int .i64 (sy : Int)) := (Blk.new wr 53 #[.int .i64 2, .int .i64 (sy : Int), .int .i64 0]).cell 1
              have hb14b : ((wr.setCell ⟨w3.heap.size, sy, none⟩ (.int .i64 (valOf n0 L))).alloc (.cells #[.int .i64 2, .int .i64 (sy : Int), .int .i64 0] 53)).drew.cell? ⟨wr.heap.size, 1, none⟩ = some (.int .i64 (sy : Int)) := by have := (Blk.new (wr.setCell ⟨w3.heap.size, sy, none⟩ (.int .i64 (valOf n0 L))) 53 #[.int .i64 2, .int .i64 (sy : Int), .int .i64 0]).cell 1; rw [size_setCell] at this; exact this
              go_wp2_with fail
              refine wp_region_held_drew (S := (fun W' => W'.cell? ⟨wr.heap.size, 1, none⟩ = some (.int .i64 (sy : Int)))) (by kernel_rfl) ?_ (fun hHeld => ?_)
              · exact hb14
              refine wpAnyH_take (i := 0) (v := ?vvs21) (by rw [List.getElem?_toArray]; exact rfl) (by kernel_rfl) (by kernel_rfl) (by kernel_rfl) (by intro _ _ _ h; exact h) (Or.inl ⟨by rfl, ?hys21⟩) hHeld ?rests21
              case' hys21 => (intro w hSw; (try dsimp only at hSw); go_simp; try (with_reducible rfl))
              (try simp only [Act.put, List.setIfInBounds_toArray, List.set_cons_zero, List.set_cons_succ])
              refine wpAnyH_take (i := 1) (v := ?vvs22) (by rw [List.getElem?_toArray]; exact rfl) (by kernel_rfl) (by kernel_rfl) (by kernel_rfl) (by intro _ _ _ h; exact h) (Or.inl ⟨by rfl, ?hys22⟩) hHeld ?rests22
              case' hys22 => (intro w hSw; (try dsimp only at hSw); go_simp; try (with_reducible rfl))
              (try simp only [Act.put, List.setIfInBounds_toArray, List.set_cons_zero, List.set_cons_succ])
              refine wpAnyH_take (i := 2) (v := ?vvs23) (by rw [List.getElem?_toArray]; exact rfl) (by kernel_rfl) (by kernel_rfl) (by kernel_rfl) (by intro _ _ _ h; exact h) (Or.inl ⟨by rfl, ?hys23⟩) hHeld ?rests23
              case' hys23 => (intro w hSw; (try dsimp only at hSw); go_simp; try (with_reducible rfl))
              (try simp only [Act.put, List.setIfInBounds_toArray, List.set_cons_zero, List.set_cons_succ])
              refine wpAnyH_take (i := 3) (v := ?vvs24) (by rw [List.getElem?_toArray]; exact rfl) (by kernel_rfl) (by kernel_rfl) (by kernel_rfl) (by intro _ _ _ h; exact h) (Or.inl ⟨by rfl, ?hys24⟩) hHeld ?rests24
              case' hys24 => (intro w hSw; (try dsimp only at hSw); go_simp; try (with_reducible rfl))
              (try simp only [Act.put, List.setIfInBounds_toArray, List.set_cons_zero, List.set_cons_succ])
              refine wpAnyH_take (i := 4) (v := ?vvs25) (by rw [List.getElem?_toArray]; exact rfl) (by kernel_rfl) (by kernel_rfl) (by kernel_rfl) (by intro _ _ _ h; exact h) (Or.inl ⟨by rfl, ?hys25⟩) hHeld ?rests25
              case' hys25 => (intro w hSw; (try dsimp only at hSw); go_simp; try (with_reducible rfl))
              (try simp only [Act.put, List.setIfInBounds_toArray, List.set_cons_zero, List.set_cons_succ])
              refine wpAnyH_ready (rs := [5]) (by kernel_rfl) (by simp) ?_
              refine AllReadyH.cons (by rw [List.getElem?_toArray]; exact rfl) (fun K hK => ?_) AllReadyH.nil
              go_simp
              go_at_call 35; refine (l17Value_c hn04 hL4).mono ?_
              rintro e w' ⟨rfl, rfl⟩
              go_simp
              refine hK.out _ _ ?_ (fun hHeld => ?_)
              · exact hb14
              clear hK K
              (try simp only [Act.put, List.setIfInBounds_toArray, List.set_cons_zero, List.set_cons_succ])
              refine wpAnyH_take (i := 6) (v := ?vvs26) (by rw [List.getElem?_toArray]; exact rfl) (by kernel_rfl) (by kernel_rfl) (by kernel_rfl) (by intro _ _ _ h; exact h) (Or.inl ⟨by rfl, ?hys26⟩) hHeld ?rests26
              case' hys26 => (intro w hSw; (try dsimp only at hSw); go_simp; try (with_reducible rfl))
              (try simp only [Act.put, List.setIfInBounds_toArray, List.set_cons_zero, List.set_cons_succ])
              refine wpAnyH_ready (rs := [7]) (by kernel_rfl) (by simp) ?_
              refine AllReadyH.cons (by rw [List.getElem?_toArray]; exact rfl) (fun K hK => ?_) AllReadyH.nil
              go_simp
              refine hK.out _ _ ?_ (fun hHeld => ?_)
              · exact hb14b
              clear hK K
              (try simp only [Act.put, List.setIfInBounds_toArray, List.set_cons_zero, List.set_cons_succ])
              refine wpAnyH_done (by kernel_rfl) ?_ _
              clear hb14 hb14b
              go_wp2_with fail
              have hsv : dirtyV (dirtyR ms (xs.take k)).2 n0 L (2, (sy : Int), 0) = (valOf n0 L) := by simp [dirtyV]
              have hss : dirtyS (dirtyR ms (xs.take k)).2 n0 L (2, (sy : Int), 0) = ((dirtyR ms (xs.take k)).2.set sy (valOf n0 L)) := by simp [dirtyS]
              have hso := Hsome.out
              rw [hsv, hss] at hso
              have hsp2 := Hstep.out ((2, (sy : Int), (valOf n0 L)) : T3)
              rw [HL.out, Hyl.out] at hsp2
              rw [Hyl.out] at hso
              obtain ⟨W, hW⟩ : ∃ W : World, W = ((wr.setCell ⟨w3.heap.size, sy, none⟩ (.int .i64 (valOf n0 L))).alloc (.cells #[.int .i64 2, .int .i64 (sy : Int), .int .i64 0] 53)).drew := ⟨_, rfl⟩
              have AR2 : AtRun W w2.heap.size (.slice (some ⟨g, 0, none⟩) n cg) w3.heap.size n ((dirtyR ms (xs.take k)).1, ((dirtyR ms (xs.take k)).2.set sy (valOf n0 L))) es := by rw [hW]; exact ((HAR.out.put sy (valOf n0 L)).alloc _).drew
              have K10 : Blk W wr.heap.size 53 #[.int .i64 2, .int .i64 (sy : Int), .int .i64 0] := by rw [hW]; have := Blk.new (wr.setCell ⟨w3.heap.size, sy, none⟩ (.int .i64 (valOf n0 L))) 53 #[.int .i64 2, .int .i64 (sy : Int), .int .i64 0]; rw [size_setCell] at this; exact this
              have B10 : Below w2.heap.size w2 W := by rw [hW]; exact ((hbel.setCell (p := ⟨w3.heap.size, sy, none⟩) b3.size _).alloc (by simp [World.setCell]; exact hbel.size) _).drew
              have hWz : W.heap.size = wr.heap.size + 1 := by rw [hW]; simp [World.setCell]
              have q1' : W.cell? ⟨bp, op + n0 * 2 + 1, none⟩ = some (.slice (some ⟨bs, os, none⟩) kk' d') := (B10.cell (p := ⟨bp, op + n0 * 2 + 1, none⟩) hbp).trans Hp1.out
              rw [← hW]
              have Hso := hide hso; have Hsp2 := hide hsp2
              clear hW hsv hss hso hsp2 a0 a1 a2 hsc0 hsf0 c1 c2 fz1 fz2 q0 q1 ho
              obtain ⟨d0, d1, d2⟩ := AR2.own.cells He.out
              have dz1 := AR2.own.free (n0 * 3 + 1)
              obtain ⟨s0, hs0, e0⟩ := AR2.store.cell sy (by omega)
              have hs0v : s0 = (valOf n0 L) := by have := (List.getElem?_set_self (show sy < (dirtyR ms (xs.take k)).2.length by rw [Hval.out.1]; omega) : ((dirtyR ms (xs.take k)).2.set sy (valOf n0 L))[sy]? = some (valOf n0 L)); rw [hs0] at this; injection this
              have e1' := e0
              rw [hs0v] at e1'
              clear e0 hs0v
              obtain ⟨k0', k1', k2'⟩ : W.cell? ⟨wr.heap.size, 0, none⟩ = some (.int .i64 2) ∧ W.cell? ⟨wr.heap.size, 1, none⟩ = some (.int .i64 (sy : Int)) ∧ W.cell? ⟨wr.heap.size, 2, none⟩ = some (.int .i64 0) := ⟨K10.cell 0, K10.cell 1, K10.cell 2⟩
              dsimp only at d1
              rw [HL.out] at d1
              have ho2 : O3 53 W w2.heap.size (.slice Au L cu) L t.2.1 := by have := AR2.own.own n0 _ He.out; dsimp only at this; rw [HL.out] at this; exact this
              have HK := hide K10; have HAR2 := hide AR2
              have hbase : w2.heap.size ≤ (W.drew.alloc (.cells #[.int .i64 2, .int .i64 (sy : Int), .int .i64 (valOf n0 L)] 53)).heap.size := by have := B10.size; simp; omega
              have KN := Blk.new W.drew 53 #[.int .i64 2, .int .i64 (sy : Int), .int .i64 (valOf n0 L)]
              have hgW : g < W.heap.size := by omega
              obtain ⟨csg, hKG⟩ : ∃ cs, Blk W g 35 cs := by
                rcases AR2.own.shape with ⟨h1, _⟩ | ⟨g', c', h1, _, _, _, _, cs, hb⟩
                · cases h1
                · injection h1 with h1; injection h1 with h1; injection h1 with h1; subst h1; exact ⟨cs, hb⟩
              have hcg := (hKG.cell (n0 * 3 + 1)).symm.trans d1
              have hcg2 := (hKG.cell (n0 * 3 + 2)).symm.trans d2
              dsimp only at hcg2
              have Hcg2 := hide hcg2; clear hcg2
              have hvl : Vals ((dirtyR ms (xs.take k)).2.set sy (valOf n0 L)) := Hval.out.set_ sy (valOf_bd hn04 hL4)
              have HV := hide hvl; clear hvl
              have Hcg := hide hcg; have HKG := hide hKG
              have hne : (Value.slice Au L cu).ownBlock ≠ some g := by have := AR2.own.ne He.out (k := g) rfl; dsimp only at this; rw [HL.out] at this; exact this
              have Hne := hide hne
              clear hne hcg hKG K10 AR2 hs0
              have HWz := hide hWz; clear hWz
              have sy3 : (sy : Int) < 3 := by omega
              go_wp2_with fail
              obtain ⟨hgs1, hgs2⟩ : w3.heap.size < W.heap.size ∧ wr.heap.size < W.heap.size := by have := HWz.out; omega
              have hwg : wr.heap.size ≠ g := by omega
              have hwu : (Value.slice Au L cu).ownBlock ≠ some wr.heap.size := fun e => by have := (HAR2.out.own.own n0 _ He.out).lt wr.heap.size; dsimp only at this; rw [HL.out] at this; have h1 := (HAR.out.own.own n0 _ He.out).lt wr.heap.size; dsimp only at h1; rw [HL.out] at h1; have := h1 e; omega
              have hgu : (Value.slice Au L cu).ownBlock ≠ some w3.heap.size := fun e => by have := Hin.out; (try dsimp only at this); rw [HL.out] at this; exact this e
              have hc : ∀ W' : World, W'.heap[wr.heap.size]? = W.heap[wr.heap.size]? → W'.heap[w3.heap.size]? = W.heap[w3.heap.size]? → W'.cell? ⟨wr.heap.size, 0, none⟩ = some (.int .i64 2) ∧ W'.cell? ⟨wr.heap.size, 1, none⟩ = some (.int .i64 (sy : Int)) ∧ W'.cell? ⟨wr.heap.size, 2, none⟩ = some (.int .i64 0) ∧ W'.cell? ⟨w3.heap.size, sy, none⟩ = some (.int .i64 (valOf n0 L)) := fun W' h1 h2 =>
                ⟨(World.cell?_of_block h1).trans k0', (World.cell?_of_block h1).trans k1', (World.cell?_of_block h1).trans k2', (World.cell?_of_block h2).trans e1'⟩
              have HC := hide hc; have HWU := hide hwu; have HGU := hide hgu; have Hwg := hide hwg
              clear hc hwu hgu hwg
              refine wp_region_held_drew (S := (fun W' => W'.cell? ⟨wr.heap.size, 0, none⟩ = some (.int .i64 2) ∧ W'.cell? ⟨wr.heap.size, 1, none⟩ = some (.int .i64 (sy : Int)) ∧ W'.cell? ⟨wr.heap.size, 2, none⟩ = some (.int .i64 0) ∧ W'.cell? ⟨w3.heap.size, sy, none⟩ = some (.int .i64 (valOf n0 L)))) (by kernel_rfl) ?_ (fun hHeld => ?_)
              · exact HC.out _ rfl rfl
              refine wpAnyH_take (i := 0) (v := ?vvr27) (by rw [List.getElem?_toArray]; exact rfl) (by kernel_rfl) (by kernel_rfl) (by kernel_rfl) (by intro _ _ _ h; exact h) (Or.inl ⟨by rfl, ?hyr27⟩) hHeld ?restr27
              case' hyr27 => (intro w hSw; (try dsimp only at hSw); go_simp; try (with_reducible rfl))
              (try simp only [Act.put, List.setIfInBounds_toArray, List.set_cons_zero, List.set_cons_succ])
              refine wpAnyH_take (i := 1) (v := ?vvr28) (by rw [List.getElem?_toArray]; exact rfl) (by kernel_rfl) (by kernel_rfl) (by kernel_rfl) (by intro _ _ _ h; exact h) (Or.inl ⟨by rfl, ?hyr28⟩) hHeld ?restr28
              case' hyr28 => (intro w hSw; (try dsimp only at hSw); go_simp; try (with_reducible rfl))
              (try simp only [Act.put, List.setIfInBounds_toArray, List.set_cons_zero, List.set_cons_succ])
              refine wpAnyH_take (i := 2) (v := ?vvr29) (by rw [List.getElem?_toArray]; exact rfl) (by kernel_rfl) (by kernel_rfl) (by kernel_rfl) (by intro _ _ _ h; exact h) (Or.inl ⟨by rfl, ?hyr29⟩) hHeld ?restr29
              case' hyr29 => (intro w hSw; (try dsimp only at hSw); go_simp; try (with_reducible rfl))
              (try simp only [Act.put, List.setIfInBounds_toArray, List.set_cons_zero, List.set_cons_succ])
              refine wpAnyH_take (i := 3) (v := ?vvr30) (by rw [List.getElem?_toArray]; exact rfl) (by kernel_rfl) (by kernel_rfl) (by kernel_rfl) (by intro _ _ _ h; exact h) (Or.inl ⟨by rfl, ?hyr30⟩) hHeld ?restr30
              case' hyr30 => (intro w hSw; (try dsimp only at hSw); go_simp; try (with_reducible rfl))
              (try simp only [Act.put, List.setIfInBounds_toArray, List.set_cons_zero, List.set_cons_succ])
              refine wpAnyH_take (i := 4) (v := ?vvr31) (by rw [List.getElem?_toArray]; exact rfl) (by kernel_rfl) (by kernel_rfl) (by kernel_rfl) (by intro _ _ _ h; exact h) (Or.inl ⟨by rfl, ?hyr31⟩) hHeld ?restr31
              case' hyr31 => (intro w hSw; (try dsimp only at hSw); go_simp; try (with_reducible rfl))
              (try simp only [Act.put, List.setIfInBounds_toArray, List.set_cons_zero, List.set_cons_succ])
              refine wpAnyH_take (i := 5) (v := ?vvr32) (by rw [List.getElem?_toArray]; exact rfl) (by kernel_rfl) (by kernel_rfl) (by kernel_rfl) (by intro _ _ _ h; exact h) (Or.inl ⟨by rfl, ?hyr32⟩) hHeld ?restr32
              case' hyr32 => (intro w hSw; (try dsimp only at hSw); go_simp; try (with_reducible rfl))
              (try simp only [Act.put, List.setIfInBounds_toArray, List.set_cons_zero, List.set_cons_succ])
              refine wpAnyH_take (i := 7) (v := ?vvr33) (by rw [List.getElem?_toArray]; exact rfl) (by kernel_rfl) (by kernel_rfl) (by kernel_rfl) (by intro _ _ _ h; exact h) (Or.inl ⟨by rfl, ?hyr33⟩) hHeld ?restr33
              case' hyr33 => (intro w hSw; (try dsimp only at hSw); go_simp; try (with_reducible rfl))
              (try simp only [Act.put, List.setIfInBounds_toArray, List.set_cons_zero, List.set_cons_succ])
              refine wpAnyH_take (i := 8) (v := ?vvr34) (by rw [List.getElem?_toArray]; exact rfl) (by kernel_rfl) (by kernel_rfl) (by kernel_rfl) (by intro _ _ _ h; exact h) (Or.inl ⟨by rfl, ?hyr34⟩) hHeld ?restr34
              case' hyr34 => (intro w hSw; (try dsimp only at hSw); go_simp; try (with_reducible rfl))
              (try simp only [Act.put, List.setIfInBounds_toArray, List.set_cons_zero, List.set_cons_succ])
              refine wpAnyH_take (i := 9) (v := ?vvr35) (by rw [List.getElem?_toArray]; exact rfl) (by kernel_rfl) (by kernel_rfl) (by kernel_rfl) (by intro _ _ _ h; exact h) (Or.inl ⟨by rfl, ?hyr35⟩) hHeld ?restr35
              case' hyr35 => (intro w hSw; (try dsimp only at hSw); go_simp; try (with_reducible rfl))
              (try simp only [Act.put, List.setIfInBounds_toArray, List.set_cons_zero, List.set_cons_succ])
              refine wpAnyH_take (i := 10) (v := ?vvr36) (by rw [List.getElem?_toArray]; exact rfl) (by kernel_rfl) (by kernel_rfl) (by kernel_rfl) (by intro _ _ _ h; exact h) (Or.inl ⟨by rfl, ?hyr36⟩) hHeld ?restr36
              case' hyr36 => (intro w hSw; (try dsimp only at hSw); go_simp; try (with_reducible rfl))
              (try simp only [Act.put, List.setIfInBounds_toArray, List.set_cons_zero, List.set_cons_succ])
              refine wpAnyH_take (i := 11) (v := ?vvr37) (by rw [List.getElem?_toArray]; exact rfl) (by kernel_rfl) (by kernel_rfl) (by kernel_rfl) (by intro _ _ _ h; exact h) (Or.inl ⟨by rfl, ?hyr37⟩) hHeld ?restr37
              case' hyr37 => (intro w hSw; (try dsimp only at hSw); go_simp; try (with_reducible rfl))
              (try simp only [Act.put, List.setIfInBounds_toArray, List.set_cons_zero, List.set_cons_succ])
              refine wpAnyH_take (i := 12) (v := ?vvr38) (by rw [List.getElem?_toArray]; exact rfl) (by kernel_rfl) (by kernel_rfl) (by kernel_rfl) (by intro _ _ _ h; exact h) (Or.inl ⟨by rfl, ?hyr38⟩) hHeld ?restr38
              case' hyr38 => (intro w hSw; (try dsimp only at hSw); go_simp; try (with_reducible rfl))
              (try simp only [Act.put, List.setIfInBounds_toArray, List.set_cons_zero, List.set_cons_succ])
              refine wpAnyH_take (i := 13) (v := ?vvr39) (by rw [List.getElem?_toArray]; exact rfl) (by kernel_rfl) (by kernel_rfl) (by kernel_rfl) (by intro _ _ _ h; exact h) (Or.inl ⟨by rfl, ?hyr39⟩) hHeld ?restr39
              case' hyr39 => (intro w hSw; (try dsimp only at hSw); go_simp; try (with_reducible rfl))
              (try simp only [Act.put, List.setIfInBounds_toArray, List.set_cons_zero, List.set_cons_succ])
              refine wpAnyH_take (i := 14) (v := ?vvr40) (by rw [List.getElem?_toArray]; exact rfl) (by kernel_rfl) (by kernel_rfl) (by kernel_rfl) (by intro _ _ _ h; exact h) (Or.inl ⟨by rfl, ?hyr40⟩) hHeld ?restr40
              case' hyr40 => (intro w hSw; (try dsimp only at hSw); go_simp; try (with_reducible rfl))
              (try simp only [Act.put, List.setIfInBounds_toArray, List.set_cons_zero, List.set_cons_succ])
              refine wpAnyH_take (i := 15) (v := ?vvr41) (by rw [List.getElem?_toArray]; exact rfl) (by kernel_rfl) (by kernel_rfl) (by kernel_rfl) (by intro _ _ _ h; exact h) (Or.inl ⟨by rfl, ?hyr41⟩) hHeld ?restr41
              case' hyr41 => (intro w hSw; (try dsimp only at hSw); go_simp; try (with_reducible rfl))
              (try simp only [Act.put, List.setIfInBounds_toArray, List.set_cons_zero, List.set_cons_succ])
              refine wpAnyH_take (i := 16) (v := ?vvr42) (by rw [List.getElem?_toArray]; exact rfl) (by kernel_rfl) (by kernel_rfl) (by kernel_rfl) (by intro _ _ _ h; exact h) (Or.inl ⟨by rfl, ?hyr42⟩) hHeld ?restr42
              case' hyr42 => (intro w hSw; (try dsimp only at hSw); go_simp; try (with_reducible rfl))
              (try simp only [Act.put, List.setIfInBounds_toArray, List.set_cons_zero, List.set_cons_succ])
              refine wpAnyH_ready (rs := [6, 17]) (by kernel_rfl) (by simp) ?_
              refine AllReadyH.cons (by rw [List.getElem?_toArray]; exact rfl) (fun K hK => ?_) ?_
              · skip
                go_simp
                refine hK.out _ _ ?_ (fun hHeld => ?_)
                · first | exact HC.out _ rfl rfl | exact HC.out _ (Below.heap_alloc W (.cells #[.int .i64 2, .int .i64 (sy : Int), .int .i64 (valOf n0 L)] 53) _ hgs2) (Below.heap_alloc W (.cells #[.int .i64 2, .int .i64 (sy : Int), .int .i64 (valOf n0 L)] 53) _ hgs1)
                clear hK K
                (try simp only [Act.put, List.setIfInBounds_toArray, List.set_cons_zero, List.set_cons_succ])
                refine wpAnyH_ready (rs := [17]) (by kernel_rfl) (by simp) ?_
                refine AllReadyH.cons (by rw [List.getElem?_toArray]; exact rfl) (fun K hK => ?_) AllReadyH.nil
                go_simp
                refine hK.out _ _ ?_ (fun hHeld => ?_)
                · exact HC.out _ (Below.heap_alloc W (.cells #[.int .i64 2, .int .i64 (sy : Int), .int .i64 (valOf n0 L)] 53) _ hgs2) (Below.heap_alloc W (.cells #[.int .i64 2, .int .i64 (sy : Int), .int .i64 (valOf n0 L)] 53) _ hgs1)
                clear hK K
                (try simp only [Act.put, List.setIfInBounds_toArray, List.set_cons_zero, List.set_cons_succ])
                refine wpAnyH_ready (rs := [18]) (by kernel_rfl) (by simp) ?_
                refine AllReadyH.cons (by rw [List.getElem?_toArray]; exact rfl) (fun K hK => ?_) AllReadyH.nil
                refine step_app3 (by rfl) (.tmp 75) (.tmp 86) (by rfl) (by rfl) (ho2.drew.alloc _) (by rfl) (S3.one KN (Nat.le_refl _)) (by omega) hbase ?_
                intro v' w' ho' hg' hat'
                obtain ⟨Av, cv, rfl⟩ := ho'.shape
                have hcw := ((HKG.out.drew.alloc (.cells #[.int .i64 2, .int .i64 (sy : Int), .int .i64 (valOf n0 L)] 53)).grown hg' (fun e => Hne.out e.symm))
                have cw := (hcw.cell (n0 * 3 + 1)).trans Hcg.out
                have fw := hcw.frozen (n0 * 3 + 1)
                refine hK.out _ _ ?_ (fun hHeld => ?_)
                · exact HC.out _ ((hg'.block _ (by simp; omega) (fun e => HWU.out e.symm)).trans (Below.heap_alloc W (.cells #[.int .i64 2, .int .i64 (sy : Int), .int .i64 (valOf n0 L)] 53) _ hgs2)) ((hg'.block _ (by simp; omega) (fun e => HGU.out e.symm)).trans (Below.heap_alloc W (.cells #[.int .i64 2, .int .i64 (sy : Int), .int .i64 (valOf n0 L)] 53) _ hgs1))
                clear hK K
                (try simp only [Act.put, List.setIfInBounds_toArray, List.set_cons_zero, List.set_cons_succ])
                refine wpAnyH_take (i := 19) (v := ?vvr43) (by rw [List.getElem?_toArray]; exact rfl) (by kernel_rfl) (by kernel_rfl) (by kernel_rfl) (by intro _ _ _ h; exact h) (Or.inl ⟨by rfl, ?hyr43⟩) hHeld ?restr43
                case' hyr43 => (intro w hSw; (try dsimp only at hSw); go_simp; try (with_reducible rfl))
                (try simp only [Act.put, List.setIfInBounds_toArray, List.set_cons_zero, List.set_cons_succ])
                refine wpAnyH_take (i := 20) (v := ?vvr44) (by rw [List.getElem?_toArray]; exact rfl) (by kernel_rfl) (by kernel_rfl) (by kernel_rfl) (by intro _ _ _ h; exact h) (Or.inl ⟨by rfl, ?hyr44⟩) hHeld ?restr44
                case' hyr44 => (intro w hSw; (try dsimp only at hSw); go_simp; try (with_reducible rfl))
                (try simp only [Act.put, List.setIfInBounds_toArray, List.set_cons_zero, List.set_cons_succ])
                refine wpAnyH_ready (rs := [21]) (by kernel_rfl) (by simp) ?_
                refine AllReadyH.cons (by rw [List.getElem?_toArray]; exact rfl) (fun K hK => ?_) AllReadyH.nil
                go_simp
                refine hK.out _ _ ?_ (fun hHeld => ?_)
                · exact HC.out _ ((Below.heap_setCell _ ⟨g, n0 * 3 + 1, none⟩ _ _ Hwg.out).trans ((hg'.block _ (by simp; omega) (fun e => HWU.out e.symm)).trans (Below.heap_alloc W (.cells #[.int .i64 2, .int .i64 (sy : Int), .int .i64 (valOf n0 L)] 53) _ hgs2))) ((Below.heap_setCell _ ⟨g, n0 * 3 + 1, none⟩ _ _ hgg.symm).trans ((hg'.block _ (by simp; omega) (fun e => HGU.out e.symm)).trans (Below.heap_alloc W (.cells #[.int .i64 2, .int .i64 (sy : Int), .int .i64 (valOf n0 L)] 53) _ hgs1)))
                clear hK K
                (try simp only [Act.put, List.setIfInBounds_toArray, List.set_cons_zero, List.set_cons_succ])
                refine wpAnyH_done (by kernel_rfl) ?_ _
                have B11 := below_app3 (B10.drew.alloc (by have := B10.size; simpa using this) (.cells #[.int .i64 2, .int .i64 (sy : Int), .int .i64 (valOf n0 L)] 53)) (ho2.drew.alloc _) (Nat.le_refl _) hg'
                have qL : (w'.setCell ⟨g, n0 * 3 + 1, none⟩ (.slice Av (L + 1) cv)).cell? ⟨bp, op + n0 * 2 + 1, none⟩ = some (.slice (some ⟨bs, os, none⟩) kk' d') := (World.cell?_setCell_far _ ⟨g, n0 * 3 + 1, none⟩ ⟨bp, op + n0 * 2 + 1, none⟩ _ (by show g ≠ bp; omega)).trans ((B11.cell (p := ⟨bp, op + n0 * 2 + 1, none⟩) hbp).trans Hp1.out)
                have hcL := hcw.set_ (n0 * 3 + 1) (.slice Av (L + 1) cv)
                have cL : (w'.setCell ⟨g, n0 * 3 + 1, none⟩ (.slice Av (L + 1) cv)).cell? ⟨g, n0 * 3 + 2, none⟩ = some (.bool t.2.2) := (hcL.cell (n0 * 3 + 2)).trans ((Array.getElem?_setIfInBounds_ne (by omega)).trans Hcg2.out)
                have fL := hcL.frozen (n0 * 3 + 2)
                have HCW := hide hcw
                have HHO := hide ho'; have HHG := hide hg'; have HHA := hide hat'
                clear hcL hcw cw fw k0' k1' k2' e1' d0 d1 d2 dz1 q1'
                go_wp2_with fail
                go_roundw
                case rel =>
                  have hgg' : (W.drew.alloc (.cells #[.int .i64 2, .int .i64 (sy : Int), .int .i64 (valOf n0 L)] 53)).grownBy w' (Value.slice Au t.2.1.length cu).ownBlock := by rw [HL.out]; exact HHG.out
                  have hha' : (Value.slice Av (L + 1) cv).ownBlock = (Value.slice Au t.2.1.length cu).ownBlock ∨ (Value.slice Av (L + 1) cv).ownBlock = some (W.drew.alloc (.cells #[.int .i64 2, .int .i64 (sy : Int), .int .i64 (valOf n0 L)] 53)).heap.size := by rw [HL.out]; exact HHA.out
                  have AR3 := ((HAR2.out.drew.alloc (.cells #[.int .i64 2, .int .i64 (sy : Int), .int .i64 (valOf n0 L)] 53)).add He.out hgg' HHO.out hha' (decide (L + 1 = kk')))
                  have hdd : (((L : Int) + 1 == (kk' : Int)) : Bool) = decide (L + 1 = kk') := by rw [Bool.eq_iff_iff, decide_eq_true_iff, beq_iff_eq]; omega
                  have AR4 := hide AR3
                  clear AR3 hgg' hha'
                  refine ⟨k + 1, es.set n0 (t.1, (.slice Av (L + 1) cv, L + 1, flat3 (t.2.1 ++ [((2, (sy : Int), (valOf n0 L)) : T3)])), decide (L + 1 = kk')), by go_num, by omega, ?_, ?_, ?_, ?_⟩
                  · rw [Hdr.out, Hso.out, hdd]
                    exact AR4.out
                  · rw [Hdr.out, Hso.out]; exact Hsp2.out
                  · rw [Hdr.out, Hso.out]; exact HV.out
                  · exact (B11.setCell (p := ⟨g, n0 * 3 + 1, none⟩) hlg _).setCell (p := ⟨g, n0 * 3 + 2, none⟩) hlg _
                case measure => simp [intOf]; omega
              refine AllReadyH.cons (by rw [List.getElem?_toArray]; exact rfl) (fun K hK => ?_) AllReadyH.nil
              go_simp
              refine hK.out _ _ ?_ (fun hHeld => ?_)
              · exact HC.out _ (Below.heap_alloc W (.cells #[.int .i64 2, .int .i64 (sy : Int), .int .i64 (valOf n0 L)] 53) _ hgs2) (Below.heap_alloc W (.cells #[.int .i64 2, .int .i64 (sy : Int), .int .i64 (valOf n0 L)] 53) _ hgs1)
              clear hK K
              (try simp only [Act.put, List.setIfInBounds_toArray, List.set_cons_zero, List.set_cons_succ])
              refine wpAnyH_ready (rs := [6]) (by kernel_rfl) (by simp) ?_
              refine AllReadyH.cons (by rw [List.getElem?_toArray]; exact rfl) (fun K hK => ?_) AllReadyH.nil
              go_simp
              refine hK.out _ _ ?_ (fun hHeld => ?_)
              · first | exact HC.out _ rfl rfl | exact HC.out _ (Below.heap_alloc W (.cells #[.int .i64 2, .int .i64 (sy : Int), .int .i64 (valOf n0 L)] 53) _ hgs2) (Below.heap_alloc W (.cells #[.int .i64 2, .int .i64 (sy : Int), .int .i64 (valOf n0 L)] 53) _ hgs1)
              clear hK K
              (try simp only [Act.put, List.setIfInBounds_toArray, List.set_cons_zero, List.set_cons_succ])
              refine wpAnyH_ready (rs := [18]) (by kernel_rfl) (by simp) ?_
              refine AllReadyH.cons (by rw [List.getElem?_toArray]; exact rfl) (fun K hK => ?_) AllReadyH.nil
              refine step_app3 (by rfl) (.tmp 75) (.tmp 86) (by rfl) (by rfl) (ho2.drew.alloc _) (by rfl) (S3.one KN (Nat.le_refl _)) (by omega) hbase ?_
              intro v' w' ho' hg' hat'
              obtain ⟨Av, cv, rfl⟩ := ho'.shape
              have hcw := ((HKG.out.drew.alloc (.cells #[.int .i64 2, .int .i64 (sy : Int), .int .i64 (valOf n0 L)] 53)).grown hg' (fun e => Hne.out e.symm))
              have cw := (hcw.cell (n0 * 3 + 1)).trans Hcg.out
              have fw := hcw.frozen (n0 * 3 + 1)
              refine hK.out _ _ ?_ (fun hHeld => ?_)
              · exact HC.out _ ((hg'.block _ (by simp; omega) (fun e => HWU.out e.symm)).trans (Below.heap_alloc W (.cells #[.int .i64 2, .int .i64 (sy : Int), .int .i64 (valOf n0 L)] 53) _ hgs2)) ((hg'.block _ (by simp; omega) (fun e => HGU.out e.symm)).trans (Below.heap_alloc W (.cells #[.int .i64 2, .int .i64 (sy : Int), .int .i64 (valOf n0 L)] 53) _ hgs1))
              clear hK K
              (try simp only [Act.put, List.setIfInBounds_toArray, List.set_cons_zero, List.set_cons_succ])
              refine wpAnyH_take (i := 19) (v := ?vvr45) (by rw [List.getElem?_toArray]; exact rfl) (by kernel_rfl) (by kernel_rfl) (by kernel_rfl) (by intro _ _ _ h; exact h) (Or.inl ⟨by rfl, ?hyr45⟩) hHeld ?restr45
              case' hyr45 => (intro w hSw; (try dsimp only at hSw); go_simp; try (with_reducible rfl))
              (try simp only [Act.put, List.setIfInBounds_toArray, List.set_cons_zero, List.set_cons_succ])
              refine wpAnyH_take (i := 20) (v := ?vvr46) (by rw [List.getElem?_toArray]; exact rfl) (by kernel_rfl) (by kernel_rfl) (by kernel_rfl) (by intro _ _ _ h; exact h) (Or.inl ⟨by rfl, ?hyr46⟩) hHeld ?restr46
              case' hyr46 => (intro w hSw; (try dsimp only at hSw); go_simp; try (with_reducible rfl))
              (try simp only [Act.put, List.setIfInBounds_toArray, List.set_cons_zero, List.set_cons_succ])
              refine wpAnyH_ready (rs := [21]) (by kernel_rfl) (by simp) ?_
              refine AllReadyH.cons (by rw [List.getElem?_toArray]; exact rfl) (fun K hK => ?_) AllReadyH.nil
              go_simp
              refine hK.out _ _ ?_ (fun hHeld => ?_)
              · exact HC.out _ ((Below.heap_setCell _ ⟨g, n0 * 3 + 1, none⟩ _ _ Hwg.out).trans ((hg'.block _ (by simp; omega) (fun e => HWU.out e.symm)).trans (Below.heap_alloc W (.cells #[.int .i64 2, .int .i64 (sy : Int), .int .i64 (valOf n0 L)] 53) _ hgs2))) ((Below.heap_setCell _ ⟨g, n0 * 3 + 1, none⟩ _ _ hgg.symm).trans ((hg'.block _ (by simp; omega) (fun e => HGU.out e.symm)).trans (Below.heap_alloc W (.cells #[.int .i64 2, .int .i64 (sy : Int), .int .i64 (valOf n0 L)] 53) _ hgs1)))
              clear hK K
              (try simp only [Act.put, List.setIfInBounds_toArray, List.set_cons_zero, List.set_cons_succ])
              refine wpAnyH_done (by kernel_rfl) ?_ _
              have B11 := below_app3 (B10.drew.alloc (by have := B10.size; simpa using this) (.cells #[.int .i64 2, .int .i64 (sy : Int), .int .i64 (valOf n0 L)] 53)) (ho2.drew.alloc _) (Nat.le_refl _) hg'
              have qL : (w'.setCell ⟨g, n0 * 3 + 1, none⟩ (.slice Av (L + 1) cv)).cell? ⟨bp, op + n0 * 2 + 1, none⟩ = some (.slice (some ⟨bs, os, none⟩) kk' d') := (World.cell?_setCell_far _ ⟨g, n0 * 3 + 1, none⟩ ⟨bp, op + n0 * 2 + 1, none⟩ _ (by show g ≠ bp; omega)).trans ((B11.cell (p := ⟨bp, op + n0 * 2 + 1, none⟩) hbp).trans Hp1.out)
              have hcL := hcw.set_ (n0 * 3 + 1) (.slice Av (L + 1) cv)
              have cL : (w'.setCell ⟨g, n0 * 3 + 1, none⟩ (.slice Av (L + 1) cv)).cell? ⟨g, n0 * 3 + 2, none⟩ = some (.bool t.2.2) := (hcL.cell (n0 * 3 + 2)).trans ((Array.getElem?_setIfInBounds_ne (by omega)).trans Hcg2.out)
              have fL := hcL.frozen (n0 * 3 + 2)
              have HCW := hide hcw
              have HHO := hide ho'; have HHG := hide hg'; have HHA := hide hat'
              clear hcL hcw cw fw k0' k1' k2' e1' d0 d1 d2 dz1 q1'
              go_wp2_with fail
              go_roundw
              case rel =>
                have hgg' : (W.drew.alloc (.cells #[.int .i64 2, .int .i64 (sy : Int), .int .i64 (valOf n0 L)] 53)).grownBy w' (Value.slice Au t.2.1.length cu).ownBlock := by rw [HL.out]; exact HHG.out
                have hha' : (Value.slice Av (L + 1) cv).ownBlock = (Value.slice Au t.2.1.length cu).ownBlock ∨ (Value.slice Av (L + 1) cv).ownBlock = some (W.drew.alloc (.cells #[.int .i64 2, .int .i64 (sy : Int), .int .i64 (valOf n0 L)] 53)).heap.size := by rw [HL.out]; exact HHA.out
                have AR3 := ((HAR2.out.drew.alloc (.cells #[.int .i64 2, .int .i64 (sy : Int), .int .i64 (valOf n0 L)] 53)).add He.out hgg' HHO.out hha' (decide (L + 1 = kk')))
                have hdd : (((L : Int) + 1 == (kk' : Int)) : Bool) = decide (L + 1 = kk') := by rw [Bool.eq_iff_iff, decide_eq_true_iff, beq_iff_eq]; omega
                have AR4 := hide AR3
                clear AR3 hgg' hha'
                refine ⟨k + 1, es.set n0 (t.1, (.slice Av (L + 1) cv, L + 1, flat3 (t.2.1 ++ [((2, (sy : Int), (valOf n0 L)) : T3)])), decide (L + 1 = kk')), by go_num, by omega, ?_, ?_, ?_, ?_⟩
                · rw [Hdr.out, Hso.out, hdd]
                  exact AR4.out
                · rw [Hdr.out, Hso.out]; exact Hsp2.out
                · rw [Hdr.out, Hso.out]; exact HV.out
                · exact (B11.setCell (p := ⟨g, n0 * 3 + 1, none⟩) hlg _).setCell (p := ⟨g, n0 * 3 + 2, none⟩) hlg _
              case measure => simp [intOf]; omega
        · obtain rfl : k = m := by omega
          have hfin : xs.take k = xs := List.take_of_length_le (by rw [hsl.out]; omega)
          rw [hfin] at AR
          go_wp2_with fail
          go_ret
          exact ⟨_, n, es, rfl, AR.own.mono B2.size, by rw [F.out]; exact AR.says, below_step B2 hbel⟩

end Go.Proofs.YtfcfhgophpoibaaDoor
