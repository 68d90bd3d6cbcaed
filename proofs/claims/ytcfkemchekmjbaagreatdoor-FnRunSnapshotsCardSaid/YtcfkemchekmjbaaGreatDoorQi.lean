/- Merged (what the law reaches): RunI3, Ow. -/
import Derived.Test.YtcfkemchekmjbaaGreatDoorQh
import Derived.BigQuiet
namespace Go.Proofs.YtcfkemchekmjbaaGreatDoor
open Go.RowKit
/-- Behind 'did': one more operation. -/
def Did (w : World) (lo gm n c : Nat) (A : Option Addr) (v : Value) (ts : List Tx) (es : List El) (r : Bool) (e : Ending) (w' : World) : Prop :=
  ∃ es', e = .returned (.bool r) ∧ Mach w' lo gm A n c v ts es' ∧ Chg (OT.S v es) w w' ∧ ∀ k, OT.S v es' k → OT.S v es k ∨ w.heap.size ≤ k
theorem OT.S_set {v : Value} {es : List El} {j : Nat} {e e' : El} {N : Nat} (hj : es[j]? = some e) (h : e'.2.1.1.ownBlock = e.2.1.1.ownBlock ∨ ∀ k, e'.2.1.1.ownBlock = some k → N ≤ k) : ∀ k, OT.S v (es.set j e') k → OT.S v es k ∨ N ≤ k := fun k hk => by
  rcases hk with hk | ⟨i, q, hi, hk⟩
  · exact .inl (.inl hk)
  · by_cases e1 : j = i
    · subst e1
      rw [List.getElem?_set_self (List.getElem?_eq_some_iff.1 hj).1] at hi
      injection hi with hi; subst hi
      rcases h with h | h
      · exact .inl (.inr ⟨j, e, hj, by rw [← h]; exact hk⟩)
      · exact .inr (h k hk)
    · rw [List.getElem?_set_ne e1] at hi
      exact .inl (.inr ⟨i, q, hi, hk⟩)
set_option maxRecDepth 100000 in
set_option maxHeartbeats 8000000 in
theorem did_c {w : World} {lo gm n c : Nat} {A : Option Addr} {v : Value} {ts : List Tx} {es : List El} {ms : Ds} (M : Mach w lo gm A n c v ts es) (hr : RDs w A n ms) (hbel : ∀ b off, A = some ⟨b, off, none⟩ → b < lo) {n0 : Nat} {t : Tx} {f x y z : Int} {ys : List T3}
    (hn : n0 < n) (ht : ts[n0]? = some t) (hd : ms[n0]? = some (f, ys)) (hL4 : t.2.1.length < 4) (hlow : lo ≤ w.heap.size) :
    Calls Tryz.prog 37 #[.pointer (some ⟨gm, 0, none⟩), .int .i64 (n0 : Int), .agg #[.int .i64 x, .int .i64 y, .int .i64 z]] w (Did w lo gm n c A v (ts.set n0 (t.1, t.2.1 ++ [(x, y, z)], t.2.2)) es (decide (t.2.1.length + 1 = ys.length))) := by
  obtain ⟨g, cg, Au, cu, rfl, hnc, hlg, hgs, he, huc, c1, c2, ho⟩ := M.look hn ht
  obtain ⟨bp, op, f', ys', B', kk', d', rfl, hbp, hx', p0, p1, hkd', hdm', hri'⟩ := hr.at_ hn
  have hbl := hbel _ _ rfl
  have e2 := hd.symm.trans hx'
  injection e2 with e2
  obtain ⟨rfl, rfl⟩ : f = f' ∧ ys = ys' := by simpa using e2
  have hyl := hri'.len
  obtain ⟨m0, m1, mf0, mf1⟩ := M.box.two
  have hgl := M.box.lt
  have hgmlo := M.lt
  have n0i : (0 : Int) ≤ n0 := by omega
  have n1i : (n0 : Int) < n := by omega
  obtain ⟨L, hLL⟩ : ∃ L, t.2.1.length = L := ⟨_, rfl⟩
  rw [hLL] at c1 hL4 huc ho
  have HL := hide hLL; have Hyl := hide hyl; have He := hide he
  have HMs := hide M.says
  have hgmu : (Value.slice Au L cu).ownBlock ≠ some gm := fun e => by have := ho.of.lt gm e; omega
  have hgu : (Value.slice Au L cu).ownBlock ≠ some g := by have := M.own.ne he (k := g) rfl; dsimp only at this; rw [hLL] at this; exact this
  have hbpu : (Value.slice Au L cu).ownBlock ≠ some bp := fun e => by have := ho.of.lt bp e; omega
  obtain ⟨W, hW⟩ : ∃ W : World, W = w.alloc (.cells #[.int .i64 x, .int .i64 y, .int .i64 z] 61) := ⟨_, rfl⟩
  have hub : (Value.slice Au L cu).ownBlock ≠ some w.heap.size := fun e => by have := ho.of.lt w.heap.size e; omega
  have KX : Blk W w.heap.size 61 #[.int .i64 x, .int .i64 y, .int .i64 z] := by rw [hW]; exact Blk.new w _ _
  have KM : Blk W gm 68 #[.slice (some ⟨bp, op, none⟩) n c, .slice (some ⟨g, 0, none⟩) n cg] := by rw [hW]; exact M.box.alloc _
  have DW : OT W lo (.slice (some ⟨g, 0, none⟩) n cg) n es := by rw [hW]; exact M.own.alloc _
  have oW : O3 61 W lo (.slice Au L cu) L t.2.1 := by rw [hW]; exact ho.alloc _
  have BW : Below w.heap.size w W := by rw [hW]; exact (Below.refl _ _).alloc (Nat.le_refl _) _
  have hWz : W.heap.size = w.heap.size + 1 := by rw [hW]; simp
  have hc1W : W.cell? ⟨g, n0 * 3 + 1, none⟩ = some (.slice Au L cu) := (BW.cell (p := ⟨g, n0 * 3 + 1, none⟩) hgs).trans c1
  have p1W : W.cell? ⟨bp, op + n0 * 2 + 1, none⟩ = some (.slice B' kk' d') := (BW.cell (p := ⟨bp, op + n0 * 2 + 1, none⟩) hbp).trans p1
  have hxlt : w.heap.size < W.heap.size := by omega
  have hmlt : gm < W.heap.size := by omega
  have hgW : g < W.heap.size := by omega
  have hbW : bp < W.heap.size := by omega
  have hggm : g ≠ gm := by omega
  have hgbp : g ≠ bp := by omega
  have hgwx : w.heap.size ≠ g := by omega
  have hLN : L + 1 ≤ 1048576 := by omega
  have HP1 := hide p1W
  go_enter Tryz.func37, Tryz.ntmps37
  go_wp2_with fail
  rw [← hW]
  obtain ⟨x0, x1, x2⟩ := KX.three
  obtain ⟨w0, w1, wf0, wf1⟩ := KM.two
  have hc : ∀ W' : World, W'.heap[gm]? = W.heap[gm]? → W'.heap[w.heap.size]? = W.heap[w.heap.size]? → W'.cell? ⟨gm, 1, none⟩ = some (.slice (some ⟨g, 0, none⟩) n cg) ∧ W'.cell? ⟨w.heap.size, 0, none⟩ = some (.int .i64 x) ∧ W'.cell? ⟨w.heap.size, 1, none⟩ = some (.int .i64 y) ∧ W'.cell? ⟨w.heap.size, 2, none⟩ = some (.int .i64 z) := fun W' h1 h2 =>
    ⟨(World.cell?_of_block h1).trans w1, (World.cell?_of_block h2).trans x0, (World.cell?_of_block h2).trans x1, (World.cell?_of_block h2).trans x2⟩
  have HC := hide hc
  have dz1 := DW.free (n0 * 3 + 1)
  have KN := Blk.new W.drew 61 #[.int .i64 x, .int .i64 y, .int .i64 z]
  have hbase : lo ≤ (W.drew.alloc (.cells #[.int .i64 x, .int .i64 y, .int .i64 z] 61)).heap.size := by simp; omega
  obtain ⟨csg, hKG⟩ : ∃ cs, Blk W g 66 cs := by
    rcases DW.shape with ⟨h1, _⟩ | ⟨g', c', h1, _, _, _, _, cs, hb⟩
    · cases h1
    · injection h1 with h1; injection h1 with h1; injection h1 with h1; subst h1; exact ⟨cs, hb⟩
  have hcg := (hKG.cell (n0 * 3 + 1)).symm.trans hc1W
  have Hcg := hide hcg; have HKG := hide hKG; have HDW := hide DW; have HKM := hide KM; have HBW := hide BW; have HWz := hide hWz; have Hgu := hide hgu; have Hgmu := hide hgmu; have Hbpu := hide hbpu; have Hub := hide hub
  have HWW := hide hW
  clear hc hcg hKG DW KM BW hWz hgu hgmu hbpu hub x0 x1 x2 w0 w1 wf0 wf1 c1 c2 m0 m1 mf0 mf1 p0 p1 p1W he hLL hyl M hri' ho hW hd hx' e2
  refine wp_region_held_drew (S := (fun W' => W'.cell? ⟨gm, 1, none⟩ = some (.slice (some ⟨g, 0, none⟩) n cg) ∧ W'.cell? ⟨w.heap.size, 0, none⟩ = some (.int .i64 x) ∧ W'.cell? ⟨w.heap.size, 1, none⟩ = some (.int .i64 y) ∧ W'.cell? ⟨w.heap.size, 2, none⟩ = some (.int .i64 z))) (by kernel_rfl) ?_ (fun hHeld => ?_)
  · exact HC.out _ rfl rfl
  refine wpAnyH_take (i := 0) (v := ?vvd1) (by rw [List.getElem?_toArray]; exact rfl) (by kernel_rfl) (by kernel_rfl) (by kernel_rfl) (by intro _ _ _ h; exact h) (Or.inl ⟨by rfl, ?hyd1⟩) hHeld ?restd1
  case' hyd1 => (intro w hSw; (try dsimp only at hSw); go_simp; try (with_reducible rfl))
  (try simp only [Act.put, List.setIfInBounds_toArray, List.set_cons_zero, List.set_cons_succ])
  refine wpAnyH_take (i := 1) (v := ?vvd2) (by rw [List.getElem?_toArray]; exact rfl) (by kernel_rfl) (by kernel_rfl) (by kernel_rfl) (by intro _ _ _ h; exact h) (Or.inl ⟨by rfl, ?hyd2⟩) hHeld ?restd2
  case' hyd2 => (intro w hSw; (try dsimp only at hSw); go_simp; try (with_reducible rfl))
  (try simp only [Act.put, List.setIfInBounds_toArray, List.set_cons_zero, List.set_cons_succ])
  refine wpAnyH_take (i := 2) (v := ?vvd3) (by rw [List.getElem?_toArray]; exact rfl) (by kernel_rfl) (by kernel_rfl) (by kernel_rfl) (by intro _ _ _ h; exact h) (Or.inl ⟨by rfl, ?hyd3⟩) hHeld ?restd3
  case' hyd3 => (intro w hSw; (try dsimp only at hSw); go_simp; try (with_reducible rfl))
  (try simp only [Act.put, List.setIfInBounds_toArray, List.set_cons_zero, List.set_cons_succ])
  refine wpAnyH_take (i := 3) (v := ?vvd4) (by rw [List.getElem?_toArray]; exact rfl) (by kernel_rfl) (by kernel_rfl) (by kernel_rfl) (by intro _ _ _ h; exact h) (Or.inl ⟨by rfl, ?hyd4⟩) hHeld ?restd4
  case' hyd4 => (intro w hSw; (try dsimp only at hSw); go_simp; try (with_reducible rfl))
  (try simp only [Act.put, List.setIfInBounds_toArray, List.set_cons_zero, List.set_cons_succ])
  refine wpAnyH_take (i := 4) (v := ?vvd5) (by rw [List.getElem?_toArray]; exact rfl) (by kernel_rfl) (by kernel_rfl) (by kernel_rfl) (by intro _ _ _ h; exact h) (Or.inl ⟨by rfl, ?hyd5⟩) hHeld ?restd5
  case' hyd5 => (intro w hSw; (try dsimp only at hSw); go_simp; try (with_reducible rfl))
  (try simp only [Act.put, List.setIfInBounds_toArray, List.set_cons_zero, List.set_cons_succ])
  refine wpAnyH_take (i := 5) (v := ?vvd6) (by rw [List.getElem?_toArray]; exact rfl) (by kernel_rfl) (by kernel_rfl) (by kernel_rfl) (by intro _ _ _ h; exact h) (Or.inl ⟨by rfl, ?hyd6⟩) hHeld ?restd6
  case' hyd6 => (intro w hSw; (try dsimp only at hSw); go_simp; try (with_reducible rfl))
  (try simp only [Act.put, List.setIfInBounds_toArray, List.set_cons_zero, List.set_cons_succ])
  refine wpAnyH_take (i := 6) (v := ?vvd7) (by rw [List.getElem?_toArray]; exact rfl) (by kernel_rfl) (by kernel_rfl) (by kernel_rfl) (by intro _ _ _ h; exact h) (Or.inl ⟨by rfl, ?hyd7⟩) hHeld ?restd7
  case' hyd7 => (intro w hSw; (try dsimp only at hSw); go_simp; try (with_reducible rfl))
  (try simp only [Act.put, List.setIfInBounds_toArray, List.set_cons_zero, List.set_cons_succ])
  refine wpAnyH_take (i := 7) (v := ?vvd8) (by rw [List.getElem?_toArray]; exact rfl) (by kernel_rfl) (by kernel_rfl) (by kernel_rfl) (by intro _ _ _ h; exact h) (Or.inl ⟨by rfl, ?hyd8⟩) hHeld ?restd8
  case' hyd8 => (intro w hSw; (try dsimp only at hSw); go_simp; try (with_reducible rfl))
  (try simp only [Act.put, List.setIfInBounds_toArray, List.set_cons_zero, List.set_cons_succ])
  refine wpAnyH_take (i := 8) (v := ?vvd9) (by rw [List.getElem?_toArray]; exact rfl) (by kernel_rfl) (by kernel_rfl) (by kernel_rfl) (by intro _ _ _ h; exact h) (Or.inl ⟨by rfl, ?hyd9⟩) hHeld ?restd9
  case' hyd9 => (intro w hSw; (try dsimp only at hSw); go_simp; try (with_reducible rfl))
  (try simp only [Act.put, List.setIfInBounds_toArray, List.set_cons_zero, List.set_cons_succ])
  refine wpAnyH_take (i := 9) (v := ?vvd10) (by rw [List.getElem?_toArray]; exact rfl) (by kernel_rfl) (by kernel_rfl) (by kernel_rfl) (by intro _ _ _ h; exact h) (Or.inl ⟨by rfl, ?hyd10⟩) hHeld ?restd10
  case' hyd10 => (intro w hSw; (try dsimp only at hSw); go_simp; try (with_reducible rfl))
  (try simp only [Act.put, List.setIfInBounds_toArray, List.set_cons_zero, List.set_cons_succ])
  refine wpAnyH_take (i := 10) (v := ?vvd11) (by rw [List.getElem?_toArray]; exact rfl) (by kernel_rfl) (by kernel_rfl) (by kernel_rfl) (by intro _ _ _ h; exact h) (Or.inl ⟨by rfl, ?hyd11⟩) hHeld ?restd11
  case' hyd11 => (intro w hSw; (try dsimp only at hSw); go_simp; try (with_reducible rfl))
  (try simp only [Act.put, List.setIfInBounds_toArray, List.set_cons_zero, List.set_cons_succ])
  refine wpAnyH_take (i := 11) (v := ?vvd12) (by rw [List.getElem?_toArray]; exact rfl) (by kernel_rfl) (by kernel_rfl) (by kernel_rfl) (by intro _ _ _ h; exact h) (Or.inl ⟨by rfl, ?hyd12⟩) hHeld ?restd12
  case' hyd12 => (intro w hSw; (try dsimp only at hSw); go_simp; try (with_reducible rfl))
  (try simp only [Act.put, List.setIfInBounds_toArray, List.set_cons_zero, List.set_cons_succ])
  refine wpAnyH_take (i := 13) (v := ?vvd13) (by rw [List.getElem?_toArray]; exact rfl) (by kernel_rfl) (by kernel_rfl) (by kernel_rfl) (by intro _ _ _ h; exact h) (Or.inl ⟨by rfl, ?hyd13⟩) hHeld ?restd13
  case' hyd13 => (intro w hSw; (try dsimp only at hSw); go_simp; try (with_reducible rfl))
  (try simp only [Act.put, List.setIfInBounds_toArray, List.set_cons_zero, List.set_cons_succ])
  refine wpAnyH_ready (rs := [12, 14]) (by kernel_rfl) (by simp) ?_
  refine AllReadyH.cons (by rw [List.getElem?_toArray]; exact rfl) (fun K hK => ?_) ?_
  · skip
    go_simp
    refine hK.out _ _ ?_ (fun hHeld => ?_)
    · first | exact HC.out _ rfl rfl | exact HC.out _ (Below.heap_alloc W.drew (.cells #[.int .i64 x, .int .i64 y, .int .i64 z] 61) _ hmlt) (Below.heap_alloc W.drew (.cells #[.int .i64 x, .int .i64 y, .int .i64 z] 61) _ hxlt)
    clear hK K
    (try simp only [Act.put, List.setIfInBounds_toArray, List.set_cons_zero, List.set_cons_succ])
    refine wpAnyH_ready (rs := [14]) (by kernel_rfl) (by simp) ?_
    refine AllReadyH.cons (by rw [List.getElem?_toArray]; exact rfl) (fun K hK => ?_) AllReadyH.nil
    go_simp
    refine hK.out _ _ ?_ (fun hHeld => ?_)
    · exact HC.out _ (Below.heap_alloc W.drew (.cells #[.int .i64 x, .int .i64 y, .int .i64 z] 61) _ hmlt) (Below.heap_alloc W.drew (.cells #[.int .i64 x, .int .i64 y, .int .i64 z] 61) _ hxlt)
    clear hK K
    (try simp only [Act.put, List.setIfInBounds_toArray, List.set_cons_zero, List.set_cons_succ])
    refine wpAnyH_ready (rs := [15]) (by kernel_rfl) (by simp) ?_
    refine AllReadyH.cons (by rw [List.getElem?_toArray]; exact rfl) (fun K hK => ?_) AllReadyH.nil
    refine step_app3 (by rfl) (.tmp 19) (.tmp 21) (by rfl) (by rfl) (oW.drew.alloc _) (by rfl) (S3.one KN (Nat.le_refl _)) hLN hbase ?_
    intro v' w' ho' hg' hat'
    obtain ⟨Av, cv, rfl⟩ := ho'.shape
    have hcw := ((HKG.out.drew.alloc (.cells #[.int .i64 x, .int .i64 y, .int .i64 z] 61)).grown hg' (fun e => Hgu.out e.symm))
    have cw := (hcw.cell (n0 * 3 + 1)).trans Hcg.out
    have fw := hcw.frozen (n0 * 3 + 1)
    refine hK.out _ _ ?_ (fun hHeld => ?_)
    · exact HC.out _ ((hg'.block _ (by simp; omega) (fun e => Hgmu.out e.symm)).trans (Below.heap_alloc W.drew (.cells #[.int .i64 x, .int .i64 y, .int .i64 z] 61) _ hmlt)) ((hg'.block _ (by simp; omega) (fun e => Hub.out e.symm)).trans (Below.heap_alloc W.drew (.cells #[.int .i64 x, .int .i64 y, .int .i64 z] 61) _ hxlt))
    clear hK K
    (try simp only [Act.put, List.setIfInBounds_toArray, List.set_cons_zero, List.set_cons_succ])
    refine wpAnyH_take (i := 16) (v := ?vvd14) (by rw [List.getElem?_toArray]; exact rfl) (by kernel_rfl) (by kernel_rfl) (by kernel_rfl) (by intro _ _ _ h; exact h) (Or.inl ⟨by rfl, ?hyd14⟩) hHeld ?restd14
    case' hyd14 => (intro w hSw; (try dsimp only at hSw); go_simp; try (with_reducible rfl))
    (try simp only [Act.put, List.setIfInBounds_toArray, List.set_cons_zero, List.set_cons_succ])
    refine wpAnyH_take (i := 17) (v := ?vvd15) (by rw [List.getElem?_toArray]; exact rfl) (by kernel_rfl) (by kernel_rfl) (by kernel_rfl) (by intro _ _ _ h; exact h) (Or.inl ⟨by rfl, ?hyd15⟩) hHeld ?restd15
    case' hyd15 => (intro w hSw; (try dsimp only at hSw); go_simp; try (with_reducible rfl))
    (try simp only [Act.put, List.setIfInBounds_toArray, List.set_cons_zero, List.set_cons_succ])
    refine wpAnyH_ready (rs := [18]) (by kernel_rfl) (by simp) ?_
    refine AllReadyH.cons (by rw [List.getElem?_toArray]; exact rfl) (fun K hK => ?_) AllReadyH.nil
    go_simp
    refine hK.out _ _ ?_ (fun hHeld => ?_)
    · exact HC.out _ ((Below.heap_setCell _ ⟨g, n0 * 3 + 1, none⟩ _ _ hggm.symm).trans ((hg'.block _ (by simp; omega) (fun e => Hgmu.out e.symm)).trans (Below.heap_alloc W.drew (.cells #[.int .i64 x, .int .i64 y, .int .i64 z] 61) _ hmlt))) ((Below.heap_setCell _ ⟨g, n0 * 3 + 1, none⟩ _ _ hgwx).trans ((hg'.block _ (by simp; omega) (fun e => Hub.out e.symm)).trans (Below.heap_alloc W.drew (.cells #[.int .i64 x, .int .i64 y, .int .i64 z] 61) _ hxlt)))
    clear hK K
    (try simp only [Act.put, List.setIfInBounds_toArray, List.set_cons_zero, List.set_cons_succ])
    refine wpAnyH_done (by kernel_rfl) ?_ _
    have hKM := ((HKM.out.drew.alloc (.cells #[.int .i64 x, .int .i64 y, .int .i64 z] 61)).grown hg' (fun e => Hgmu.out e.symm)).far (p := ⟨g, n0 * 3 + 1, none⟩) hggm.symm (.slice Av (L + 1) cv)
    obtain ⟨y0, y1, _, _⟩ := hKM.two
    have D0 := HDW.out.drew.alloc (.cells #[.int .i64 x, .int .i64 y, .int .i64 z] 61)
    have D1 := D0.append He.out (by dsimp only; rw [HL.out]; exact hg') (q := (.slice Av (L + 1) cv, L + 1, flat3 (t.2.1 ++ [(x, y, z)]))) ho'.of (by dsimp only; rw [HL.out]; exact hat'.imp id (fun e k hk => by rw [e] at hk; injection hk with hk; exact Nat.le_of_eq hk))
    have hjl := (List.getElem?_eq_some_iff.1 He.out).1
    have r1 := (D1.cells (List.getElem?_set_self hjl)).2.1
    dsimp only at r1
    have q1 : (w'.setCell ⟨g, n0 * 3 + 1, none⟩ (.slice Av (L + 1) cv)).cell? ⟨bp, op + n0 * 2 + 1, none⟩ = some (.slice B' kk' d') := (World.cell?_setCell_far _ ⟨g, n0 * 3 + 1, none⟩ ⟨bp, op + n0 * 2 + 1, none⟩ _ hgbp).trans ((World.cell?_of_block ((hg'.block bp (by simp; omega) (fun e => Hbpu.out e.symm)).trans (Below.heap_alloc W.drew (.cells #[.int .i64 x, .int .i64 y, .int .i64 z] 61) _ hbW))).trans HP1.out)
    have hS := OT.S_set (v := .slice (some ⟨g, 0, none⟩) n cg) He.out (e' := (t.1, (.slice Av (L + 1) cv, L + 1, flat3 (t.2.1 ++ [(x, y, z)])), t.2.2)) (N := w.heap.size) (by dsimp only; rw [HL.out]; exact hat'.imp id (fun e k hk => by rw [e] at hk; injection hk with hk; rw [← hk]; have h9 := HWz.out; show w.heap.size ≤ (W.alloc (.cells #[.int .i64 x, .int .i64 y, .int .i64 z] 61)).heap.size; rw [World.size_alloc]; omega))
    have hsy := SaysT.set_ HMs.out n0 (t.1, t.2.1 ++ [(x, y, z)], t.2.2) (.slice Av (L + 1) cv) (L + 1)
    have hch : Chg (OT.S (.slice (some ⟨g, 0, none⟩) n cg) es) w (w'.setCell ⟨g, n0 * 3 + 1, none⟩ (.slice Av (L + 1) cv)) :=
      (((Chg.of_below HBW.out).trans (Chg.of_below ((Below.refl _ _).drew.alloc (by simp) (.cells #[.int .i64 x, .int .i64 y, .int .i64 z] 61)))).trans (Chg.of_grown hg' (fun b hb => .inr ⟨n0, _, He.out, by dsimp only; rw [HL.out]; exact hb⟩))).trans (Chg.setCell (p := ⟨g, n0 * 3 + 1, none⟩) (.inl rfl) _)
    have HD1 := hide D1; have HKM2 := hide hKM; have HS := hide hS; have Hsy := hide hsy; have Hch := hide hch
    clear D0 D1 hKM hS hsy hch hcw cw fw ho' hat' hg' KX KN oW dz1 hc1W
    go_wp2_with fail
    go_quiet (fail)
    go_wp2_with fail
    go_ret
    refine ⟨_, ?_, ⟨HKM2.out, HD1.out.below (below_drewN (Below.refl _ _) _), Hsy.out, hgmlo⟩, Hch.out.trans (Chg.of_below (below_drewN (Below.refl _ _) _)), HS.out⟩
    have hb : (((L + 1 : Nat) : Int) == (kk' : Int)) = decide (t.2.1.length + 1 = ys.length) := by rw [HL.out, Hyl.out, Bool.eq_iff_iff, decide_eq_true_iff, beq_iff_eq]; omega
    rw [← hb]
    rfl
  refine AllReadyH.cons (by rw [List.getElem?_toArray]; exact rfl) (fun K hK => ?_) AllReadyH.nil
  go_simp
  refine hK.out _ _ ?_ (fun hHeld => ?_)
  · exact HC.out _ (Below.heap_alloc W.drew (.cells #[.int .i64 x, .int .i64 y, .int .i64 z] 61) _ hmlt) (Below.heap_alloc W.drew (.cells #[.int .i64 x, .int .i64 y, .int .i64 z] 61) _ hxlt)
  clear hK K
  (try simp only [Act.put, List.setIfInBounds_toArray, List.set_cons_zero, List.set_cons_succ])
  refine wpAnyH_ready (rs := [12]) (by kernel_rfl) (by simp) ?_
  refine AllReadyH.cons (by rw [List.getElem?_toArray]; exact rfl) (fun K hK => ?_) AllReadyH.nil
  go_simp
  refine hK.out _ _ ?_ (fun hHeld => ?_)
  · first | exact HC.out _ rfl rfl | exact HC.out _ (Below.heap_alloc W.drew (.cells #[.int .i64 x, .int .i64 y, .int .i64 z] 61) _ hmlt) (Below.heap_alloc W.drew (.cells #[.int .i64 x, .int .i64 y, .int .i64 z] 61) _ hxlt)
  clear hK K
  (try simp only [Act.put, List.setIfInBounds_toArray, List.set_cons_zero, List.set_cons_succ])
  refine wpAnyH_ready (rs := [15]) (by kernel_rfl) (by simp) ?_
  refine AllReadyH.cons (by rw [List.getElem?_toArray]; exact rfl) (fun K hK => ?_) AllReadyH.nil
  refine step_app3 (by rfl) (.tmp 19) (.tmp 21) (by rfl) (by rfl) (oW.drew.alloc _) (by rfl) (S3.one KN (Nat.le_refl _)) hLN hbase ?_
  intro v' w' ho' hg' hat'
  obtain ⟨Av, cv, rfl⟩ := ho'.shape
  have hcw := ((HKG.out.drew.alloc (.cells #[.int .i64 x, .int .i64 y, .int .i64 z] 61)).grown hg' (fun e => Hgu.out e.symm))
  have cw := (hcw.cell (n0 * 3 + 1)).trans Hcg.out
  have fw := hcw.frozen (n0 * 3 + 1)
  refine hK.out _ _ ?_ (fun hHeld => ?_)
  · exact HC.out _ ((hg'.block _ (by simp; omega) (fun e => Hgmu.out e.symm)).trans (Below.heap_alloc W.drew (.cells #[.int .i64 x, .int .i64 y, .int .i64 z] 61) _ hmlt)) ((hg'.block _ (by simp; omega) (fun e => Hub.out e.symm)).trans (Below.heap_alloc W.drew (.cells #[.int .i64 x, .int .i64 y, .int .i64 z] 61) _ hxlt))
  clear hK K
  (try simp only [Act.put, List.setIfInBounds_toArray, List.set_cons_zero, List.set_cons_succ])
  refine wpAnyH_take (i := 16) (v := ?vvd16) (by rw [List.getElem?_toArray]; exact rfl) (by kernel_rfl) (by kernel_rfl) (by kernel_rfl) (by intro _ _ _ h; exact h) (Or.inl ⟨by rfl, ?hyd16⟩) hHeld ?restd16
  case' hyd16 => (intro w hSw; (try dsimp only at hSw); go_simp; try (with_reducible rfl))
  (try simp only [Act.put, List.setIfInBounds_toArray, List.set_cons_zero, List.set_cons_succ])
  refine wpAnyH_take (i := 17) (v := ?vvd17) (by rw [List.getElem?_toArray]; exact rfl) (by kernel_rfl) (by kernel_rfl) (by kernel_rfl) (by intro _ _ _ h; exact h) (Or.inl ⟨by rfl, ?hyd17⟩) hHeld ?restd17
  case' hyd17 => (intro w hSw; (try dsimp only at hSw); go_simp; try (with_reducible rfl))
  (try simp only [Act.put, List.setIfInBounds_toArray, List.set_cons_zero, List.set_cons_succ])
  refine wpAnyH_ready (rs := [18]) (by kernel_rfl) (by simp) ?_
  refine AllReadyH.cons (by rw [List.getElem?_toArray]; exact rfl) (fun K hK => ?_) AllReadyH.nil
  go_simp
  refine hK.out _ _ ?_ (fun hHeld => ?_)
  · exact HC.out _ ((Below.heap_setCell _ ⟨g, n0 * 3 + 1, none⟩ _ _ hggm.symm).trans ((hg'.block _ (by simp; omega) (fun e => Hgmu.out e.symm)).trans (Below.heap_alloc W.drew (.cells #[.int .i64 x, .int .i64 y, .int .i64 z] 61) _ hmlt))) ((Below.heap_setCell _ ⟨g, n0 * 3 + 1, none⟩ _ _ hgwx).trans ((hg'.block _ (by simp; omega) (fun e => Hub.out e.symm)).trans (Below.heap_alloc W.drew (.cells #[.int .i64 x, .int .i64 y, .int .i64 z] 61) _ hxlt)))
  clear hK K
  (try simp only [Act.put, List.setIfInBounds_toArray, List.set_cons_zero, List.set_cons_succ])
  refine wpAnyH_done (by kernel_rfl) ?_ _
  have hKM := ((HKM.out.drew.alloc (.cells #[.int .i64 x, .int .i64 y, .int .i64 z] 61)).grown hg' (fun e => Hgmu.out e.symm)).far (p := ⟨g, n0 * 3 + 1, none⟩) hggm.symm (.slice Av (L + 1) cv)
  obtain ⟨y0, y1, _, _⟩ := hKM.two
  have D0 := HDW.out.drew.alloc (.cells #[.int .i64 x, .int .i64 y, .int .i64 z] 61)
  have D1 := D0.append He.out (by dsimp only; rw [HL.out]; exact hg') (q := (.slice Av (L + 1) cv, L + 1, flat3 (t.2.1 ++ [(x, y, z)]))) ho'.of (by dsimp only; rw [HL.out]; exact hat'.imp id (fun e k hk => by rw [e] at hk; injection hk with hk; exact Nat.le_of_eq hk))
  have hjl := (List.getElem?_eq_some_iff.1 He.out).1
  have r1 := (D1.cells (List.getElem?_set_self hjl)).2.1
  dsimp only at r1
  have q1 : (w'.setCell ⟨g, n0 * 3 + 1, none⟩ (.slice Av (L + 1) cv)).cell? ⟨bp, op + n0 * 2 + 1, none⟩ = some (.slice B' kk' d') := (World.cell?_setCell_far _ ⟨g, n0 * 3 + 1, none⟩ ⟨bp, op + n0 * 2 + 1, none⟩ _ hgbp).trans ((World.cell?_of_block ((hg'.block bp (by simp; omega) (fun e => Hbpu.out e.symm)).trans (Below.heap_alloc W.drew (.cells #[.int .i64 x, .int .i64 y, .int .i64 z] 61) _ hbW))).trans HP1.out)
  have hS := OT.S_set (v := .slice (some ⟨g, 0, none⟩) n cg) He.out (e' := (t.1, (.slice Av (L + 1) cv, L + 1, flat3 (t.2.1 ++ [(x, y, z)])), t.2.2)) (N := w.heap.size) (by dsimp only; rw [HL.out]; exact hat'.imp id (fun e k hk => by rw [e] at hk; injection hk with hk; rw [← hk]; have h9 := HWz.out; show w.heap.size ≤ (W.alloc (.cells #[.int .i64 x, .int .i64 y, .int .i64 z] 61)).heap.size; rw [World.size_alloc]; omega))
  have hsy := SaysT.set_ HMs.out n0 (t.1, t.2.1 ++ [(x, y, z)], t.2.2) (.slice Av (L + 1) cv) (L + 1)
  have hch : Chg (OT.S (.slice (some ⟨g, 0, none⟩) n cg) es) w (w'.setCell ⟨g, n0 * 3 + 1, none⟩ (.slice Av (L + 1) cv)) :=
    (((Chg.of_below HBW.out).trans (Chg.of_below ((Below.refl _ _).drew.alloc (by simp) (.cells #[.int .i64 x, .int .i64 y, .int .i64 z] 61)))).trans (Chg.of_grown hg' (fun b hb => .inr ⟨n0, _, He.out, by dsimp only; rw [HL.out]; exact hb⟩))).trans (Chg.setCell (p := ⟨g, n0 * 3 + 1, none⟩) (.inl rfl) _)
  have HD1 := hide D1; have HKM2 := hide hKM; have HS := hide hS; have Hsy := hide hsy; have Hch := hide hch
  clear D0 D1 hKM hS hsy hch hcw cw fw ho' hat' hg' KX KN oW dz1 hc1W
  go_wp2_with fail
  go_quiet (fail)
  go_wp2_with fail
  go_ret
  refine ⟨_, ?_, ⟨HKM2.out, HD1.out.below (below_drewN (Below.refl _ _) _), Hsy.out, hgmlo⟩, Hch.out.trans (Chg.of_below (below_drewN (Below.refl _ _) _)), HS.out⟩
  have hb : (((L + 1 : Nat) : Int) == (kk' : Int)) = decide (t.2.1.length + 1 = ys.length) := by rw [HL.out, Hyl.out, Bool.eq_iff_iff, decide_eq_true_iff, beq_iff_eq]; omega
  rw [← hb]
  rfl
end Go.Proofs.YtcfkemchekmjbaaGreatDoor

namespace Go.Proofs.YtcfkemchekmjbaaGreatDoor
open Go.RowKit
def OW (t : TypeId) (s : Nat) (w : World) (B : Nat) (v : Value) (n : Nat) (xs : List Int) : Prop :=
  n ≤ 1048576 ∧ xs.length = n * s ∧ ((v = .slice none 0 0 ∧ n = 0) ∨ ∃ (g c : Nat) (cur : Array Value), v = .slice (some ⟨g, 0, none⟩) n c ∧ B ≤ g ∧ Blk w g t cur ∧ n ≤ c ∧ c ≤ maxLen ∧ n * s ≤ cur.size ∧ cur.toList.take (n * s) = xs.map (Value.int .i64))
section
variable {t : TypeId} {s : Nat} {w w' : World} {B B' n : Nat} {v : Value} {xs : List Int}
theorem OF.ow (h : OF t s w B v n xs) : OW t s w B v n xs := by
  refine ⟨h.2, h.len, ?_⟩
  rcases h.1.2 with h1 | ⟨g, cap, cur, rfl, hB, hg, hc, hm, hs, ht⟩
  · exact .inl h1
  · have h5 : n * s ≤ cap * s := Nat.mul_le_mul_right s hc
    exact .inr ⟨g, cap, cur, rfl, hB, hg, hc, hm, by omega, ht⟩
theorem OW.len (h : OW t s w B v n xs) : xs.length = n * s := h.2.1
theorem OW.small (h : OW t s w B v n xs) : n ≤ 1048576 := h.1
theorem OW.ne_blk {g : Nat} {t' : TypeId} {cs : Array Value} (h : OW t s w B v n xs) (hb : Blk w g t' cs) (ht : t' ≠ t) : v.ownBlock ≠ some g := by
  rcases h.2.2 with ⟨rfl, _⟩ | ⟨g', cap, cur, rfl, _, hh, _⟩
  · simp [Value.ownBlock]
  · intro he
    have e : g' = g := by have h : some g' = some g := he; injection h
    subst e
    unfold Blk at hb hh; rw [hh] at hb; injection hb with hb; injection hb with _ h2; exact ht h2.symm
theorem OW.chg {S : Nat → Prop} (h : OW t s w B v n xs) (hc : Chg S w w') (hS : ∀ k, v.ownBlock = some k → ¬ S k) : OW t s w' B v n xs := by
  refine ⟨h.1, h.2.1, ?_⟩
  rcases h.2.2 with h1 | ⟨g, c, cur, rfl, hb, hgg, rest⟩
  · exact .inl h1
  · exact .inr ⟨g, c, cur, rfl, hb, hgg.chg hc (hS g rfl), rest⟩
theorem OW.below (h : OW t s w B v n xs) (hb : Below w.heap.size w w') : OW t s w' B v n xs := h.chg (S := fun _ => False) (Chg.of_below hb) (fun _ _ => id)
theorem OW.lt (h : OW t s w B v n xs) : ∀ k, v.ownBlock = some k → B ≤ k ∧ k < w.heap.size := fun k hk => by
  rcases h.2.2 with ⟨rfl, _⟩ | ⟨g, c, cur, rfl, hb, hgg, _⟩
  · simp [Value.ownBlock] at hk
  · have e1 : g = k := by have h : some g = some k := hk; injection h
    subst e1; exact ⟨hb, hgg.lt⟩
theorem OW.mono (h : OW t s w B v n xs) (hB : B' ≤ B) : OW t s w B' v n xs := by
  refine ⟨h.1, h.2.1, ?_⟩
  rcases h.2.2 with h1 | ⟨g, c, cur, hv, hb, r⟩
  · exact .inl h1
  · exact .inr ⟨g, c, cur, hv, by omega, r⟩
theorem OW.grown {row : Option Nat} (h : OW t s w B v n xs) (hg : w.grownBy w' row) (hne : v.ownBlock = none ∨ v.ownBlock ≠ row) : OW t s w' B v n xs :=
  h.chg (S := fun k => row = some k) (Chg.of_grown hg (fun _ e => e)) (fun k hk hr => by
    rcases hne with h1 | h1
    · rw [h1] at hk; cases hk
    · exact h1 (by rw [hk, hr]))
theorem OW.form (h : OW t s w B v n xs) :
    ∃ A c, v = .slice A n c ∧ n ≤ c ∧ c ≤ maxLen ∧ (A = none → n = 0 ∧ c = 0) ∧ (∀ a, A = some a → ∃ g, a = ⟨g, 0, none⟩ ∧ B ≤ g ∧ g < w.heap.size) := by
  rcases h.2.2 with ⟨rfl, hn⟩ | ⟨g, c, cur, rfl, hB, hg, hc, hm, _⟩
  · subst hn
    exact ⟨none, 0, rfl, by simp, by simp [maxLen], fun _ => ⟨rfl, rfl⟩, fun a ha => by cases ha⟩
  · refine ⟨some ⟨g, 0, none⟩, c, rfl, hc, hm, (fun h => by cases h), fun a ha => ?_⟩
    injection ha with ha
    exact ⟨g, ha.symm, hB, hg.lt⟩
theorem OW.blk {g c : Nat} (h : OW t s w B (.slice (some ⟨g, 0, none⟩) n c) n xs) : ∃ cur : Array Value, B ≤ g ∧ Blk w g t cur ∧ n ≤ c ∧ c ≤ maxLen ∧ n * s ≤ cur.size ∧ cur.toList.take (n * s) = xs.map (Value.int .i64) := by
  rcases h.2.2 with ⟨h1, _⟩ | ⟨g', c', cur, h1, r⟩
  · cases h1
  · injection h1 with h1 _ h3; injection h1 with h1; injection h1 with h1; subst h1; subst h3; exact ⟨cur, r⟩
theorem OW.store {g c : Nat} (h : OW t s w B (.slice (some ⟨g, 0, none⟩) n c) n xs) (j : Nat) (x : Int) :
    OW t s (w.setCell ⟨g, j, none⟩ (.int .i64 x)) B (.slice (some ⟨g, 0, none⟩) n c) n (xs.set j x) := by
  obtain ⟨cur, h1, h2, h3, h4, h5, h6⟩ := h.blk
  refine ⟨h.1, by simp [h.2.1], .inr ⟨g, c, _, rfl, h1, h2.set_ j (.int .i64 x), h3, h4, by simpa using h5, ?_⟩⟩
  rw [Array.toList_setIfInBounds, List.map_set, ← h6, List.take_set]
theorem OW.cell {g c : Nat} (h : OW t s w B (.slice (some ⟨g, 0, none⟩) n c) n xs) (j : Nat) (hj : j < n * s) : ∃ x, xs[j]? = some x ∧ w.cell? ⟨g, j, none⟩ = some (.int .i64 x) := by
  obtain ⟨cur, h1, h2, h3, h4, h5, h6⟩ := h.blk
  have hl : j < xs.length := by rw [h.2.1]; exact hj
  refine ⟨xs[j], List.getElem?_eq_getElem hl, ?_⟩
  rw [h2.cell]
  have h7 := congrArg (fun l => l[j]?) h6
  simp only [List.getElem?_take, hj, if_true, List.getElem?_map, List.getElem?_eq_getElem hl, Option.map_some] at h7
  simpa using h7
theorem OW.free {g c : Nat} (h : OW t s w B (.slice (some ⟨g, 0, none⟩) n c) n xs) (j : Nat) : w.frozen? ⟨g, j, none⟩ = false := by
  obtain ⟨cur, h1, h2, _⟩ := h.blk; exact h2.frozen j
end
theorem OW.s3 {t : TypeId} {w : World} {B n : Nat} {v : Value} {ts : List T3} (h : OW t 3 w B v n (flat3 ts)) : S3 w v n ts := by
  have hl := h.len
  rw [flat3_len] at hl
  rcases h.2.2 with ⟨rfl, hn⟩ | ⟨g, c, cur, rfl, hB, hg, hc, hm, hs, ht⟩
  · subst hn
    have hx : ts = [] := List.eq_nil_of_length_eq_zero (by omega)
    subst hx
    exact ⟨none, 0, rfl, by simp, by simp, R3.nil⟩
  · refine ⟨some ⟨g, 0, none⟩, c, rfl, hc, h.1, by omega, fun _ => ⟨g, 0, rfl, hg.lt, fun k x hx => ?_⟩⟩
    have hk : k < n * 3 := by rw [← h.len]; exact (List.getElem?_eq_some_iff.1 hx).1
    obtain ⟨x', h1, h2⟩ := h.cell k hk
    rw [Nat.zero_add]
    rw [hx] at h1; injection h1 with h1; subst h1; exact h2
end Go.Proofs.YtcfkemchekmjbaaGreatDoor
