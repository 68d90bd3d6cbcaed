/- Merged (what the law reaches): Mat2, Edges. -/
import Derived.Test.YtcfkemchekmjbaaGreatDoorQzb
namespace Go.Proofs.YtcfkemchekmjbaaGreatDoor
open Go.RowKit
set_option maxRecDepth 100000 in
set_option maxHeartbeats 4000000 in
theorem has_c {a b c d e f i j : Nat} {R : Nat → Nat → Prop} {w : World} (hm : MatOf [a, b, c, d, e, f] R) (hi : i < 6) (hj : j < 6) :
    Calls Tryz.prog 160 #[.agg #[Value.int .u64 (a : Int), Value.int .u64 (b : Int), Value.int .u64 (c : Int), Value.int .u64 (d : Int), Value.int .u64 (e : Int), Value.int .u64 (f : Int)], .int .i64 (i : Int), .int .i64 (j : Int)] w fun en w' => en = .returned (.bool (cd (R i j))) ∧ Below w.heap.size w w' := by
  have hb := (Below.refl w.heap.size w).alloc (Nat.le_refl _) (.cells #[Value.int .u64 (a : Int), Value.int .u64 (b : Int), Value.int .u64 (c : Int), Value.int .u64 (d : Int), Value.int .u64 (e : Int), Value.int .u64 (f : Int)] 184)
  have K : Blk (w.alloc (.cells #[Value.int .u64 (a : Int), Value.int .u64 (b : Int), Value.int .u64 (c : Int), Value.int .u64 (d : Int), Value.int .u64 (e : Int), Value.int .u64 (f : Int)] 184)) w.heap.size 184 (matV [a, b, c, d, e, f]) := Blk.new w _ _
  obtain ⟨g, hg⟩ : ∃ g, [a, b, c, d, e, f].getD i 0 = g := ⟨_, rfl⟩
  have ci : (w.alloc (.cells #[Value.int .u64 (a : Int), Value.int .u64 (b : Int), Value.int .u64 (c : Int), Value.int .u64 (d : Int), Value.int .u64 (e : Int), Value.int .u64 (f : Int)] 184)).cell? ⟨w.heap.size, i, none⟩ = some (.int .u64 (g : Int)) := by rw [← hg]; exact (K.cell i).trans (matV_get (hm.get hi))
  have lg : g < 64 := by rw [← hg]; exact hm.lt i
  have hbit := bit_and (m := j) lg
  have hr : g.testBit j = cd (R i j) := by rw [Bool.eq_iff_iff, cd_true, ← hg]; exact hm.2.2 i j hi hj
  rw [hr] at hbit
  obtain ⟨r, hrr⟩ : ∃ r, cd (R i j) = r := ⟨_, rfl⟩
  rw [hrr] at hbit ⊢
  have i0 : (0 : Int) ≤ i := by omega
  have i1 : (i : Int) < 6 := by omega
  have j0 : (0 : Int) ≤ j := by omega
  have j1 : (j : Int) < 64 := by omega
  have HB := hide hb
  clear K hg hr hrr hb hm
  go_enter Tryz.func160, Tryz.ntmps160
  cases r
  · go_wp2_with fail
    go_ret
    exact ⟨rfl, HB.out⟩
  · go_wp2_with fail
    go_ret
    exact ⟨rfl, HB.out⟩
set_option maxRecDepth 100000 in
set_option maxHeartbeats 8000000 in
theorem around_c {a b c d e f : Nat} {R : Nat → Nat → Prop} {w : World} (hm : MatOf [a, b, c, d, e, f] R) :
    Calls Tryz.prog 158 #[.agg #[Value.int .u64 (a : Int), Value.int .u64 (b : Int), Value.int .u64 (c : Int), Value.int .u64 (d : Int), Value.int .u64 (e : Int), Value.int .u64 (f : Int)]] w fun en w' => en = .returned (.bool (cd (∃ i, i < 6 ∧ WK R 6 i i))) ∧ Below w.heap.size w w' := by
  have hb := (Below.refl w.heap.size w).alloc (Nat.le_refl _) (.cells #[Value.int .u64 (a : Int), Value.int .u64 (b : Int), Value.int .u64 (c : Int), Value.int .u64 (d : Int), Value.int .u64 (e : Int), Value.int .u64 (f : Int)] 184)
  have K : Blk (w.alloc (.cells #[Value.int .u64 (a : Int), Value.int .u64 (b : Int), Value.int .u64 (c : Int), Value.int .u64 (d : Int), Value.int .u64 (e : Int), Value.int .u64 (f : Int)] 184)) w.heap.size 184 #[Value.int .u64 (a : Int), Value.int .u64 (b : Int), Value.int .u64 (c : Int), Value.int .u64 (d : Int), Value.int .u64 (e : Int), Value.int .u64 (f : Int)] := Blk.new w _ _
  have c0 := K.cell 0; have c1 := K.cell 1; have c2 := K.cell 2; have c3 := K.cell 3; have c4 := K.cell 4; have c5 := K.cell 5
  have HB := hide hb; have HM := hide hm
  clear hb hm K
  go_enter Tryz.func158, Tryz.ntmps158
  go_wp2_with fail
  refine (reach_c HM.out).mono ?_
  rintro en w2 ⟨a', b', c', d', e', f', rfl, hm2, b2⟩
  have HM2 := hide hm2
  have B2 := HB.out.trans (b2.mono HB.out.size)
  have k3 := Blk.new w2 184 #[Value.int .u64 (a' : Int), Value.int .u64 (b' : Int), Value.int .u64 (c' : Int), Value.int .u64 (d' : Int), Value.int .u64 (e' : Int), Value.int .u64 (f' : Int)]
  have B3 := B2.alloc B2.size (.cells #[Value.int .u64 (a' : Int), Value.int .u64 (b' : Int), Value.int .u64 (c' : Int), Value.int .u64 (d' : Int), Value.int .u64 (e' : Int), Value.int .u64 (f' : Int)] 184)
  have K3 := hide k3; have B3H := hide B3
  have hz2 := B2.size
  clear c0 c1 c2 c3 c4 c5 b2 hm2 k3 B3 B2
  go_wp2_with fail
  go_loopw [7] (fun i wr => ∃ k : Nat, k ≤ 6 ∧ i = .int .i64 k ∧ (∀ q, q < k → ¬ WK R 6 q q) ∧ Blk wr w2.heap.size 184 #[Value.int .u64 (a' : Int), Value.int .u64 (b' : Int), Value.int .u64 (c' : Int), Value.int .u64 (d' : Int), Value.int .u64 (e' : Int), Value.int .u64 (f' : Int)] ∧ Below w.heap.size w wr) (fun i _ => 6 - (intOf i).toNat)
  case atStart => exact ⟨0, Nat.zero_le _, rfl, fun q h => by omega, K3.out, B3H.out⟩
  case round =>
    clear K3 B3H
    obtain ⟨k, hk, rfl, hno, k3, bw⟩ := hrel
    have HNO := hide hno; have K3 := hide k3; have BW := hide bw
    clear hno bw
    by_cases hlt : k < 6
    · have c0 := k3.cell 0; have c1 := k3.cell 1; have c2 := k3.cell 2; have c3 := k3.cell 3; have c4 := k3.cell 4; have c5 := k3.cell 5
      clear k3
      go_wp2_with fail
      refine (has_c HM2.out hlt hlt).mono ?_
      rintro en w5 ⟨rfl, b5⟩
      have B5 := hide (below_step BW.out b5)
      have K5 := hide (K3.out.belowAll b5)
      clear c0 c1 c2 c3 c4 c5 b5
      by_cases hw : WK R 6 k k
      · rw [cd_yes hw]
        have hf : cd (∃ i, i < 6 ∧ WK R 6 i i) = true := cd_yes ⟨k, hlt, hw⟩
        have F := hide hf; clear hf hw
        go_wp2_with fail
        go_ret
        exact ⟨congrArg (fun q => Ending.returned (.bool q)) F.out.symm, B5.out⟩
      · rw [cd_no hw]
        have HN2 := hide (show ∀ q, q < k + 1 → ¬ WK R 6 q q from fun q hq => by
          by_cases e : q = k
          · subst e; exact hw
          · exact HNO.out q (by omega))
        clear hw
        go_wp2_with fail
        go_roundw
        case rel => exact ⟨k + 1, by omega, by go_num, HN2.out, K5.out, B5.out⟩
        case measure => simp [intOf]; omega
    · obtain rfl : k = 6 := by omega
      have hf : cd (∃ i, i < 6 ∧ WK R 6 i i) = false := cd_no (by rintro ⟨i, h1, h2⟩; exact HNO.out i h1 h2)
      have F := hide hf; clear hf k3
      go_wp2_with fail
      go_ret
      exact ⟨congrArg (fun q => Ending.returned (.bool q)) F.out.symm, BW.out⟩
/-- Of some kinds, edges as a relation. -/
def NdK (es : List T3) (ks : List Int) (i j : Nat) : Prop := ∃ k, ((i : Int), (j : Int), k) ∈ es ∧ k ∈ ks
def MatR (w : World) (R : Nat → Nat → Prop) (en : Ending) (w' : World) : Prop := ∃ a b c d e f : Nat, en = .returned (.agg #[Value.int .u64 (a : Int), Value.int .u64 (b : Int), Value.int .u64 (c : Int), Value.int .u64 (d : Int), Value.int .u64 (e : Int), Value.int .u64 (f : Int)]) ∧ MatOf [a, b, c, d, e, f] R ∧ Below w.heap.size w w'
set_option maxRecDepth 100000 in
set_option maxHeartbeats 8000000 in
theorem matrixOf_c {u v : Value} {n m : Nat} {es : List T3} {ks : List Int} {w : World} (hu : S3 w u n es) (hv : SI w v m ks) (h6 : ∀ e ∈ es, (0 ≤ e.1 ∧ e.1 < 6) ∧ (0 ≤ e.2.1 ∧ e.2.1 < 6)) :
    Calls Tryz.prog 157 #[u, v] w (MatR w (NdK es ks)) := by
  obtain ⟨A, cc, rfl, _, hn, ha⟩ := hu
  obtain ⟨Av, cv, rfl⟩ := hv.shape
  have hl := hide ha.len
  have H6 := hide h6
  obtain ⟨W, hW⟩ : ∃ q, (w.alloc (.cells #[.int .u64 0, .int .u64 0, .int .u64 0, .int .u64 0, .int .u64 0, .int .u64 0] 184)).alloc (.cells #[.int .u64 0, .int .u64 0, .int .u64 0, .int .u64 0, .int .u64 0, .int .u64 0] 184) = q := ⟨_, rfl⟩
  have k1 : Blk W w.heap.size 184 #[.int .u64 0, .int .u64 0, .int .u64 0, .int .u64 0, .int .u64 0, .int .u64 0] := by rw [← hW]; exact (Blk.new w _ _).alloc _
  have k2 : Blk W (w.heap.size + 1) 184 (matV [0, 0, 0, 0, 0, 0]) := by
    rw [← hW]; have := Blk.new (w.alloc (.cells #[.int .u64 0, .int .u64 0, .int .u64 0, .int .u64 0, .int .u64 0, .int .u64 0] 184)) 184 #[.int .u64 0, .int .u64 0, .int .u64 0, .int .u64 0, .int .u64 0, .int .u64 0]
    rw [World.size_alloc] at this; exact this
  have bW : Below w.heap.size w W := by rw [← hW]; exact ((Below.refl _ _).alloc (Nat.le_refl _) _).alloc (by simp) _
  have K1 := hide k1; have K2 := hide k2; have BW := hide bW; have HW := hide hW
  have HM0 := hide (show MatOf [0, 0, 0, 0, 0, 0] (NdK (es.take 0) ks) from MatOf.zero.congr fun i j _ _ => ⟨False.elim, by rintro ⟨k, h, _⟩; simp at h⟩)
  clear k1 k2 bW hW h6
  go_enter Tryz.func157, Tryz.ntmps157
  go_wp2_with fail
  rw [HW.out]
  go_loopw [10] (fun i wr => ∃ (k : Nat) (ms : List Nat), k ≤ n ∧ i = .int .i64 k ∧ Blk wr (w.heap.size + 1) 184 (matV ms) ∧ MatOf ms (NdK (es.take k) ks) ∧ Blk wr w.heap.size 184 #[.int .u64 0, .int .u64 0, .int .u64 0, .int .u64 0, .int .u64 0, .int .u64 0] ∧ Below w.heap.size w wr) (fun i _ => n - (intOf i).toNat)
  case atStart => exact ⟨0, _, Nat.zero_le _, rfl, K2.out, HM0.out, K1.out, BW.out⟩
  case round =>
    clear K1 K2 BW HM0
    obtain ⟨k, ms, hk, rfl, k1, hm, k2, bw⟩ := hrel
    by_cases hlt : k < n
    · obtain ⟨b2, o2, x, y, z, rfl, hb2, hx, q0, q1, q2⟩ := ha.at_ hlt
      have d0 := (bw.cell (p := ⟨b2, o2 + k * 3, none⟩) hb2).trans q0
      have d1 := (bw.cell (p := ⟨b2, o2 + k * 3 + 1, none⟩) hb2).trans q1
      have d2 := (bw.cell (p := ⟨b2, o2 + k * 3 + 2, none⟩) hb2).trans q2
      obtain ⟨⟨x0, x6⟩, y0, y6⟩ := H6.out _ (List.mem_of_getElem? hx)
      dsimp only at x0 x6 y0 y6
      obtain ⟨xn, rfl⟩ : ∃ i : Nat, x = i := ⟨x.toNat, by omega⟩
      obtain ⟨yn, rfl⟩ : ∃ i : Nat, y = i := ⟨y.toNat, by omega⟩
      have hxn : xn < 6 := by omega
      have hyn : yn < 6 := by omega
      have y64 : (yn : Int) < 64 := by omega
      have HX := hide hx
      have hlt1 := k1.lt
      have KE := Blk.new wr 146 #[.int .i64 (xn : Int), .int .i64 (yn : Int), .int .i64 z]
      have K1 := hide (k1.alloc (.cells #[.int .i64 (xn : Int), .int .i64 (yn : Int), .int .i64 z] 146))
      have K2 := hide (k2.alloc (.cells #[.int .i64 (xn : Int), .int .i64 (yn : Int), .int .i64 z] 146))
      have B1 := hide (bw.alloc bw.size (.cells #[.int .i64 (xn : Int), .int .i64 (yn : Int), .int .i64 z] 146))
      have hvb := hv.below B1.out
      have k0 : (0 : Int) ≤ k := by omega
      have kn : (k : Int) < n := by omega
      obtain ⟨g, hg⟩ : ∃ g, ms.getD xn 0 = g := ⟨_, rfl⟩
      have cg := (K1.out.cell xn).trans (matV_get (hm.get hxn))
      rw [hg] at cg
      have fg := K1.out.frozen xn
      have lg : g < 64 := by rw [← hg]; exact hm.lt xn
      have hor : bits .or .u64 (g : Int) (IntKind.u64.wrap (2 ^ yn)) = ((g ||| 2 ^ yn : Nat) : Int) := by rw [wrap_pow hyn]; exact bit_or lg (pow64 hyn)
      obtain ⟨e0, e1, e2⟩ := KE.three
      have HM := hide hm; have HG := hide hg
      have hnew := hm.or hxn (pow64 hyn) (fun j => yn = j) (fun j _ => by rw [Nat.testBit_two_pow, decide_eq_true_eq])
      rw [hg] at hnew
      have HNEW := hide hnew
      have hstep : ∀ i j : Nat, NdK (es.take (k + 1)) ks i j ↔ (NdK (es.take k) ks i j ∨ (z ∈ ks ∧ i = xn ∧ yn = j)) := fun i j => by
        unfold NdK
        rw [List.take_add_one, HX.out]
        constructor
        · rintro ⟨q, h1, h2⟩
          rcases List.mem_append.1 h1 with h1 | h1
          · exact .inl ⟨q, h1, h2⟩
          · simp at h1
            obtain ⟨h3, h4, rfl⟩ := h1
            exact .inr ⟨h2, by omega, by omega⟩
        · rintro (⟨q, h1, h2⟩ | ⟨h1, rfl, rfl⟩)
          · exact ⟨q, List.mem_append_left _ h1, h2⟩
          · exact ⟨z, List.mem_append_right _ (by simp), h1⟩
      have HST := hide hstep
      have hne : w.heap.size + 1 ≠ wr.heap.size := by omega
      clear q0 q1 q2 hx k1 k2 bw hm hg hnew hstep KE
      go_wp2_with fail
      refine (ContainsInt_c hvb).mono ?_
      rintro en w2 ⟨rfl, rfl⟩
      obtain ⟨W1, hW1⟩ : ∃ q, wr.alloc (.cells #[.int .i64 (xn : Int), .int .i64 (yn : Int), .int .i64 z] 146) = q := ⟨_, rfl⟩
      rw [hW1] at K1 K2 B1 cg fg e0 e1 e2 ⊢
      clear hW1 d0 d1 d2 hvb hne
      by_cases hz : z ∈ ks
      · rw [decide_eq_true hz]
        have HM2 := hide (HNEW.out.congr (S := NdK (es.take (k + 1)) ks) (fun i j _ _ => by
          rw [HST.out]
          constructor
          · rintro (h | ⟨h1, h2⟩)
            · exact .inl h
            · exact .inr ⟨hz, h1, h2⟩
          · rintro (h | ⟨_, h1, h2⟩)
            · exact .inl h
            · exact .inr ⟨h1, h2⟩))
        have kz := K1.out.set_ xn (.int .u64 ((g ||| 2 ^ yn : Nat) : Int))
        rw [matV_set] at kz
        have KZ := hide kz
        have K2Z := hide (K2.out.far (p := ⟨w.heap.size + 1, xn, none⟩) (by show w.heap.size ≠ w.heap.size + 1; omega) (.int .u64 ((g ||| 2 ^ yn : Nat) : Int)))
        have BZ := hide (B1.out.setCell (p := ⟨w.heap.size + 1, xn, none⟩) (Nat.le_succ _) (.int .u64 ((g ||| 2 ^ yn : Nat) : Int)))
        clear hz kz
        go_wp2_with fail
        go_region
        go_wp2_with fail
        go_roundw
        case rel => exact ⟨k + 1, _, by omega, by go_num, KZ.out.drew, HM2.out, K2Z.out.drew, BZ.out.drew⟩
        case measure => simp [intOf]; omega
      · rw [decide_eq_false hz]
        have HM2 := hide (HM.out.congr (S := NdK (es.take (k + 1)) ks) (fun i j _ _ => by
          rw [HST.out]
          exact ⟨.inl, fun h => h.elim id (fun h => absurd h.1 hz)⟩))
        clear hz
        go_wp2_with fail
        go_roundw
        case rel => exact ⟨k + 1, ms, by omega, by go_num, K1.out, HM2.out, K2.out, B1.out⟩
        case measure => simp [intOf]; omega
    · obtain rfl : k = n := by omega
      obtain ⟨a', b', c', d', e', f', rfl⟩ := six_of hm.1
      have hfin : MatOf [a', b', c', d', e', f'] (NdK es ks) := by rw [show es = es.take k by rw [← hl.out, List.take_length]]; exact hm
      have c0 := k1.cell 0; have c1 := k1.cell 1; have c2 := k1.cell 2; have c3 := k1.cell 3; have c4 := k1.cell 4; have c5 := k1.cell 5
      have d0 := k2.cell 0; have d1 := k2.cell 1; have d2 := k2.cell 2; have d3 := k2.cell 3; have d4 := k2.cell 4; have d5 := k2.cell 5
      have f0 := k2.frozen 0; have f1 := k2.frozen 1; have f2 := k2.frozen 2; have f3 := k2.frozen 3; have f4 := k2.frozen 4; have f5 := k2.frozen 5
      simp only [matV, List.map_cons, List.map_nil, List.getElem?_toArray, List.getElem?_cons_zero, List.getElem?_cons_succ] at c0 c1 c2 c3 c4 c5
      have K2 := hide k2; have BW := hide bw; have HM := hide hfin
      clear k1 k2 bw hm hfin
      go_wp2_with fail
      obtain ⟨W6, hW6⟩ : ∃ q, ((((((wr.setCell ⟨w.heap.size, 0, none⟩ (.int .u64 (a' : Int))).setCell ⟨w.heap.size, 1, none⟩ (.int .u64 (b' : Int))).setCell ⟨w.heap.size, 2, none⟩ (.int .u64 (c' : Int))).setCell ⟨w.heap.size, 3, none⟩ (.int .u64 (d' : Int))).setCell ⟨w.heap.size, 4, none⟩ (.int .u64 (e' : Int))).setCell ⟨w.heap.size, 5, none⟩ (.int .u64 (f' : Int))) = q := ⟨_, rfl⟩
      rw [hW6]
      have kk : Blk W6 w.heap.size 184 #[.int .u64 (a' : Int), .int .u64 (b' : Int), .int .u64 (c' : Int), .int .u64 (d' : Int), .int .u64 (e' : Int), .int .u64 (f' : Int)] := by
        rw [← hW6]; exact (((((K2.out.set_ 0 _).set_ 1 _).set_ 2 _).set_ 3 _).set_ 4 _).set_ 5 _
      have B6 : Below w.heap.size w W6 := by
        rw [← hW6]
        have hz : w.heap.size ≤ w.heap.size := Nat.le_refl _
        exact (((((BW.out.setCell (p := ⟨w.heap.size, 0, none⟩) hz _).setCell (p := ⟨w.heap.size, 1, none⟩) hz _).setCell (p := ⟨w.heap.size, 2, none⟩) hz _).setCell (p := ⟨w.heap.size, 3, none⟩) hz _).setCell (p := ⟨w.heap.size, 4, none⟩) hz _).setCell (p := ⟨w.heap.size, 5, none⟩) hz _
      have g0 := kk.cell 0; have g1 := kk.cell 1; have g2 := kk.cell 2; have g3 := kk.cell 3; have g4 := kk.cell 4; have g5 := kk.cell 5
      clear c0 c1 c2 c3 c4 c5 d0 d1 d2 d3 d4 d5 f0 f1 f2 f3 f4 f5 hW6
      refine bodyPost_ret (v := .agg #[.int .u64 (a' : Int), .int .u64 (b' : Int), .int .u64 (c' : Int), .int .u64 (d' : Int), .int .u64 (e' : Int), .int .u64 (f' : Int)]) (by simp [results, Tryz.results157, go_sem]; go_simp) rfl ?_
      exact ⟨a', b', c', d', e', f', rfl, HM.out, B6⟩
end Go.Proofs.YtcfkemchekmjbaaGreatDoor

namespace Go.Proofs.YtcfkemchekmjbaaGreatDoor
open Go.RowKit
/-- One edge is right; m1: the greatest number. -/
def edgeB (m1 : Int) (e : T3) : Bool := inB e.1 0 m1 && (inB e.2.1 0 m1 && ((!(e.1 == e.2.1)) && inB e.2.2 1 4))
def edgesB (many : Int) (ts : List T3) : Bool := inB many 0 6 && (decide (ts.length ≤ 144) && ts.all (edgeB (many - 1)))
theorem edge_cases (m1 x y z : Int) : (inB x 0 m1 = false ∧ edgeB m1 (x, y, z) = false) ∨ (inB x 0 m1 = true ∧ inB y 0 m1 = false ∧ edgeB m1 (x, y, z) = false) ∨
    (inB x 0 m1 = true ∧ inB y 0 m1 = true ∧ (x == y) = true ∧ edgeB m1 (x, y, z) = false) ∨ (inB x 0 m1 = true ∧ inB y 0 m1 = true ∧ (x == y) = false ∧ inB z 1 4 = false ∧ edgeB m1 (x, y, z) = false) ∨
    (inB x 0 m1 = true ∧ inB y 0 m1 = true ∧ (x == y) = false ∧ inB z 1 4 = true ∧ edgeB m1 (x, y, z) = true) := by
  unfold edgeB
  cases inB x 0 m1 <;> cases inB y 0 m1 <;> cases (x == y) <;> cases inB z 1 4 <;> simp
theorem any_snoc3 {α : Type} {p : α → Bool} {xs : List α} {k : Nat} {x : α} (h : (xs.take k).any p = false) (hx : xs[k]? = some x) (hp : p x = false) : (xs.take (k + 1)).any p = false := by
  rw [List.take_add_one, hx, List.any_append, h]; simp [hp]
theorem any_of_at3 {α : Type} {p : α → Bool} {xs : List α} {k : Nat} {x : α} (hx : xs[k]? = some x) (hp : p x = true) : xs.any p = true :=
  List.any_eq_true.2 ⟨x, List.mem_of_getElem? hx, hp⟩
theorem not_all {α : Type} (p : α → Bool) (xs : List α) : xs.all p = !xs.any (fun e => !p e) := by
  rw [Bool.eq_iff_iff]; simp
set_option maxHeartbeats 4000000 in
theorem EdgesValid_1_c {g : Nat} {many x y z : Int} {t : TypeId} {w : World} (hb : Blk w g t #[.int .i64 many]) (h0 : 0 ≤ many) (h6 : many ≤ 6) :
    Calls Tryz.prog 190 #[.agg #[.int .i64 x, .int .i64 y, .int .i64 z], .pointer (some ⟨g, 0, none⟩)] w fun e w' => e = .returned (.bool (!edgeB (many - 1) (x, y, z))) ∧ Below w.heap.size w w' := by
  have B0 : ∀ o, Below w.heap.size w (w.alloc o) := fun o => (Below.refl _ _).alloc (Nat.le_refl _) o
  have c0 : w.cell? ⟨g, 0, none⟩ = some (.int .i64 many) := hb.cell 0
  have d0 : ∀ o, (w.alloc o).cell? ⟨g, 0, none⟩ = some (.int .i64 many) := fun o => (hb.alloc o).cell 0
  clear hb
  rcases edge_cases (many - 1) x y z with ⟨h1, hf⟩ | ⟨h1, h2, hf⟩ | ⟨h1, h2, h3, hf⟩ | ⟨h1, h2, h3, h4, hf⟩ | ⟨h1, h2, h3, h4, hf⟩
  · have F := hide hf; have H1 := hide h1; clear hf h1
    go_enter Tryz.func190, Tryz.ntmps190
    go_wp2_with (go_at_call 56; refine (within_c).mono ?_; rintro e w' ⟨rfl, rfl⟩; first | rw [H1.out])
    go_ret
    exact ⟨by rw [F.out]; rfl, B0 _⟩
  · have F := hide hf; have H1 := hide h1; have H2 := hide h2; clear hf h1 h2
    go_enter Tryz.func190, Tryz.ntmps190
    go_wp2_with (go_at_call 56; refine (within_c).mono ?_; rintro e w' ⟨rfl, rfl⟩; first | rw [H1.out] | rw [H2.out])
    go_ret
    exact ⟨by rw [F.out]; rfl, B0 _⟩
  · have F := hide hf; have H1 := hide h1; have H2 := hide h2; clear hf h1 h2
    go_enter Tryz.func190, Tryz.ntmps190
    go_wp2_with (go_at_call 56; refine (within_c).mono ?_; rintro e w' ⟨rfl, rfl⟩; first | rw [H1.out] | rw [H2.out])
    go_ret
    exact ⟨by rw [F.out]; rfl, B0 _⟩
  · have F := hide hf; have H1 := hide h1; have H2 := hide h2; have H4 := hide h4; clear hf h1 h2 h4
    go_enter Tryz.func190, Tryz.ntmps190
    go_wp2_with (go_at_call 56; refine (within_c).mono ?_; rintro e w' ⟨rfl, rfl⟩; first | rw [H1.out] | rw [H2.out] | rw [H4.out])
    go_ret
    exact ⟨by rw [F.out]; rfl, B0 _⟩
  · have F := hide hf; have H1 := hide h1; have H2 := hide h2; have H4 := hide h4; clear hf h1 h2 h4
    go_enter Tryz.func190, Tryz.ntmps190
    go_wp2_with (go_at_call 56; refine (within_c).mono ?_; rintro e w' ⟨rfl, rfl⟩; first | rw [H1.out] | rw [H2.out] | rw [H4.out])
    go_ret
    exact ⟨by rw [F.out]; rfl, B0 _⟩
set_option maxHeartbeats 4000000 in
theorem IndexFunc_Edge_c {g : Nat} {many : Int} {t : TypeId} {v : Value} {n : Nat} {ts : List T3} {w : World} (hs : S3 w v n ts) (hb : Blk w g t #[.int .i64 many]) (h0 : 0 ≤ many) (h6 : many ≤ 6) :
    Calls Tryz.prog 215 #[v, .func (.func 190) #[] #[.pointer (some ⟨g, 0, none⟩)]] w fun e w' => ∃ i : Int, e = .returned (.int .i64 i) ∧ (decide (0 ≤ i)) = ts.any (fun e => !edgeB (many - 1) e) ∧ Below w.heap.size w w' := by
  obtain ⟨A, c, rfl, hnc, hn, hr⟩ := hs
  have hl := hide hr.len
  go_enter Tryz.func215, Tryz.ntmps215
  go_wp2
  go_loopw [8] (fun i wr => ∃ k : Nat, k ≤ n ∧ i = .int .i64 k ∧ (ts.take k).any (fun e => !edgeB (many - 1) e) = false ∧ Below w.heap.size w wr) (fun i _ => n - (intOf i).toNat)
  case atStart => exact ⟨0, Nat.zero_le _, rfl, by simp, Below.refl _ _⟩
  case round =>
    obtain ⟨k, hk, rfl, hall, hbel⟩ := hrel
    have Hall := hide hall; clear hall
    by_cases hlt : k < n
    · obtain ⟨b, off, x, y, z, rfl, hbk, hx, p0, p1, p2⟩ := hr.at_ hlt
      have Hx := hide hx; clear hx
      have a0 := (hbel.cell (p := ⟨b, off + k * 3, none⟩) hbk).trans p0
      have a1 := (hbel.cell (p := ⟨b, off + k * 3 + 1, none⟩) hbk).trans p1
      have a2 := (hbel.cell (p := ⟨b, off + k * 3 + 2, none⟩) hbk).trans p2
      clear p0 p1 p2
      cases hv : edgeB (many - 1) (x, y, z)
      · have Hv := hide hv; clear hv
        go_wp2_with fail
        refine (EdgesValid_1_c (hb.below hbel hb.lt) h0 h6).mono ?_
        rintro e w2 ⟨rfl, b2⟩
        have B2 := below_step hbel b2
        rw [Hv.out]
        go_wp2_with fail
        go_ret
        exact ⟨_, rfl, by rw [any_of_at3 Hx.out (by simp [Hv.out])]; simp, B2⟩
      · have Hv := hide hv; clear hv
        go_wp2_with fail
        refine (EdgesValid_1_c (hb.below hbel hb.lt) h0 h6).mono ?_
        rintro e w2 ⟨rfl, b2⟩
        have B2 := below_step hbel b2
        rw [Hv.out]
        go_wp2_with fail
        go_roundw
        case rel => exact ⟨k + 1, by omega, by go_num, any_snoc3 Hall.out Hx.out (by simp [Hv.out]), B2⟩
        case measure => simp [intOf]; omega
    · go_wp2
      go_ret
      obtain rfl : k = n := by omega
      refine ⟨_, rfl, ?_, hbel⟩
      have h1 := Hall.out
      rw [List.take_of_length_le (by rw [hl.out]; omega)] at h1
      rw [h1]; rfl
set_option maxHeartbeats 1000000 in
theorem ContainsFunc_Edge_c {g : Nat} {many : Int} {t : TypeId} {v : Value} {n : Nat} {ts : List T3} {w : World} (hs : S3 w v n ts) (hb : Blk w g t #[.int .i64 many]) (h0 : 0 ≤ many) (h6 : many ≤ 6) :
    Calls Tryz.prog 189 #[v, .func (.func 190) #[] #[.pointer (some ⟨g, 0, none⟩)]] w fun e w' => e = .returned (.bool (ts.any (fun e => !edgeB (many - 1) e))) ∧ Below w.heap.size w w' := by
  obtain ⟨A, c, rfl, hnc, hn, hr⟩ := hs
  go_enter Tryz.func189, Tryz.ntmps189
  go_wp2_with fail
  refine (IndexFunc_Edge_c ⟨A, c, rfl, hnc, hn, hr⟩ hb h0 h6).mono ?_
  rintro e w2 ⟨i, rfl, hi, b2⟩
  have Hi := hide hi; clear hi
  go_wp2_with fail
  go_ret
  exact ⟨by rw [← Hi.out]; rfl, b2⟩
set_option maxHeartbeats 4000000 in
theorem impl_EdgesValid_c {many : Int} {v : Value} {n : Nat} {ts : List T3} {w : World} (hs : S3 w v n ts) :
    Calls Tryz.prog 156 #[.int .i64 many, v] w fun e w' => e = .returned (.bool (edgesB many ts)) ∧ Below w.heap.size w w' := by
  have ss := hs
  obtain ⟨A, c, rfl, hnc, hn, hr⟩ := hs
  have hl := hide hr.len
  have B0 : ∀ o, Below w.heap.size w (w.alloc o) := fun o => (Below.refl _ _).alloc (Nat.le_refl _) o
  cases h1 : inB many 0 6
  · have hf : edgesB many ts = false := by simp [edgesB, h1]
    have F := hide hf; have H1 := hide h1; clear hf h1
    go_enter Tryz.func156, Tryz.ntmps156
    go_wp2_with (go_at_call 56; refine (within_c).mono ?_; rintro e w' ⟨rfl, rfl⟩; rw [H1.out])
    go_ret
    exact ⟨by rw [F.out]; rfl, B0 _⟩
  · have hh := (inB_iff _ _ _).1 h1
    have H1 := hide h1
    obtain ⟨m0, m6⟩ := hh
    by_cases h144 : n ≤ 144
    · have hf : edgesB many ts = !(ts.any (fun e => !edgeB (many - 1) e)) := by
        unfold edgesB
        rw [h1, hl.out, not_all]; simp [h144]
      have F := hide hf; clear hf h1
      have hd : ¬ ((144 : Int) < n) := by omega
      go_enter Tryz.func156, Tryz.ntmps156
      go_wp2_with (go_at_call 56; refine (within_c).mono ?_; rintro e w' ⟨rfl, rfl⟩; rw [H1.out])
      refine (ContainsFunc_Edge_c (ss.below (B0 _)) (Blk.new w _ _) m0 m6).mono ?_
      rintro e w2 ⟨rfl, b2⟩
      have B2 := below_step (B0 _) b2
      go_wp2_with fail
      go_ret
      exact ⟨by rw [F.out]; rfl, B2⟩
    · have hf : edgesB many ts = false := by simp [edgesB, hl.out, h144]
      have F := hide hf; clear hf h1
      have hd : (144 : Int) < n := by omega
      go_enter Tryz.func156, Tryz.ntmps156
      go_wp2_with (go_at_call 56; refine (within_c).mono ?_; rintro e w' ⟨rfl, rfl⟩; rw [H1.out])
      go_ret
      exact ⟨by rw [F.out]; rfl, B0 _⟩
end Go.Proofs.YtcfkemchekmjbaaGreatDoor
