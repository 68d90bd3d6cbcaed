/- Merged (what the law reaches): Mat2, Ano, Ano2. -/
import Derived.Test.YtcfkemchekmjbaaGreatDoorVza
namespace Go.Proofs.YtcfkemchekmjbaaGreatDoor
open Go.RowKit
set_option maxRecDepth 100000 in
set_option maxHeartbeats 4000000 in
theorem has_c {a b c d e f i j : Nat} {R : Nat → Nat → Prop} {w : World} (hm : MatOf [a, b, c, d, e, f] R) (hi : i < 6) (hj : j < 6) :
    Calls Tryz.prog 160 #[.agg #[Value.int .u64 (a : Int), Value.int .u64 (b : Int), Value.int .u64 (c : Int), Value.int .u64 (d : Int), Value.int .u64 (e : Int), Value.int .u64 (f : Int)], .int .i64 (i : Int), .int .i64 (j : Int)] w fun en w' => en = .returned (.bool (cd (R i j))) ∧ Below w.heap.size w w' := by
  have hb := (Below.refl w.heap.size w).alloc (Nat.le_refl _) (.cells #[Value.int .u64 (a : Int), Value.int .u64 (b : Int), Value.int .u64 (c : Int), Value.int .u64 (d : Int), Value.int .u64 (e : Int), Value.int .u64 (f : Int)] 184)
  have K : Blk (w.alloc (.cells #[Value.int .u64 (a : Int), Value.int .u64 (b : Int), Value.int .u64 (c : Int), Value.int .u64 (d : Int), Value.int .u64 (e : Int), Value.int .u64 (f : Int)] 184)) w.heap.size 184 (matV [a, b, c, d, e, f]) := Blk.new w _ _
  obtain ⟨g, hg⟩ : ∃ g, [a, b, c, d, e, f].getD i 0 = g := ⟨_, rfl⟩
  have ci : (w.alloc (.cells #[Value.int .u64 (a : Int), Value.int .u64 (b : Int), Value.int .u64 (c : Int), Value.int .u64 (d : Int), Value.int .u64 (e : Int), Value.int .u64 (f : Int)] 184)).cell? ⟨w.heap.size, i, none⟩ = some (.int .u64 (g : Int)) := by rw [← hg]; exact (K.cell i).trans (matV_get (hm.get hi))
  have lg : g < 64 := by rw [← hg]; exact hm.lt i
  have hbit := bit_and (m := j) lg
  have hr : g.testBit j = cd (R i j) := by rw [Bool.eq_iff_iff, cd_true, ← hg]; exact hm.2.2 i j hi hj
  rw [hr] at hbit
  obtain ⟨r, hrr⟩ : ∃ r, cd (R i j) = r := ⟨_, rfl⟩
  rw [hrr] at hbit ⊢
  have i0 : (0 : Int) ≤ i := by omega
  have i1 : (i : Int) < 6 := by omega
  have j0 : (0 : Int) ≤ j := by omega
  have j1 : (j : Int) < 64 := by omega
  have HB := hide hb
  clear K hg hr hrr hb hm
  go_enter Tryz.func160, Tryz.ntmps160
  cases r
  · go_wp2_with fail
    go_ret
    exact ⟨rfl, HB.out⟩
  · go_wp2_with fail
    go_ret
    exact ⟨rfl, HB.out⟩
set_option maxRecDepth 100000 in
set_option maxHeartbeats 8000000 in
theorem around_c {a b c d e f : Nat} {R : Nat → Nat → Prop} {w : World} (hm : MatOf [a, b, c, d, e, f] R) :
    Calls Tryz.prog 158 #[.agg #[Value.int .u64 (a : Int), Value.int .u64 (b : Int), Value.int .u64 (c : Int), Value.int .u64 (d : Int), Value.int .u64 (e : Int), Value.int .u64 (f : Int)]] w fun en w' => en = .returned (.bool (cd (∃ i, i < 6 ∧ WK R 6 i i))) ∧ Below w.heap.size w w' := by
  have hb := (Below.refl w.heap.size w).alloc (Nat.le_refl _) (.cells #[Value.int .u64 (a : Int), Value.int .u64 (b : Int), Value.int .u64 (c : Int), Value.int .u64 (d : Int), Value.int .u64 (e : Int), Value.int .u64 (f : Int)] 184)
  have K : Blk (w.alloc (.cells #[Value.int .u64 (a : Int), Value.int .u64 (b : Int), Value.int .u64 (c : Int), Value.int .u64 (d : Int), Value.int .u64 (e : Int), Value.int .u64 (f : Int)] 184)) w.heap.size 184 #[Value.int .u64 (a : Int), Value.int .u64 (b : Int), Value.int .u64 (c : Int), Value.int .u64 (d : Int), Value.int .u64 (e : Int), Value.int .u64 (f : Int)] := Blk.new w _ _
  have c0 := K.cell 0; have c1 := K.cell 1; have c2 := K.cell 2; have c3 := K.cell 3; have c4 := K.cell 4; have c5 := K.cell 5
  have HB := hide hb; have HM := hide hm
  clear hb hm K
  go_enter Tryz.func158, Tryz.ntmps158
  go_wp2_with fail
  refine (reach_c HM.out).mono ?_
  rintro en w2 ⟨a', b', c', d', e', f', rfl, hm2, b2⟩
  have HM2 := hide hm2
  have B2 := HB.out.trans (b2.mono HB.out.size)
  have k3 := Blk.new w2 184 #[Value.int .u64 (a' : Int), Value.int .u64 (b' : Int), Value.int .u64 (c' : Int), Value.int .u64 (d' : Int), Value.int .u64 (e' : Int), Value.int .u64 (f' : Int)]
  have B3 := B2.alloc B2.size (.cells #[Value.int .u64 (a' : Int), Value.int .u64 (b' : Int), Value.int .u64 (c' : Int), Value.int .u64 (d' : Int), Value.int .u64 (e' : Int), Value.int .u64 (f' : Int)] 184)
  have K3 := hide k3; have B3H := hide B3
  have hz2 := B2.size
  clear c0 c1 c2 c3 c4 c5 b2 hm2 k3 B3 B2
  go_wp2_with fail
  go_loopw [7] (fun i wr => ∃ k : Nat, k ≤ 6 ∧ i = .int .i64 k ∧ (∀ q, q < k → ¬ WK R 6 q q) ∧ Blk wr w2.heap.size 184 #[Value.int .u64 (a' : Int), Value.int .u64 (b' : Int), Value.int .u64 (c' : Int), Value.int .u64 (d' : Int), Value.int .u64 (e' : Int), Value.int .u64 (f' : Int)] ∧ Below w.heap.size w wr) (fun i _ => 6 - (intOf i).toNat)
  case atStart => exact ⟨0, Nat.zero_le _, rfl, fun q h => by omega, K3.out, B3H.out⟩
  case round =>
    clear K3 B3H
    obtain ⟨k, hk, rfl, hno, k3, bw⟩ := hrel
    have HNO := hide hno; have K3 := hide k3; have BW := hide bw
    clear hno bw
    by_cases hlt : k < 6
    · have c0 := k3.cell 0; have c1 := k3.cell 1; have c2 := k3.cell 2; have c3 := k3.cell 3; have c4 := k3.cell 4; have c5 := k3.cell 5
      clear k3
      go_wp2_with fail
      refine (has_c HM2.out hlt hlt).mono ?_
      rintro en w5 ⟨rfl, b5⟩
      have B5 := hide (below_step BW.out b5)
      have K5 := hide (K3.out.belowAll b5)
      clear c0 c1 c2 c3 c4 c5 b5
      by_cases hw : WK R 6 k k
      · rw [cd_yes hw]
        have hf : cd (∃ i, i < 6 ∧ WK R 6 i i) = true := cd_yes ⟨k, hlt, hw⟩
        have F := hide hf; clear hf hw
        go_wp2_with fail
        go_ret
        exact ⟨congrArg (fun q => Ending.returned (.bool q)) F.out.symm, B5.out⟩
      · rw [cd_no hw]
        have HN2 := hide (show ∀ q, q < k + 1 → ¬ WK R 6 q q from fun q hq => by
          by_cases e : q = k
          · subst e; exact hw
          · exact HNO.out q (by omega))
        clear hw
        go_wp2_with fail
        go_roundw
        case rel => exact ⟨k + 1, by omega, by go_num, HN2.out, K5.out, B5.out⟩
        case measure => simp [intOf]; omega
    · obtain rfl : k = 6 := by omega
      have hf : cd (∃ i, i < 6 ∧ WK R 6 i i) = false := cd_no (by rintro ⟨i, h1, h2⟩; exact HNO.out i h1 h2)
      have F := hide hf; clear hf k3
      go_wp2_with fail
      go_ret
      exact ⟨congrArg (fun q => Ending.returned (.bool q)) F.out.symm, BW.out⟩
/-- Of some kinds, edges as a relation. -/
def NdK (es : List T3) (ks : List Int) (i j : Nat) : Prop := ∃ k, ((i : Int), (j : Int), k) ∈ es ∧ k ∈ ks
def MatR (w : World) (R : Nat → Nat → Prop) (en : Ending) (w' : World) : Prop := ∃ a b c d e f : Nat, en = .returned (.agg #[Value.int .u64 (a : Int), Value.int .u64 (b : Int), Value.int .u64 (c : Int), Value.int .u64 (d : Int), Value.int .u64 (e : Int), Value.int .u64 (f : Int)]) ∧ MatOf [a, b, c, d, e, f] R ∧ Below w.heap.size w w'
set_option maxRecDepth 100000 in
set_option maxHeartbeats 8000000 in
theorem matrixOf_c {u v : Value} {n m : Nat} {es : List T3} {ks : List Int} {w : World} (hu : S3 w u n es) (hv : SI w v m ks) (h6 : ∀ e ∈ es, (0 ≤ e.1 ∧ e.1 < 6) ∧ (0 ≤ e.2.1 ∧ e.2.1 < 6)) :
    Calls Tryz.prog 157 #[u, v] w (MatR w (NdK es ks)) := by
  obtain ⟨A, cc, rfl, _, hn, ha⟩ := hu
  obtain ⟨Av, cv, rfl⟩ := hv.shape
  have hl := hide ha.len
  have H6 := hide h6
  obtain ⟨W, hW⟩ : ∃ q, (w.alloc (.cells #[.int .u64 0, .int .u64 0, .int .u64 0, .int .u64 0, .int .u64 0, .int .u64 0] 184)).alloc (.cells #[.int .u64 0, .int .u64 0, .int .u64 0, .int .u64 0, .int .u64 0, .int .u64 0] 184) = q := ⟨_, rfl⟩
  have k1 : Blk W w.heap.size 184 #[.int .u64 0, .int .u64 0, .int .u64 0, .int .u64 0, .int .u64 0, .int .u64 0] := by rw [← hW]; exact (Blk.new w _ _).alloc _
  have k2 : Blk W (w.heap.size + 1) 184 (matV [0, 0, 0, 0, 0, 0]) := by
    rw [← hW]; have := Blk.new (w.alloc (.cells #[.int .u64 0, .int .u64 0, .int .u64 0, .int .u64 0, .int .u64 0, .int .u64 0] 184)) 184 #[.int .u64 0, .int .u64 0, .int .u64 0, .int .u64 0, .int .u64 0, .int .u64 0]
    rw [World.size_alloc] at this; exact this
  have bW : Below w.heap.size w W := by rw [← hW]; exact ((Below.refl _ _).alloc (Nat.le_refl _) _).alloc (by simp) _
  have K1 := hide k1; have K2 := hide k2; have BW := hide bW; have HW := hide hW
  have HM0 := hide (show MatOf [0, 0, 0, 0, 0, 0] (NdK (es.take 0) ks) from MatOf.zero.congr fun i j _ _ => ⟨False.elim, by rintro ⟨k, h, _⟩; simp at h⟩)
  clear k1 k2 bW hW h6
  go_enter Tryz.func157, Tryz.ntmps157
  go_wp2_with fail
  rw [HW.out]
  go_loopw [10] (fun i wr => ∃ (k : Nat) (ms : List Nat), k ≤ n ∧ i = .int .i64 k ∧ Blk wr (w.heap.size + 1) 184 (matV ms) ∧ MatOf ms (NdK (es.take k) ks) ∧ Blk wr w.heap.size 184 #[.int .u64 0, .int .u64 0, .int .u64 0, .int .u64 0, .int .u64 0, .int .u64 0] ∧ Below w.heap.size w wr) (fun i _ => n - (intOf i).toNat)
  case atStart => exact ⟨0, _, Nat.zero_le _, rfl, K2.out, HM0.out, K1.out, BW.out⟩
  case round =>
    clear K1 K2 BW HM0
    obtain ⟨k, ms, hk, rfl, k1, hm, k2, bw⟩ := hrel
    by_cases hlt : k < n
    · obtain ⟨b2, o2, x, y, z, rfl, hb2, hx, q0, q1, q2⟩ := ha.at_ hlt
      have d0 := (bw.cell (p := ⟨b2, o2 + k * 3, none⟩) hb2).trans q0
      have d1 := (bw.cell (p := ⟨b2, o2 + k * 3 + 1, none⟩) hb2).trans q1
      have d2 := (bw.cell (p := ⟨b2, o2 + k * 3 + 2, none⟩) hb2).trans q2
      obtain ⟨⟨x0, x6⟩, y0, y6⟩ := H6.out _ (List.mem_of_getElem? hx)
      dsimp only at x0 x6 y0 y6
      obtain ⟨xn, rfl⟩ : ∃ i : Nat, x = i := ⟨x.toNat, by omega⟩
      obtain ⟨yn, rfl⟩ : ∃ i : Nat, y = i := ⟨y.toNat, by omega⟩
      have hxn : xn < 6 := by omega
      have hyn : yn < 6 := by omega
      have y64 : (yn : Int) < 64 := by omega
      have HX := hide hx
      have hlt1 := k1.lt
      have KE := Blk.new wr 146 #[.int .i64 (xn : Int), .int .i64 (yn : Int), .int .i64 z]
      have K1 := hide (k1.alloc (.cells #[.int .i64 (xn : Int), .int .i64 (yn : Int), .int .i64 z] 146))
      have K2 := hide (k2.alloc (.cells #[.int .i64 (xn : Int), .int .i64 (yn : Int), .int .i64 z] 146))
      have B1 := hide (bw.alloc bw.size (.cells #[.int .i64 (xn : Int), .int .i64 (yn : Int), .int .i64 z] 146))
      have hvb := hv.below B1.out
      have k0 : (0 : Int) ≤ k := by omega
      have kn : (k : Int) < n := by omega
      obtain ⟨g, hg⟩ : ∃ g, ms.getD xn 0 = g := ⟨_, rfl⟩
      have cg := (K1.out.cell xn).trans (matV_get (hm.get hxn))
      rw [hg] at cg
      have fg := K1.out.frozen xn
      have lg : g < 64 := by rw [← hg]; exact hm.lt xn
      have hor : bits .or .u64 (g : Int) (IntKind.u64.wrap (2 ^ yn)) = ((g ||| 2 ^ yn : Nat) : Int) := by rw [wrap_pow hyn]; exact bit_or lg (pow64 hyn)
      obtain ⟨e0, e1, e2⟩ := KE.three
      have HM := hide hm; have HG := hide hg
      have hnew := hm.or hxn (pow64 hyn) (fun j => yn = j) (fun j _ => by rw [Nat.testBit_two_pow, decide_eq_true_eq])
      rw [hg] at hnew
      have HNEW := hide hnew
      have hstep : ∀ i j : Nat, NdK (es.take (k + 1)) ks i j ↔ (NdK (es.take k) ks i j ∨ (z ∈ ks ∧ i = xn ∧ yn = j)) := fun i j => by
        unfold NdK
        rw [List.take_add_one, HX.out]
        constructor
        · rintro ⟨q, h1, h2⟩
          rcases List.mem_append.1 h1 with h1 | h1
          · exact .inl ⟨q, h1, h2⟩
          · simp at h1
            obtain ⟨h3, h4, rfl⟩ := h1
            exact .inr ⟨h2, by omega, by omega⟩
        · rintro (⟨q, h1, h2⟩ | ⟨h1, rfl, rfl⟩)
          · exact ⟨q, List.mem_append_left _ h1, h2⟩
          · exact ⟨z, List.mem_append_right _ (by simp), h1⟩
      have HST := hide hstep
      have hne : w.heap.size + 1 ≠ wr.heap.size := by omega
      clear q0 q1 q2 hx k1 k2 bw hm hg hnew hstep KE
      go_wp2_with fail
      refine (ContainsInt_c hvb).mono ?_
      rintro en w2 ⟨rfl, rfl⟩
      obtain ⟨W1, hW1⟩ : ∃ q, wr.alloc (.cells #[.int .i64 (xn : Int), .int .i64 (yn : Int), .int .i64 z] 146) = q := ⟨_, rfl⟩
      rw [hW1] at K1 K2 B1 cg fg e0 e1 e2 ⊢
      clear hW1 d0 d1 d2 hvb hne
      by_cases hz : z ∈ ks
      · rw [decide_eq_true hz]
        have HM2 := hide (HNEW.out.congr (S := NdK (es.take (k + 1)) ks) (fun i j _ _ => by
          rw [HST.out]
          constructor
          · rintro (h | ⟨h1, h2⟩)
            · exact .inl h
            · exact .inr ⟨hz, h1, h2⟩
          · rintro (h | ⟨_, h1, h2⟩)
            · exact .inl h
            · exact .inr ⟨h1, h2⟩))
        have kz := K1.out.set_ xn (.int .u64 ((g ||| 2 ^ yn : Nat) : Int))
        rw [matV_set] at kz
        have KZ := hide kz
        have K2Z := hide (K2.out.far (p := ⟨w.heap.size + 1, xn, none⟩) (by show w.heap.size ≠ w.heap.size + 1; omega) (.int .u64 ((g ||| 2 ^ yn : Nat) : Int)))
        have BZ := hide (B1.out.setCell (p := ⟨w.heap.size + 1, xn, none⟩) (Nat.le_succ _) (.int .u64 ((g ||| 2 ^ yn : Nat) : Int)))
        clear hz kz
        go_wp2_with fail
        go_region
        go_wp2_with fail
        go_roundw
        case rel => exact ⟨k + 1, _, by omega, by go_num, KZ.out.drew, HM2.out, K2Z.out.drew, BZ.out.drew⟩
        case measure => simp [intOf]; omega
      · rw [decide_eq_false hz]
        have HM2 := hide (HM.out.congr (S := NdK (es.take (k + 1)) ks) (fun i j _ _ => by
          rw [HST.out]
          exact ⟨.inl, fun h => h.elim id (fun h => absurd h.1 hz)⟩))
        clear hz
        go_wp2_with fail
        go_roundw
        case rel => exact ⟨k + 1, ms, by omega, by go_num, K1.out, HM2.out, K2.out, B1.out⟩
        case measure => simp [intOf]; omega
    · obtain rfl : k = n := by omega
      obtain ⟨a', b', c', d', e', f', rfl⟩ := six_of hm.1
      have hfin : MatOf [a', b', c', d', e', f'] (NdK es ks) := by rw [show es = es.take k by rw [← hl.out, List.take_length]]; exact hm
      have c0 := k1.cell 0; have c1 := k1.cell 1; have c2 := k1.cell 2; have c3 := k1.cell 3; have c4 := k1.cell 4; have c5 := k1.cell 5
      have d0 := k2.cell 0; have d1 := k2.cell 1; have d2 := k2.cell 2; have d3 := k2.cell 3; have d4 := k2.cell 4; have d5 := k2.cell 5
      have f0 := k2.frozen 0; have f1 := k2.frozen 1; have f2 := k2.frozen 2; have f3 := k2.frozen 3; have f4 := k2.frozen 4; have f5 := k2.frozen 5
      simp only [matV, List.map_cons, List.map_nil, List.getElem?_toArray, List.getElem?_cons_zero, List.getElem?_cons_succ] at c0 c1 c2 c3 c4 c5
      have K2 := hide k2; have BW := hide bw; have HM := hide hfin
      clear k1 k2 bw hm hfin
      go_wp2_with fail
      obtain ⟨W6, hW6⟩ : ∃ q, ((((((wr.setCell ⟨w.heap.size, 0, none⟩ (.int .u64 (a' : Int))).setCell ⟨w.heap.size, 1, none⟩ (.int .u64 (b' : Int))).setCell ⟨w.heap.size, 2, none⟩ (.int .u64 (c' : Int))).setCell ⟨w.heap.size, 3, none⟩ (.int .u64 (d' : Int))).setCell ⟨w.heap.size, 4, none⟩ (.int .u64 (e' : Int))).setCell ⟨w.heap.size, 5, none⟩ (.int .u64 (f' : Int))) = q := ⟨_, rfl⟩
      rw [hW6]
      have kk : Blk W6 w.heap.size 184 #[.int .u64 (a' : Int), .int .u64 (b' : Int), .int .u64 (c' : Int), .int .u64 (d' : Int), .int .u64 (e' : Int), .int .u64 (f' : Int)] := by
        rw [← hW6]; exact (((((K2.out.set_ 0 _).set_ 1 _).set_ 2 _).set_ 3 _).set_ 4 _).set_ 5 _
      have B6 : Below w.heap.size w W6 := by
        rw [← hW6]
        have hz : w.heap.size ≤ w.heap.size := Nat.le_refl _
        exact (((((BW.out.setCell (p := ⟨w.heap.size, 0, none⟩) hz _).setCell (p := ⟨w.heap.size, 1, none⟩) hz _).setCell (p := ⟨w.heap.size, 2, none⟩) hz _).setCell (p := ⟨w.heap.size, 3, none⟩) hz _).setCell (p := ⟨w.heap.size, 4, none⟩) hz _).setCell (p := ⟨w.heap.size, 5, none⟩) hz _
      have g0 := kk.cell 0; have g1 := kk.cell 1; have g2 := kk.cell 2; have g3 := kk.cell 3; have g4 := kk.cell 4; have g5 := kk.cell 5
      clear c0 c1 c2 c3 c4 c5 d0 d1 d2 d3 d4 d5 f0 f1 f2 f3 f4 f5 hW6
      refine bodyPost_ret (v := .agg #[.int .u64 (a' : Int), .int .u64 (b' : Int), .int .u64 (c' : Int), .int .u64 (d' : Int), .int .u64 (e' : Int), .int .u64 (f' : Int)]) (by simp [results, Tryz.results157, go_sem]; go_simp) rfl ?_
      exact ⟨a', b', c', d', e', f', rfl, HM.out, B6⟩
end Go.Proofs.YtcfkemchekmjbaaGreatDoor

namespace Go.Proofs.YtcfkemchekmjbaaGreatDoor
open Go.RowKit
theorem WK.congr {R S : Nat → Nat → Prop} (h : ∀ i j, R i j ↔ S i j) : ∀ (k i j : Nat), WK R k i j ↔ WK S k i j
  | 0, i, j => h i j
  | k + 1, i, j => by
    show (_ ∨ _) ↔ (_ ∨ _)
    rw [WK.congr h k i j, WK.congr h k i k, WK.congr h k k j]
theorem edgesB_parts {many : Int} {es : List T3} (h : edgesB many es = true) : (0 ≤ many ∧ many ≤ 6) ∧ ∀ e ∈ es, ((0 ≤ e.1 ∧ e.1 < 6) ∧ (0 ≤ e.2.1 ∧ e.2.1 < 6)) ∧ 1 ≤ e.2.2 ∧ e.2.2 ≤ 4 := by
  unfold edgesB at h
  simp only [Bool.and_eq_true, inB_iff, decide_eq_true_eq, List.all_eq_true] at h
  obtain ⟨h1, h2, h3⟩ := h
  refine ⟨h1, fun e he => ?_⟩
  have := h3 e he
  unfold edgeB at this
  simp only [Bool.and_eq_true, inB_iff] at this
  omega
theorem NdK_one {es : List T3} (h : ∀ e ∈ es, 1 ≤ e.2.2) (i j : Nat) : NdK es [1] i j ↔ Nd es 1 i j := by
  unfold NdK Nd Ed
  constructor
  · rintro ⟨k, h1, h2⟩; simp at h2; exact ⟨k, h1, by omega⟩
  · rintro ⟨k, h1, h2⟩; have := h _ h1; dsimp only at this; exact ⟨k, h1, by simp; omega⟩
theorem NdK_two {es : List T3} (h : ∀ e ∈ es, 1 ≤ e.2.2) (i j : Nat) : NdK es [1, 2] i j ↔ Nd es 2 i j := by
  unfold NdK Nd Ed
  constructor
  · rintro ⟨k, h1, h2⟩; simp at h2; exact ⟨k, h1, by omega⟩
  · rintro ⟨k, h1, h2⟩; have := h _ h1; dsimp only at this; exact ⟨k, h1, by simp; omega⟩
theorem NdK_three {es : List T3} (h : ∀ e ∈ es, 1 ≤ e.2.2) (i j : Nat) : NdK es [1, 2, 3] i j ↔ Nd es 3 i j := by
  unfold NdK Nd Ed
  constructor
  · rintro ⟨k, h1, h2⟩; simp at h2; exact ⟨k, h1, by omega⟩
  · rintro ⟨k, h1, h2⟩; have := h _ h1; dsimp only at this; exact ⟨k, h1, by simp; omega⟩
theorem cyc_iff {es : List T3} {m : Int} (h6 : ∀ e ∈ es, (0 ≤ e.1 ∧ e.1 < 6) ∧ (0 ≤ e.2.1 ∧ e.2.1 < 6)) : (∃ i, i < 6 ∧ WK (Nd es m) 6 i i) ↔ ∃ i, Way (Ed es m) i i := by
  constructor
  · rintro ⟨i, _, h⟩; exact ⟨_, (WK.ed h6).1 h⟩
  · rintro ⟨x, h⟩
    obtain ⟨i, j, rfl, e, hi, _, _⟩ := h.nat h6
    exact ⟨i, hi, (WK.ed h6).2 h⟩
theorem anom1 {es : List T3} : anomB es 1 = cd (∃ i, Way (Ed es 1) i i) := cd_congr ⟨fun h => by rcases h with h | h | h | h <;> first | exact h.2 | omega, fun h => .inl ⟨rfl, h⟩⟩
theorem anom2 {es : List T3} : anomB es 2 = cd (∃ i, Way (Ed es 2) i i) := cd_congr ⟨fun h => by rcases h with h | h | h | h <;> first | exact h.2 | omega, fun h => .inr (.inl ⟨rfl, h⟩)⟩
theorem anom3 {es : List T3} : anomB es 3 = cd (∃ i j, (i, j, 3) ∈ es ∧ Way (Ed es 2) j i) := cd_congr ⟨fun h => by rcases h with h | h | h | h <;> first | exact h.2 | omega, fun h => .inr (.inr (.inl ⟨rfl, h⟩))⟩
theorem anom4 {es : List T3} : anomB es 4 = cd (∃ i, Way (Ed es 3) i i) := cd_congr ⟨fun h => by rcases h with h | h | h | h <;> first | exact h.2 | omega, fun h => .inr (.inr (.inr ⟨rfl, h⟩))⟩
section
variable {u : Value} {n : Nat} {es : List T3} {many : Int} {w : World}
set_option maxRecDepth 100000 in
set_option maxHeartbeats 8000000 in
theorem HasAnomaly1_c (hs : S3 w u n es) (hv : edgesB many es = true) : Calls Tryz.prog 110 #[.int .i64 many, u, .int .i64 1] w fun en w' => en = .returned (.bool (anomB es 1)) ∧ Below w.heap.size w w' := by
  obtain ⟨hm, he⟩ := edgesB_parts hv
  have h6 := fun e h => (he e h).1
  have hf : cd (∃ i, i < 6 ∧ WK (NdK es [1]) 6 i i) = anomB es 1 := by
    rw [anom1]
    exact cd_congr ((by simp only [WK.congr (NdK_one (fun e h => (he e h).2.1))] : _ ↔ _).trans (cyc_iff h6))
  have F := hide hf; have HV := hide hv; have H6 := hide h6
  obtain ⟨A, c, rfl⟩ := hs.shape
  clear hf hv h6 he
  go_enter Tryz.func110, Tryz.ntmps110
  go_wp2_with fail
  refine (impl_EdgesValid_c hs).mono ?_
  rintro en w2 ⟨rfl, b2⟩
  rw [HV.out]
  have s2 := (hs.below b2).alloc (.cells #[.int .i64 1] 3)
  have B2 := b2.alloc b2.size (.cells #[.int .i64 1] 3)
  have v2 := SI.one w2 1 1 (Nat.le_refl _)
  clear b2
  go_wp2_with fail
  refine (matrixOf_c s2 v2 H6.out).mono ?_
  rintro en w3 ⟨a, b, c3, d, e, f, rfl, hm3, b3⟩
  have B3 := below_step B2 b3
  go_wp2_with fail
  refine (around_c hm3).mono ?_
  rintro en w4 ⟨rfl, b4⟩
  go_wp2_with fail
  go_ret
  exact ⟨congrArg (fun q => Ending.returned (.bool q)) F.out, below_step B3 b4⟩
theorem SI.two (w : World) (x y : Int) : SI (w.alloc (.cells #[.int .i64 x, .int .i64 y] 3)) (.slice (some ⟨w.heap.size, 0, none⟩) 2 2) 2 [x, y] :=
  SI.of_blk (Blk.new w _ _) (fun k z h => by
    match k, h with
    | 0, h => simp at h; subst h; rfl
    | 1, h => simp at h; subst h; rfl) rfl (Nat.le_refl _) (by omega)
theorem SI.three (w : World) (x y z : Int) : SI (w.alloc (.cells #[.int .i64 x, .int .i64 y, .int .i64 z] 3)) (.slice (some ⟨w.heap.size, 0, none⟩) 3 3) 3 [x, y, z] :=
  SI.of_blk (Blk.new w _ _) (fun k q h => by
    match k, h with
    | 0, h => simp at h; subst h; rfl
    | 1, h => simp at h; subst h; rfl
    | 2, h => simp at h; subst h; rfl) rfl (Nat.le_refl _) (by omega)
set_option maxRecDepth 100000 in
set_option maxHeartbeats 8000000 in
theorem HasAnomaly2_c (hs : S3 w u n es) (hv : edgesB many es = true) : Calls Tryz.prog 110 #[.int .i64 many, u, .int .i64 2] w fun en w' => en = .returned (.bool (anomB es 2)) ∧ Below w.heap.size w w' := by
  obtain ⟨hm, he⟩ := edgesB_parts hv
  have h6 := fun e h => (he e h).1
  have hf : cd (∃ i, i < 6 ∧ WK (NdK es [1, 2]) 6 i i) = anomB es 2 := by
    rw [anom2]
    exact cd_congr ((by simp only [WK.congr (NdK_two (fun e h => (he e h).2.1))] : _ ↔ _).trans (cyc_iff h6))
  have F := hide hf; have HV := hide hv; have H6 := hide h6
  obtain ⟨A, c, rfl⟩ := hs.shape
  clear hf hv h6 he
  go_enter Tryz.func110, Tryz.ntmps110
  go_wp2_with fail
  refine (impl_EdgesValid_c hs).mono ?_
  rintro en w2 ⟨rfl, b2⟩
  rw [HV.out]
  have s2 := (hs.below b2).alloc (.cells #[.int .i64 1, .int .i64 2] 3)
  have B2 := b2.alloc b2.size (.cells #[.int .i64 1, .int .i64 2] 3)
  have v2 := SI.two w2 1 2
  clear b2
  go_wp2_with fail
  refine (matrixOf_c s2 v2 H6.out).mono ?_
  rintro en w3 ⟨a, b, c3, d, e, f, rfl, hm3, b3⟩
  have B3 := below_step B2 b3
  go_wp2_with fail
  refine (around_c hm3).mono ?_
  rintro en w4 ⟨rfl, b4⟩
  go_wp2_with fail
  go_ret
  exact ⟨congrArg (fun q => Ending.returned (.bool q)) F.out, below_step B3 b4⟩
set_option maxRecDepth 100000 in
set_option maxHeartbeats 8000000 in
theorem HasAnomaly4_c (hs : S3 w u n es) (hv : edgesB many es = true) : Calls Tryz.prog 110 #[.int .i64 many, u, .int .i64 4] w fun en w' => en = .returned (.bool (anomB es 4)) ∧ Below w.heap.size w w' := by
  obtain ⟨hm, he⟩ := edgesB_parts hv
  have h6 := fun e h => (he e h).1
  have hf : cd (∃ i, i < 6 ∧ WK (NdK es [1, 2, 3]) 6 i i) = anomB es 4 := by
    rw [anom4]
    exact cd_congr ((by simp only [WK.congr (NdK_three (fun e h => (he e h).2.1))] : _ ↔ _).trans (cyc_iff h6))
  have F := hide hf; have HV := hide hv; have H6 := hide h6
  obtain ⟨A, c, rfl⟩ := hs.shape
  clear hf hv h6 he
  go_enter Tryz.func110, Tryz.ntmps110
  go_wp2_with fail
  refine (impl_EdgesValid_c hs).mono ?_
  rintro en w2 ⟨rfl, b2⟩
  rw [HV.out]
  have s2 := (hs.below b2).alloc (.cells #[.int .i64 1, .int .i64 2, .int .i64 3] 3)
  have B2 := b2.alloc b2.size (.cells #[.int .i64 1, .int .i64 2, .int .i64 3] 3)
  have v2 := SI.three w2 1 2 3
  clear b2
  go_wp2_with fail
  refine (matrixOf_c s2 v2 H6.out).mono ?_
  rintro en w3 ⟨a, b, c3, d, e, f, rfl, hm3, b3⟩
  have B3 := below_step B2 b3
  go_wp2_with fail
  refine (around_c hm3).mono ?_
  rintro en w4 ⟨rfl, b4⟩
  go_wp2_with fail
  go_ret
  exact ⟨congrArg (fun q => Ending.returned (.bool q)) F.out, below_step B3 b4⟩
set_option maxRecDepth 100000 in
set_option maxHeartbeats 8000000 in
theorem HasAnomaly3_c (hs : S3 w u n es) (hv : edgesB many es = true) : Calls Tryz.prog 110 #[.int .i64 many, u, .int .i64 3] w fun en w' => en = .returned (.bool (anomB es 3)) ∧ Below w.heap.size w w' := by
  obtain ⟨hm, he⟩ := edgesB_parts hv
  have h6 := fun e h => (he e h).1
  have hway : ∀ i j : Nat, WK (NdK es [1, 2]) 6 i j ↔ Way (Ed es 2) (i : Int) (j : Int) := fun i j => (WK.congr (NdK_two (fun e h => (he e h).2.1)) 6 i j).trans (WK.ed h6)
  have HV := hide hv; have H6 := hide h6; have HW := hide hway
  have hss := hs
  obtain ⟨A, c, rfl, hnc, hn, ha⟩ := hs
  have hl := hide ha.len
  clear hv h6 he hway
  go_enter Tryz.func110, Tryz.ntmps110
  go_wp2_with fail
  refine (impl_EdgesValid_c hss).mono ?_
  rintro en w2 ⟨rfl, b2⟩
  rw [HV.out]
  have s2 := (hss.below b2).alloc (.cells #[.int .i64 1, .int .i64 2] 3)
  have B2 := b2.alloc b2.size (.cells #[.int .i64 1, .int .i64 2] 3)
  have v2 := SI.two w2 1 2
  clear b2
  go_wp2_with fail
  refine (matrixOf_c s2 v2 H6.out).mono ?_
  rintro en w3 ⟨a0, b0, c0, d0, e0, f0, rfl, hm3, b3⟩
  have B3 := below_step B2 b3
  clear s2 v2 B2 b3
  go_wp2_with fail
  refine (reach_c hm3).mono ?_
  rintro en w4 ⟨a, b, c4, d, e, f, rfl, hm4, b4⟩
  have B4 := below_step B3 b4
  have HM := hide hm4
  have k5 := Blk.new w4 184 #[Value.int .u64 (a : Int), Value.int .u64 (b : Int), Value.int .u64 (c4 : Int), Value.int .u64 (d : Int), Value.int .u64 (e : Int), Value.int .u64 (f : Int)]
  have B5 := B4.alloc B4.size (.cells #[Value.int .u64 (a : Int), Value.int .u64 (b : Int), Value.int .u64 (c4 : Int), Value.int .u64 (d : Int), Value.int .u64 (e : Int), Value.int .u64 (f : Int)] 184)
  have K5 := hide k5; have B5H := hide B5
  clear b4 B3 hm3 hm4 k5 B5 B4
  go_wp2_with fail
  go_loopw [35] (fun i wr => ∃ k : Nat, k ≤ n ∧ i = .int .i64 k ∧ (∀ (x y : Int), (x, y, 3) ∈ es.take k → ¬ Way (Ed es 2) y x) ∧ Blk wr w4.heap.size 184 #[Value.int .u64 (a : Int), Value.int .u64 (b : Int), Value.int .u64 (c4 : Int), Value.int .u64 (d : Int), Value.int .u64 (e : Int), Value.int .u64 (f : Int)] ∧ Below w.heap.size w wr) (fun i _ => n - (intOf i).toNat)
  case atStart => exact ⟨0, Nat.zero_le _, rfl, fun x y h => by simp at h, K5.out, B5H.out⟩
  case round =>
    clear K5 B5H
    obtain ⟨k, hk, rfl, hno, k5, bw⟩ := hrel
    have HNO := hide hno
    clear hno
    by_cases hlt : k < n
    · obtain ⟨b2, o2, x, y, z, rfl, hb2, hx, q0, q1, q2⟩ := ha.at_ hlt
      have d0 := (bw.cell (p := ⟨b2, o2 + k * 3, none⟩) hb2).trans q0
      have d1 := (bw.cell (p := ⟨b2, o2 + k * 3 + 1, none⟩) hb2).trans q1
      have d2 := (bw.cell (p := ⟨b2, o2 + k * 3 + 2, none⟩) hb2).trans q2
      obtain ⟨⟨x0, x6⟩, y0, y6⟩ := H6.out _ (List.mem_of_getElem? hx)
      dsimp only at x0 x6 y0 y6
      obtain ⟨xn, rfl⟩ : ∃ i : Nat, x = i := ⟨x.toNat, by omega⟩
      obtain ⟨yn, rfl⟩ : ∃ i : Nat, y = i := ⟨y.toNat, by omega⟩
      have HX := hide hx
      have k0 : (0 : Int) ≤ k := by omega
      have kn : (k : Int) < n := by omega
      have KE := Blk.new wr 146 #[.int .i64 (xn : Int), .int .i64 (yn : Int), .int .i64 z]
      have hlt5 := k5.lt
      have K6 := hide (k5.alloc (.cells #[.int .i64 (xn : Int), .int .i64 (yn : Int), .int .i64 z] 146))
      have B6 := hide (bw.alloc bw.size (.cells #[.int .i64 (xn : Int), .int .i64 (yn : Int), .int .i64 z] 146))
      have m0 := K6.out.cell 0; have m1 := K6.out.cell 1; have m2 := K6.out.cell 2; have m3 := K6.out.cell 3; have m4 := K6.out.cell 4; have m5 := K6.out.cell 5
      clear q0 q1 q2 hx k5 bw KE
      by_cases hz : z = 3
      · subst hz
        go_wp2_with fail
        refine (has_c (i := yn) (j := xn) HM.out (by omega) (by omega)).mono ?_
        rintro en w7 ⟨rfl, b7⟩
        have B7 := hide (below_step B6.out b7)
        have K7 := hide (K6.out.belowAll b7)
        clear d0 d1 d2 m0 m1 m2 m3 m4 m5 b7
        by_cases hw : WK (NdK es [1, 2]) 6 yn xn
        · rw [cd_yes hw]
          have hf : anomB es 3 = true := by rw [anom3]; exact cd_yes ⟨_, _, List.mem_of_getElem? HX.out, (HW.out _ _).1 hw⟩
          have F := hide hf; clear hf hw
          go_wp2_with fail
          go_ret
          exact ⟨congrArg (fun q => Ending.returned (.bool q)) F.out.symm, B7.out⟩
        · rw [cd_no hw]
          have HN2 := hide (show ∀ (x y : Int), (x, y, 3) ∈ es.take (k + 1) → ¬ Way (Ed es 2) y x from fun x y hm => by
            rw [List.take_add_one, HX.out] at hm
            rcases List.mem_append.1 hm with hm | hm
            · exact HNO.out x y hm
            · simp at hm
              obtain ⟨rfl, rfl⟩ := hm
              exact fun hq => hw ((HW.out _ _).2 hq))
          clear hw
          go_wp2_with fail
          go_roundw
          case rel => exact ⟨k + 1, by omega, by go_num, HN2.out, K7.out, B7.out⟩
          case measure => simp [intOf]; omega
      · have hzb : (z == 3) = false := by simpa using hz
        have HN2 := hide (show ∀ (x y : Int), (x, y, 3) ∈ es.take (k + 1) → ¬ Way (Ed es 2) y x from fun x y hm => by
          rw [List.take_add_one, HX.out] at hm
          rcases List.mem_append.1 hm with hm | hm
          · exact HNO.out x y hm
          · simp at hm; exact absurd hm.2.2.symm hz)
        clear hz
        go_wp2_with fail
        go_roundw
        case rel => exact ⟨k + 1, by omega, by go_num, HN2.out, K6.out, B6.out⟩
        case measure => simp [intOf]; omega
    · obtain rfl : k = n := by omega
      have hf : anomB es 3 = false := by
        rw [anom3]
        refine cd_no ?_
        rintro ⟨x, y, h1, h2⟩
        exact HNO.out x y (by rw [← hl.out, List.take_length]; exact h1) h2
      have F := hide hf; clear hf k5
      go_wp2_with fail
      go_ret
      exact ⟨congrArg (fun q => Ending.returned (.bool q)) F.out.symm, bw⟩
theorem impl_HasAnomaly_c {kind : Nat} (hs : S3 w u n es) (hv : edgesB many es = true) (h1 : 1 ≤ kind) (h4 : kind ≤ 4) : Calls Tryz.prog 110 #[.int .i64 many, u, .int .i64 (kind : Int)] w fun en w' => en = .returned (.bool (anomB es kind)) ∧ Below w.heap.size w w' := by
  match kind, h1, h4 with
  | 1, _, _ => exact HasAnomaly1_c hs hv
  | 2, _, _ => exact HasAnomaly2_c hs hv
  | 3, _, _ => exact HasAnomaly3_c hs hv
  | 4, _, _ => exact HasAnomaly4_c hs hv
end
end Go.Proofs.YtcfkemchekmjbaaGreatDoor

namespace Go.Proofs.YtcfkemchekmjbaaGreatDoor
open Go.RowKit
noncomputable def allB (ts : List Tx) (es : List T3) (lv : Nat) : Bool := !(anyTo es lv) && (decide (lv < 2) || rightB ts)
set_option maxRecDepth 100000 in
set_option maxHeartbeats 8000000 in
theorem allows_c {A : Option Addr} {n c m lv : Nat} {u : Value} {ts : List Tx} {es : List T3} {w : World} (hr : RTs w A n ts) (hh : histB ts = true) (hs : S3 w u m es) (hv : edgesB (n : Int) es = true) (h4 : lv ≤ 4) :
    Calls Tryz.prog 57 #[.slice A n c, u, .int .i64 (lv : Int)] w fun e w' => e = .returned (.bool (allB ts es lv)) ∧ Below w.heap.size w w' := by
  have HH := hide hh; have HV := hide hv
  obtain ⟨Au, cu, rfl⟩ := hs.shape
  clear hh hv
  go_enter Tryz.func57, Tryz.ntmps57
  go_wp2_with fail
  go_loopw [7] (fun i W => ∃ k : Nat, i = .int .i64 (k : Int) ∧ 1 ≤ k ∧ k ≤ lv + 1 ∧ anyTo es (k - 1) = false ∧ Below w.heap.size w W) (fun i _ => lv + 1 - (intOf i).toNat)
  case atStart => exact ⟨1, rfl, by omega, by omega, rfl, Below.refl _ _⟩
  case round =>
    rename World => wr
    obtain ⟨k, rfl, hk1, hkl, hany, bw⟩ := hrel
    have HA := hide hany; clear hany
    by_cases hlt : k ≤ lv
    · have hlt' : (k : Int) ≤ lv := by omega
      go_wp2_with fail
      refine (impl_HasAnomaly_c (hs.below bw) HV.out hk1 (by omega)).mono ?_
      rintro e w3 ⟨rfl, b3⟩
      have B3 := below_step bw b3
      clear bw b3
      cases hb : anomB es k
      · have hn : anyTo es (k + 1 - 1) = false := by
          obtain ⟨q, rfl⟩ : ∃ q, k = q + 1 := ⟨k - 1, by omega⟩
          show (anyTo es q || anomB es (q + 1)) = false
          rw [hb, show anyTo es q = false from HA.out]; rfl
        have HN := hide hn
        clear hn hb
        go_wp2_with fail
        go_roundw
        case rel => exact ⟨k + 1, by go_num, by omega, by omega, HN.out, B3⟩
        case measure => simp [intOf]; omega
      · have hf : allB ts es lv = false := by
          have : anyTo es lv = true := by
            obtain ⟨q, rfl⟩ : ∃ q, k = q + 1 := ⟨k - 1, by omega⟩
            exact anyTo_hit hb hlt
          unfold allB; rw [this]; rfl
        have F := hide hf
        clear hf hb
        go_wp2_with fail
        go_ret
        exact ⟨congrArg (fun q => Ending.returned (.bool q)) F.out.symm, B3⟩
    · obtain rfl : k = lv + 1 := by omega
      have hng : ¬ ((lv : Int) + 1 ≤ lv) := by omega
      have hd : allB ts es lv = (decide (lv < 2) || rightB ts) := by
        unfold allB
        rw [show anyTo es lv = false from HA.out]; rfl
      by_cases h2 : lv < 2
      · have hl2 : (lv : Int) < 2 := by omega
        have F := hide (show allB ts es lv = true by rw [hd]; simp [h2])
        clear hd h2
        go_wp2_with fail
        go_ret
        exact ⟨congrArg (fun q => Ending.returned (.bool q)) F.out.symm, bw⟩
      · have hl2 : ¬ (lv : Int) < 2 := by omega
        have F := hide (show allB ts es lv = rightB ts by rw [hd]; simp [h2])
        have hrw := hr.below bw
        clear hd h2
        go_wp2_with fail
        refine (impl_ReadsRight_c hrw HH.out).mono ?_
        rintro e w3 ⟨rfl, b3⟩
        go_wp2_with fail
        go_ret
        exact ⟨congrArg (fun q => Ending.returned (.bool q)) F.out.symm, below_step bw b3⟩
end Go.Proofs.YtcfkemchekmjbaaGreatDoor
