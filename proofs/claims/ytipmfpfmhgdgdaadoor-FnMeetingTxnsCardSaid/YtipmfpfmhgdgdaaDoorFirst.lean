/- impl.firstReads, FirstReads: reads of the transaction (over a map of the call's own). -/
import Derived.Test.YtipmfpfmhgdgdaaDoorHistV
import Derived.Test.YtipmfpfmhgdgdaaDoorHistM
import Derived.Test.YtipmfpfmhgdgdaaDoorDrawH1
namespace Go.Proofs.YtipmfpfmhgdgdaaDoor
open Go.RowKit Go.Maps

theorem lawIntF : Keyed Tryd.prog 3 := int_keyed Tryd.underlying3
def kF (x : Int) : Lit := .int .i64 x
theorem keyF {x : Int} (h0 : 0 ≤ x) (h1 : x ≤ 1000) : keyOf Tryd.prog 3 (.int .i64 x) = some (kF x) := keyOf_int_mk Tryd.underlying3 (WalkArith.wf_i64 (by omega))
theorem zeroBo (w : World) : (zeroValue 4).run Tryd.prog w = .ok (.bool false) w := by kernel_rfl
theorem plainB {H : Type} (x : Bool) : (plainElem Tryd.prog 4 (.bool x) : Option (DataW H × List MemPlace)) = some (.lit (.bool x), []) := by
  unfold plainElem; rw [Tryd.underlying4]
theorem plainB_inv {H : Type} {v : Value} {z : DataW H × List MemPlace} (h : plainElem Tryd.prog 4 v = some z) : ∃ x, v = .bool x := by
  unfold plainElem at h
  rw [Tryd.underlying4] at h
  cases v <;> simp at h
  exact ⟨_, rfl⟩
/-- A map of bools of the call's own. -/
def TM (w : World) (b n : Nat) : Prop := ∃ D : DataW Unit, w.ownsMap Tryd.prog 3 (plainElem Tryd.prog 4) b n D
theorem TM.zero (w : World) : TM (w.alloc (.map #[] 0)) w.heap.size 0 := ⟨_, World.ownsMap_made w _ _ _⟩
theorem TM.lt {w : World} {b n : Nat} (h : TM w b n) : b < w.heap.size := by obtain ⟨D, ho⟩ := h; exact ho.lt
theorem TM.below {w w' : World} {b n : Nat} (h : TM w b n) (hb : Below w.heap.size w w') : TM w' b n := by
  obtain ⟨D, ho⟩ := h
  have hlt := ho.lt
  obtain ⟨es, cl, h3, h4⟩ := ho
  exact ⟨D, es, cl, (hb.block b hlt).trans h3, h4⟩
theorem TM.grown {w w' : World} {b n : Nat} {row : Option Nat} (h : TM w b n) (hg : w.grownBy w' row) (hne : some b ≠ row) : TM w' b n := by
  obtain ⟨D, ho⟩ := h
  have hlt := ho.lt
  obtain ⟨es, cl, h3, h4⟩ := ho
  exact ⟨D, es, cl, (hg.block b hlt hne).trans h3, h4⟩
theorem TM.alloc {w : World} {b n : Nat} (h : TM w b n) (o : Obj) : TM (w.alloc o) b n := h.below ((Below.refl _ _).alloc (Nat.le_refl _) _)
theorem TM.mono {w : World} {b n m : Nat} (h : TM w b n) (hm : n ≤ m) : TM w b m := by obtain ⟨D, h⟩ := h; exact ⟨D, h.mono hm⟩
/-- A row is no map. -/
theorem TM.ne {w : World} {b n k s B : Nat} {t : TypeId} {q : Value} {xs : List Value} (h : TM w b n) (ho : w.ownsRow B t s q k xs) : some b ≠ q.ownBlock := fun e => by
  obtain ⟨D, es, cl, h3, _⟩ := h
  rcases ho.2 with ⟨rfl, _⟩ | ⟨g, cap, cur, rfl, _, hh, _⟩
  · simp [Value.ownBlock] at e
  · have e1 : b = g := by have h : some b = some g := e; injection h
    subst e1
    rw [hh] at h3; injection h3 with h3; cases h3
theorem TM.look {w : World} {b n : Nat} {y : Int} (h : TM w b n) (h0 : 0 ≤ y) (h1 : y ≤ 1000) : ∃ c, (Instr.lookup 71 (.map (some b)) (.int .i64 y) false).run Tryd.prog w = .ok (.bool c) w := by
  obtain ⟨D, hown⟩ := h
  obtain ⟨v, ps, hrun, hv⟩ := hown.lookup lawIntF Tryd.underlying71 (zeroBo w) (plainB false) (keyF h0 h1)
  obtain ⟨c, rfl⟩ := plainB_inv hv
  exact ⟨c, by simpa using hrun⟩
theorem O3.fresh {te : TypeId} {w : World} {B : Nat} {v : Value} {n : Nat} {ts : List T3} (h : O3 te w B v n ts) : some w.heap.size ≠ v.ownBlock := fun e => by have := (World.ownsRow.lt h.1 _ e.symm).2; omega
theorem made3 (w : World) : (Instr.makeSlice 34 (.int .i64 0) (.int .i64 3)).run Tryd.prog w = .ok (.slice (some ⟨w.heap.size, 0, none⟩) 0 3) (w.alloc (.cells (madeCells #[.int .i64 0, .int .i64 0, .int .i64 0] 9) 47)) := by
  obtain ⟨i, hi, hz, hs, hb⟩ := info_parts infoOh
  have := run_make_rowN 34 47 i (.agg #[.int .i64 0, .int .i64 0, .int .i64 0]) Tryd.underlying34 hi hz .i64 .i64 0 3 (Nat.zero_le _) (by rw [hb]; omega) (by omega) w
  rw [hs] at this
  exact this
theorem made3_o (w : World) : O3 47 (w.alloc (.cells (madeCells #[.int .i64 0, .int .i64 0, .int .i64 0] 9) 47)) w.heap.size (.slice (some ⟨w.heap.size, 0, none⟩) 0 3) 0 [] :=
  ⟨⟨rfl, .inr ⟨w.heap.size, 3, _, rfl, Nat.le_refl _, Blk.new w _ _, Nat.zero_le _, by simp [maxLen], by simp [size_madeCells], by simp [flat3]⟩⟩, by omega⟩
/-- A slice of operations in a row of operations. -/
def SO (w : World) (v : Value) (n : Nat) (zs : List T3) : Prop := ∃ A, v = .slice A n n ∧ n ≤ 1048576 ∧ zs.length = n ∧ (0 < n → ∃ b cur, A = some ⟨b, 0, none⟩ ∧ Blk w b 47 cur ∧ ∀ (k : Nat) (x : Int), (flat3 zs)[k]? = some x → cur[k]? = some (.int .i64 x))
theorem SO.below {w w' : World} {v : Value} {n : Nat} {zs : List T3} (h : SO w v n zs) (hb : Below w.heap.size w w') : SO w' v n zs := by
  obtain ⟨A, h1, h2, h3, h4⟩ := h
  exact ⟨A, h1, h2, h3, fun hn => by obtain ⟨b, cur, e, hB, hc⟩ := h4 hn; exact ⟨b, cur, e, hB.belowAll hb, hc⟩⟩
theorem SO.row {w w' : World} {v q : Value} {n m s B : Nat} {t : TypeId} {xs : List Value} {zs : List T3} (h : SO w v n zs) (ho : w.ownsRow B t s q m xs) (ht : t ≠ 47) (hg : w.grownBy w' q.ownBlock) : SO w' v n zs := by
  obtain ⟨A, h1, h2, h3, h4⟩ := h
  exact ⟨A, h1, h2, h3, fun hn => by
    obtain ⟨b, cur, e, hB, hc⟩ := h4 hn
    exact ⟨b, cur, e, hB.grown hg (fun e => by
      rcases own_neB ho hB ht with q | q
      · rw [q] at e; cases e
      · exact q e.symm), hc⟩⟩
theorem SO.s3 {w : World} {v : Value} {n : Nat} {zs : List T3} (h : SO w v n zs) : ∃ A, v = .slice A n n ∧ n ≤ 1048576 ∧ R3 w A n zs := by
  obtain ⟨A, h1, h2, h3, h4⟩ := h
  refine ⟨A, h1, h2, h3, fun hn => ?_⟩
  obtain ⟨b, cur, e, hB, hc⟩ := h4 hn
  exact ⟨b, 0, e, hB.lt, fun k x hk => by
    rw [Nat.zero_add]
    exact (hB.cell _).trans (hc k x hk)⟩
theorem slice3 {A : Option Addr} {n c B : Nat} {ys : List T3} {w : World} (h : O3 47 w B (.slice A n c) n ys) :
    ∃ A', (∀ w', (Instr.slice 34 (.slice A n c) none (some (.int .i64 (n : Int))) (some (.int .i64 (n : Int)))).run Tryd.prog w' = .ok (.slice A' n n) w') ∧ SO w (.slice A' n n) n ys := by
  have hl := h.len
  obtain ⟨A0, c0, e, hnc, hn, hr⟩ := h.s3
  injection e with e1 e2 e3
  subst e1; subst e3
  obtain ⟨i, hi, hz, hsz, hb⟩ := info_parts infoOh
  refine ⟨if n = 0 then A else A.map (·.add (0 * i.size)), fun w' => ?_, _, rfl, hn, hl, fun hk0 => ?_⟩
  · simp [Instr.slice, Instr.sliceBounds, Instr.sliceBound, run_underlying Tryd.underlying34, sizeOf, typeInfo, hi, asIntOf, hnc]
  · rcases h.1.2 with ⟨_, h0⟩ | ⟨g, cap, cur, e, hB, hg, hc, hcm, hs, ht⟩
    · omega
    · injection e with e _ _
      subst e
      refine ⟨g, cur, ?_, hg, fun k x hk => ?_⟩
      · rw [if_neg (by omega), Nat.zero_mul]; simp [addr_add]
      · have hkl : k < n * 3 := by have := (List.getElem?_eq_some_iff.1 hk).1; rw [flat3_len, hl] at this; exact this
        have : (cur.toList.take (n * 3))[k]? = some (.int .i64 x) := by rw [ht]; simp [hk]
        rw [List.getElem?_take_of_lt hkl] at this
        simpa using this

set_option maxRecDepth 100000 in
set_option maxHeartbeats 8000000 in
theorem firstReads_c {u : Value} {m : Nat} {ys : List T3} {f : Int} {dn : Bool} {w : World} (hu : S3 w u m ys) (hm : m ≤ 6) (hk : ∀ o ∈ ys, 0 ≤ o.2.1 ∧ o.2.1 ≤ 2) :
    Calls Tryd.prog 29 #[.agg #[.int .i64 f, u, .bool dn]] w fun e w' => ∃ v n zs, e = .returned v ∧ SO w' v n zs ∧ n ≤ m ∧ (∀ o ∈ zs, o ∈ ys ∧ o.1 = 1) ∧ Below w.heap.size w w' := by
  obtain ⟨A, c, rfl, hnc, hmm, hr⟩ := hu
  have hmk := fun (v : World) => run_makeMap (P := Tryd.prog) 71 v
  have hm3 := made3
  have KB := Blk.new w 36 #[.int .i64 f, .slice A m c, .bool dn]
  have o0 := ((made3_o (w.alloc (.cells #[.int .i64 f, .slice A m c, .bool dn] 36))).mono (B' := w.heap.size) (by simp)).alloc (.map #[] 0)
  have T0 := TM.zero ((w.alloc (.cells #[.int .i64 f, .slice A m c, .bool dn] 36)).alloc (.cells (madeCells #[.int .i64 0, .int .i64 0, .int .i64 0] 9) 47))
  have B0 : Below w.heap.size w (((w.alloc (.cells #[.int .i64 f, .slice A m c, .bool dn] 36)).alloc (.cells (madeCells #[.int .i64 0, .int .i64 0, .int .i64 0] 9) 47)).alloc (.map #[] 0)) := (((Below.refl w.heap.size w).alloc (Nat.le_refl _) _).alloc (by simp) _).alloc (by simp <;> omega) _
  simp only [World.size_alloc] at o0 T0
  have O0 := hide o0; have T0' := hide T0; have B0' := hide B0
  clear o0 T0 B0 KB
  go_enter Tryd.func29, Tryd.ntmps29
  go_wp2_with fail
  go_loopw [3, 12] (fun v i W => ∃ (k n : Nat) (zs : List T3), i = .int .i64 k ∧ k ≤ m ∧ O3 47 W w.heap.size v n zs ∧ n ≤ k ∧ (∀ o ∈ zs, o ∈ ys ∧ o.1 = 1) ∧ TM W (w.heap.size + 1 + 1) k ∧ Below w.heap.size w W) (fun _ i _ => m - (intOf i).toNat)
  case atStart => exact ⟨0, 0, [], rfl, Nat.zero_le _, O0.out, Nat.le_refl _, (fun o h => by simp at h), T0'.out, B0'.out⟩
  case round =>
    clear O0 T0' B0' hm3 hmk
    rename World => wr
    obtain ⟨k, n, zs, rfl, hkm, ho, hnk, hzs, hT, bw⟩ := hrel
    have HZ := hide hzs; clear hzs
    by_cases hlt : k < m
    · obtain ⟨b, off, x, y, z, rfl, hbb, hx, p0, p1, p2⟩ := hr.at_ hlt
      have a0 := (bw.cell (p := ⟨b, off + k * 3, none⟩) hbb).trans p0
      have a1 := (bw.cell (p := ⟨b, off + k * 3 + 1, none⟩) hbb).trans p1
      have a2 := (bw.cell (p := ⟨b, off + k * 3 + 2, none⟩) hbb).trans p2
      have hmem := List.mem_of_getElem? hx
      obtain ⟨hy0, hy2⟩ := hk _ hmem
      dsimp only at hy0 hy2
      have HM := hide hmem
      clear hx p0 p1 p2 hmem
      have k0 : (0 : Int) ≤ k := by omega
      have k2 : (k : Int) < m := by omega
      have K1 := Blk.new wr 47 #[.int .i64 x, .int .i64 y, .int .i64 z]
      have b1 : Below w.heap.size w (wr.alloc (.cells #[.int .i64 x, .int .i64 y, .int .i64 z] 47)) := bw.alloc bw.size _
      have ho1 := ho.alloc (.cells #[.int .i64 x, .int .i64 y, .int .i64 z] 47)
      have hT1 := hT.alloc (.cells #[.int .i64 x, .int .i64 y, .int .i64 z] 47)
      have hfr := ho.fresh
      clear ho hT
      go_wp2_with fail
      refine (readsOp_c).mono ?_
      rintro e w2 ⟨rfl, b2⟩
      have B2 := below_step b1 b2
      have K2 := K1.belowAll b2
      have ho2 := ho1.below b2
      have hT2 := hT1.below b2
      have hlt2 := hT2.lt
      obtain ⟨f0, f1, f2⟩ := K2.three
      clear K1 ho1 hT1 b1 b2 bw a0 a1 a2
      by_cases hx1 : x = 1
      · subst hx1
        rw [show ((1 : Int) == 1) = true by rfl]
        obtain ⟨cc, hlk⟩ := hT2.look hy0 (by omega)
        cases cc
        · have KN := Blk.new w2 47 #[.int .i64 1, .int .i64 y, .int .i64 z]
          have ho3 := ho2.alloc (.cells #[.int .i64 1, .int .i64 y, .int .i64 z] 47)
          have hT3 := hT2.alloc (.cells #[.int .i64 1, .int .i64 y, .int .i64 z] 47)
          have B3 := B2.alloc B2.size (.cells #[.int .i64 1, .int .i64 y, .int .i64 z] 47)
          have K3 := K2.alloc (.cells #[.int .i64 1, .int .i64 y, .int .i64 z] 47)
          have hs3 := B2.size
          clear ho2 hT2 K2
          have f0' := K3.three
          obtain ⟨e0, e1, e2⟩ := f0'
          go_upto_region 8 with (at_builtin; refine wpList_app3 rfl _ _ rfl Tryd.underlying34 infoOh rfl ho3 rfl (S3.one KN (Nat.le_refl _)) (by omega) (by simp <;> omega) ?_; intro v4 w4 o4 hg4 hat4)
          have hT4 := hT3.grown hg4 (TM.ne hT3 ho3.1)
          have B4 := below_app3 B3 ho3 (Nat.le_refl _) hg4
          have hz4 : ∀ o ∈ zs ++ [(1, y, z)], o ∈ ys ∧ o.1 = 1 := fun o ho => by
            rcases List.mem_append.1 ho with h | h
            · exact HZ.out o h
            · simp at h; subst h; exact ⟨HM.out, rfl⟩
          have HZ4 := hide hz4
          have K4 : w4.cell? ⟨wr.heap.size, 1, none⟩ = some (.int .i64 y) := (K3.grown hg4 hfr).cell 1
          clear f0 f1 f2 ho3 hT3 K3 KN hz4
          obtain ⟨D, hown⟩ := hT4
          have hown2 := hown
          have hneO := TM.ne ⟨D, hown⟩ o4.1
          have KF := hide (keyF (x := y) (by omega) (by omega))
          go_wp2_with (at_mapUpdate; refine wpList_mapUpdate_own _ rfl _ _ _ 71 rfl 3 4 lawIntF Tryd.underlying71 (plainElem Tryd.prog 4) (w.heap.size + 1 + 1) k D rfl hown2 (by unfold maxLen; omega) _ _ _ rfl rfl KF.out _ [] (plainB true) ?_; intro w9 hown9 hg9)
          go_roundw
          case rel => exact ⟨k + 1, n + 1, _, by go_num, by omega, O3.grown o4 hg9 (.inr (fun e => hneO e.symm)), by omega, HZ4.out, ⟨_, hown9⟩, B4.grown hg9 B4.size (fun j e => by injection e with e; omega)⟩
          case measure => simp [intOf]; omega
        · clear K2
          obtain ⟨D, hown⟩ := hT2
          have hown2 := hown
          have hneO := TM.ne ⟨D, hown⟩ ho2.1
          have KF := hide (keyF (x := y) (by omega) (by omega))
          go_wp2_with (at_mapUpdate; refine wpList_mapUpdate_own _ rfl _ _ _ 71 rfl 3 4 lawIntF Tryd.underlying71 (plainElem Tryd.prog 4) (w.heap.size + 1 + 1) k D rfl hown2 (by unfold maxLen; omega) _ _ _ rfl rfl KF.out _ [] (plainB true) ?_; intro w9 hown9 hg9)
          go_roundw
          case rel => exact ⟨k + 1, n, zs, by go_num, by omega, O3.grown ho2 hg9 (.inr (fun e => hneO e.symm)), by omega, HZ.out, ⟨_, hown9⟩, B2.grown hg9 B2.size (fun j e => by injection e with e; omega)⟩
          case measure => simp [intOf]; omega
      · have hxb : (x == 1) = false := by simpa using hx1
        rw [hxb]
        go_upto_region 8 with fail
        clear K2
        obtain ⟨D, hown⟩ := hT2
        have hown2 := hown
        have hneO := TM.ne ⟨D, hown⟩ ho2.1
        have KF := hide (keyF (x := y) (by omega) (by omega))
        go_wp2_with (at_mapUpdate; refine wpList_mapUpdate_own _ rfl _ _ _ 71 rfl 3 4 lawIntF Tryd.underlying71 (plainElem Tryd.prog 4) (w.heap.size + 1 + 1) k D rfl hown2 (by unfold maxLen; omega) _ _ _ rfl rfl KF.out _ [] (plainB true) ?_; intro w9 hown9 hg9)
        go_roundw
        case rel => exact ⟨k + 1, n, zs, by go_num, by omega, O3.grown ho2 hg9 (.inr (fun e => hneO e.symm)), by omega, HZ.out, ⟨_, hown9⟩, B2.grown hg9 B2.size (fun j e => by injection e with e; omega)⟩
        case measure => simp [intOf]; omega
    · obtain rfl : k = m := by omega
      obtain ⟨Ao, co, rfl⟩ := ho.shape
      obtain ⟨A', rc, sc⟩ := slice3 ho
      go_wp2_with fail
      go_ret
      exact ⟨_, n, zs, rfl, sc, hnk, HZ.out, bw⟩

set_option maxRecDepth 100000 in
set_option maxHeartbeats 2000000 in
theorem FirstReads_c {u : Value} {m : Nat} {ys : List T3} {f : Int} {dn : Bool} {w : World} (hu : S3 w u m ys) (hv : txnB (f, ys, dn) = true) :
    Calls Tryd.prog 13 #[.agg #[.int .i64 f, u, .bool dn]] w fun e w' => ∃ v n zs, e = .returned v ∧ SO w' v n zs ∧ n ≤ m ∧ (∀ o ∈ zs, o ∈ ys ∧ o.1 = 1) ∧ Below w.heap.size w w' := by
  have HV := hide hv
  have hm6 : m ≤ 6 := by
    have h1 := txnB_lenH hv
    obtain ⟨A, c, e, _, _, hr⟩ := hu
    have := hr.len
    omega
  have hkk : ∀ o ∈ ys, 0 ≤ o.2.1 ∧ o.2.1 ≤ 2 := fun o ho => by
    obtain ⟨j, hj, hg⟩ := List.mem_iff_getElem.1 ho
    have := txnB_opH hv (k := j) (o := o) (by rw [← hg]; exact List.getElem?_eq_getElem hj)
    unfold opB at this
    simp only [Bool.and_eq_true, inB_iff] at this
    exact ⟨this.2.1.1, this.2.1.2⟩
  have HK := hide hkk
  clear hv hkk
  obtain ⟨A, c, rfl⟩ := hu.shape
  have K := Blk.new w 36 #[.int .i64 f, .slice A m c, .bool dn]
  have b1 : Below w.heap.size w (w.alloc (.cells #[.int .i64 f, .slice A m c, .bool dn] 36)) := (Below.refl _ _).alloc (Nat.le_refl _) _
  have hu1 := hu.alloc (.cells #[.int .i64 f, .slice A m c, .bool dn] 36)
  go_enter Tryd.func13, Tryd.ntmps13
  go_wp2_with fail
  refine (impl_TxnValid_c hu1).mono ?_
  rintro e w2 ⟨rfl, b2⟩
  rw [HV.out]
  have B2 := below_step b1 b2
  obtain ⟨q0, q1, q2⟩ := (K.belowAll b2).three'
  go_wp2_with fail
  refine (firstReads_c (hu1.below b2) hm6 HK.out).mono ?_
  rintro e w3 ⟨v, n, zs, rfl, sz, hn, hz, b3⟩
  go_wp2_with fail
  go_ret
  exact ⟨v, n, zs, rfl, sz, hn, hz, below_step B2 b3⟩

end Go.Proofs.YtipmfpfmhgdgdaaDoor
