/- The program's copies: Clone, Clip, copyTxn, copyHistory. -/
import Derived.Test.YtieecneknljmdaaDoorTw
import Derived.Test.YtieecneknljmdaaDoorRun1
import Derived.BigRegion
namespace Go.Proofs.YtieecneknljmdaaDoor
open Go.RowKit

set_option maxHeartbeats 1000000 in
theorem Clone_Op_c {v : Value} {n : Nat} {ts : List T3} {w : World} (hs : S3 w v n ts) :
    Calls Tryd.prog 98 #[v] w fun e w' => ∃ v, e = .returned v ∧ O3 51 w' w.heap.size v n ts ∧ Below w.heap.size w w' := by
  have ss := hs
  obtain ⟨A, c, rfl, hnc, hn, hr⟩ := hs
  have qT : ∀ (w : World) (a : Option Addr) (n c n' c' : Nat), (binOp .eql 56 (.slice a n c) (.slice none n' c')).run Tryd.prog w = .ok (.bool a.isNone) w := fun w a n c n' c' => Lib.run_eql_slice_nil w _ _ a n c n' c' Tryd.underlying56
  cases A with
  | none =>
    have h0 : n = 0 := by
      rcases Nat.eq_zero_or_pos n with h | h
      · exact h
      · obtain ⟨b, off, h1, _⟩ := hr.2 h; cases h1
    subst h0
    have h1 : ts = [] := List.eq_nil_of_length_eq_zero hr.len
    subst h1
    go_enter Tryd.func98, Tryd.ntmps98
    go_wp2_with fail
    go_ret
    exact ⟨_, rfl, ⟨World.ownsRow_nil _ _ _ _, by omega⟩, Below.refl _ _⟩
  | some a =>
    go_enter Tryd.func98, Tryd.ntmps98
    go_wp2_with (at_builtin; refine wpList_app3 rfl _ _ rfl Tryd.underlying56 infoOpz rfl (O3.empty 51 w) rfl (ss.alloc _) (by omega) (by simp) ?_; intro v1 w1 ho hg hat)
    go_ret
    refine ⟨_, rfl, by simpa using ho, ?_⟩
    exact ((Below.refl _ _).alloc (Nat.le_refl _) _).grown hg (by simp) (fun k hk => by have h : some w.heap.size = some k := hk; injection h; omega)

theorem run_clip (A : Option Addr) (n c : Nat) (hnc : n ≤ c) (hA : ∀ a, A = some a → ∃ g, a = ⟨g, 0, none⟩) (w : World) :
    (Instr.slice 56 (.slice A n c) none (some (.int .i64 (n : Int))) (some (.int .i64 (n : Int)))).run Tryd.prog w = .ok (.slice A n n) w := by
  obtain ⟨i, hi, hz, hsz, hb⟩ := info_parts infoOpz
  have h1 : (if n = 0 then A else A.map (·.add (0 * i.size))) = A := by
    split
    · rfl
    · cases A with
      | none => rfl
      | some a => obtain ⟨g, rfl⟩ := hA a rfl; rw [Nat.zero_mul]; simp [addr_add]
  simp [Instr.slice, Instr.sliceBounds, Instr.sliceBound, run_underlying Tryd.underlying56, sizeOf, typeInfo, hi, asIntOf, hnc]
  simpa using h1

set_option maxHeartbeats 1000000 in
theorem Clip_Op_c {v : Value} {B n : Nat} {xs : List Int} {w : World} (h : OW 51 3 w B v n xs) :
    Calls Tryd.prog 97 #[v] w fun e w' => ∃ v', e = .returned v' ∧ OW 51 3 w B v' n xs ∧ w = w' := by
  obtain ⟨A, c, rfl, hnc, hcm, h1, h2⟩ := h.form
  have hcl := fun w => run_clip A n c hnc (fun a ha => by obtain ⟨g, h3, _⟩ := h2 a ha; exact ⟨g, h3⟩) w
  have ho : OW 51 3 w B (.slice A n n) n xs := by
    refine ⟨h.1, h.2.1, ?_⟩
    rcases h.2.2 with ⟨e, hn⟩ | ⟨g, c', cur, e, hB, hg, hc, hm, r⟩
    · injection e with e1 _ e3; subst hn; subst e1; exact .inl ⟨rfl, rfl⟩
    · injection e with e1 _ e3; subst e1; exact .inr ⟨g, n, cur, rfl, hB, hg, Nat.le_refl _, by omega, r⟩
  have HO := hide ho
  have hn := h.1
  clear ho h h1 h2
  go_enter Tryd.func97, Tryd.ntmps97
  go_wp2_with fail
  go_ret
  exact ⟨_, rfl, HO.out, rfl⟩

set_option maxHeartbeats 2000000 in
theorem copyTxn_c {v : Value} {m : Nat} {ys : List T3} {f : Int} {dn : Bool} {w : World} (hv : S3 w v m ys) :
    Calls Tryd.prog 92 #[.agg #[.int .i64 f, v, .bool dn]] w fun e w' => ∃ A c, e = .returned (.agg #[.int .i64 f, .slice A m c, .bool dn]) ∧ OW 51 3 w' w.heap.size (.slice A m c) m (flat3 ys) ∧ Below w.heap.size w w' := by
  have sv := hv
  obtain ⟨B, d, rfl⟩ := hv.shape
  have B0 : Below w.heap.size w ((w.alloc (.cells #[.int .i64 f, .slice B m d, .bool dn] 58)).alloc (.cells #[.int .i64 0, .slice none 0 0, .bool false] 58)) := ((Below.refl _ _).alloc (Nat.le_refl _) _).alloc (by simp) _
  have K1 := (Blk.new w 58 #[.int .i64 f, .slice B m d, .bool dn]).alloc (.cells #[.int .i64 0, .slice none 0 0, .bool false] 58)
  have K2 := Blk.new (w.alloc (.cells #[.int .i64 f, .slice B m d, .bool dn] 58)) 58 #[.int .i64 0, .slice none 0 0, .bool false]
  simp only [World.size_alloc] at K2
  go_enter Tryd.func92, Tryd.ntmps92
  go_wp2_with fail
  refine (Clone_Op_c (sv.below B0)).mono ?_
  rintro e w2 ⟨v2, rfl, o2, b2⟩
  have B2 := below_step B0 b2
  go_wp2_with fail
  refine (Clip_Op_c o2.of.ow).mono ?_
  rintro e w' ⟨v3, rfl, o3, rfl⟩
  obtain ⟨A3, c3, rfl, _⟩ := o3.form
  replace K1 := K1.belowAll b2
  replace K2 := K2.belowAll b2
  obtain ⟨k0, k1, k2⟩ := K1.three
  obtain ⟨l0, l1, l2⟩ := K2.three
  have f1 := K1.frozen 1
  have g0 := K2.frozen 0; have g1 := K2.frozen 1; have g2 := K2.frozen 2
  go_wp2_with fail
  obtain ⟨t0, t1, t2⟩ := ((((K2.far (p := ⟨w.heap.size, 1, none⟩) (by simp) (.slice A3 m c3)).set_ 0 (.int .i64 f)).set_ 1 (.slice A3 m c3)).set_ 2 (.bool dn)).three
  simp only [World.size_alloc] at o3
  refine bodyPost_ret (v := .agg #[.int .i64 f, .slice A3 m c3, .bool dn]) (by simp [results, Tryd.results92, go_sem, t0, t1, t2]) rfl ⟨A3, c3, rfl, ?_, ?_⟩
  · refine OW.mono (B := w.heap.size + 1 + 1) ?_ (by omega)
    have q : ∀ {W : World} {p : Addr} {u : Value}, OW 51 3 W (w.heap.size + 1 + 1) (.slice A3 m c3) m (flat3 ys) → p.block < w.heap.size + 1 + 1 → OW 51 3 (W.setCell p u) (w.heap.size + 1 + 1) (.slice A3 m c3) m (flat3 ys) := fun {W p u} h hp =>
      h.chg (Chg.setCell (S := fun k => k = p.block) rfl u) (fun k hk e => by have := (h.lt k hk).1; omega)
    exact q (q (q (q o3 (by show w.heap.size < _; omega)) (by show w.heap.size + 1 < _; omega)) (by show w.heap.size + 1 < _; omega)) (by show w.heap.size + 1 < _; omega)
  · exact (((B2.setCell (p := ⟨w.heap.size, 1, none⟩) (Nat.le_refl _) _).setCell (p := ⟨w.heap.size + 1, 0, none⟩) (by simp) _).setCell (p := ⟨w.heap.size + 1, 1, none⟩) (by simp) _).setCell (p := ⟨w.heap.size + 1, 2, none⟩) (by simp) _

theorem run_make_Txc (k : Nat) (hk : k ≤ 1048576) (w : World) :
    (Instr.makeSlice 23 (.int .i64 0) (.int .i64 (k : Int))).run Tryd.prog w = .ok (.slice (some ⟨w.heap.size, 0, none⟩) 0 k) (w.alloc (.cells (madeCells #[.int .i64 0, .slice none 0 0, .bool false] (k * 3)) 58)) := by
  obtain ⟨i, hi, hz, hs, hb⟩ := info_parts infoTx
  have := run_make_rowN 23 58 i (.agg #[.int .i64 0, .slice none 0 0, .bool false]) Tryd.underlying23 hi hz .i64 .i64 0 k (Nat.zero_le _) (by rw [hb]; omega) (by omega) w
  rw [hs] at this
  exact this
theorem OV.made {w : World} (k : Nat) (hk : k ≤ 1048576) : OV (w.alloc (.cells (madeCells #[.int .i64 0, .slice none 0 0, .bool false] (k * 3)) 58)) w.heap.size (.slice (some ⟨w.heap.size, 0, none⟩) 0 k) 0 [] :=
  ⟨⟨rfl, .inr ⟨w.heap.size, k, _, rfl, Nat.le_refl _, Blk.new w _ _, Nat.zero_le _, by simp [maxLen]; omega, by simp [size_madeCells], by simp [cellsT]⟩⟩, fun j e h => by simp at h, fun i j p q _ h => by simp at h, by omega⟩
theorem SaysT.pushT {es : List El} {ts : List Tx} {k : Nat} {t : Tx} {v : Value} {m : Nat} (h : SaysT es (ts.take k)) (hx : ts[k]? = some t) : SaysT (es ++ [(t.1, (v, m, flat3 t.2.1), t.2.2)]) (ts.take (k + 1)) := by
  unfold SaysT at *
  rw [List.map_append, h, List.take_add_one, hx, List.map_append]; rfl

set_option maxRecDepth 100000 in
set_option maxHeartbeats 4000000 in
theorem copyHistory_c {v : Value} {n : Nat} {ts : List Tx} {w : World} (hs : STs w v n ts) (hn1 : n ≤ 1048575) (hsm : SmallT ts) :
    Calls Tryd.prog 86 #[v] w fun e w' => ∃ v' es, e = .returned v' ∧ OV w' w.heap.size v' n es ∧ SaysT es ts ∧ Below w.heap.size w w' := by
  obtain ⟨A, c, rfl, hnc, hn, hr⟩ := hs
  have hl := hide hr.1
  have hmk := run_make_Txc n hn
  have D0 := OV.made (w := w) n hn
  have B0 : Below w.heap.size w (w.alloc (.cells (madeCells #[.int .i64 0, .slice none 0 0, .bool false] (n * 3)) 58)) := (Below.refl _ _).alloc (Nat.le_refl _) _
  go_enter Tryd.func86, Tryd.ntmps86
  go_wp2_with fail
  go_loopw [3, 11] (fun s i wr => ∃ (k : Nat) (es : List El), k ≤ n ∧ i = .int .i64 k ∧ OV wr w.heap.size s k es ∧ SaysT es (ts.take k) ∧ Below w.heap.size w wr) (fun _ i _ => n - (intOf i).toNat)
  case atStart => exact ⟨0, [], Nat.zero_le _, rfl, D0, by simp [SaysT], B0⟩
  case round =>
    clear D0 B0
    obtain ⟨k, es, hk, rfl, D, hsay, bw⟩ := hrel
    have Hs := hide hsay; clear hsay
    by_cases hkn : k < n
    · obtain ⟨b, off, f, ys, dn, B, kk, d, rfl, hbb, hx, q0, q1, q2, hkd, hdm, hri⟩ := hr.at_ hkn
      have e0 := (bw.cell (p := ⟨b, off + k * 3, none⟩) hbb).trans q0
      have e1 := (bw.cell (p := ⟨b, off + k * 3 + 1, none⟩) hbb).trans q1
      have e2 := (bw.cell (p := ⟨b, off + k * 3 + 2, none⟩) hbb).trans q2
      have hsz := hsm _ (List.mem_of_getElem? hx)
      have hyl := hri.len
      have hk1 : kk ≤ 1048576 := by dsimp only at hsz; omega
      have s1 : S3 wr (.slice B kk d) kk ys := S3.of_args hkd hk1 (hri.below bw)
      have b1 : Below wr.heap.size wr (wr.alloc (.cells #[.int .i64 f, .slice B kk d, .bool dn] 58)) := (Below.refl _ _).alloc (Nat.le_refl _) _
      have B1 := below_step bw b1
      have Hx := hide hx
      clear hx q0 q1 q2 hsz hyl
      have k0 : (0 : Int) ≤ k := by omega
      have k2 : (k : Int) < n := by omega
      go_wp2_with fail
      refine (copyTxn_c (s1.below b1)).mono ?_
      rintro e w2 ⟨A2, c2, rfl, o2, b2⟩
      have B2 := below_step B1 b2
      have KT := Blk.new w2 58 #[.int .i64 f, .slice A2 kk c2, .bool dn]
      have D2 := (((D.below b1).below b2).alloc (.cells #[.int .i64 f, .slice A2 kk c2, .bool dn] 58))
      have fr : ∀ (j : Nat) (p : El), es[j]? = some p → Apart p.2.1.1 (.slice A2 kk c2) := fun j p hj => by
        unfold Apart
        cases hp : p.2.1.1.ownBlock with
        | none => exact .inl rfl
        | some q =>
          right; intro e3
          have h1 := ((D.below b1).own j p hj).lt q hp
          have h2 := o2.lt q e3.symm
          omega
      have o3 := (o2.mono B1.size).below ((Below.refl _ _).alloc (Nat.le_refl _) (.cells #[.int .i64 f, .slice A2 kk c2, .bool dn] 58))
      have B3 : Below w.heap.size w (w2.alloc (.cells #[.int .i64 f, .slice A2 kk c2, .bool dn] 58)) := B2.alloc B2.size _
      have hk11 : k + 1 ≤ 1048576 := by omega
      have hsp := SaysT.pushT (v := .slice A2 kk c2) (m := kk) Hs.out Hx.out
      dsimp only at hsp
      have Hsp := hide hsp; have Fr := hide fr
      clear hsp fr
      go_wp2_with (at_builtin; refine wpList_appT rfl _ _ rfl rfl D2.row rfl KT rfl hk11 B3.size ?_; intro v1 w4 h4 hg4 hat; have D4 := D2.push (e := (f, (.slice A2 kk c2, kk, flat3 ys), dn)) (by rw [cellsT_append]; exact h4) hg4 (OW.grown o3 hg4 (by
        cases hv : (Value.slice A2 kk c2).ownBlock with
        | none => exact .inl rfl
        | some q =>
          right; intro e2
          rcases D2.row.2 with ⟨h1, _⟩ | ⟨g, cap, cur, h1, _, hb, _⟩
          · rw [h1] at e2; cases e2
          · rw [h1] at e2; have e3 : q = g := by injection e2
            subst e3; exact OW.ne_blk o3 hb (by decide) hv)) Fr.out hk11; have B5 := B3.grown hg4 B3.size (own_grown_le D2.row (Nat.le_refl _)))
      go_roundw
      case rel => exact ⟨k + 1, _, by omega, by go_num, D4, Hsp.out, B5⟩
      case measure => simp [intOf]; omega
    · obtain rfl : k = n := by omega
      have hfin : ts.take k = ts := List.take_of_length_le (by rw [hl.out]; omega)
      have h2 := Hs.out
      rw [hfin] at h2
      have H2 := hide h2
      clear h2 hfin
      go_wp2_with fail
      go_ret
      exact ⟨_, es, rfl, D, H2.out, bw⟩

end Go.Proofs.YtieecneknljmdaaDoor
