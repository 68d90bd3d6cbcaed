/- Merged (what the law reaches): Ins2, Cmo. -/
import Derived.Test.YtcfkemchekmjbaaGreatDoorQzg
namespace Go.Proofs.YtcfkemchekmjbaaGreatDoor
open Go.RowKit
theorem pushTo_le (os : Ls) (ws : List T3) (key : Nat) : ∀ j, ((pushTo os ws j).getD key []).length ≤ (os.getD key []).length + j := by
  intro j
  induction j with
  | zero => exact Nat.le_refl _
  | succ j ih =>
    cases hj : ws[j]? with
    | none =>
      have e : pushTo os ws (j + 1) = pushTo os ws j := by unfold pushTo; rw [List.take_add_one, hj]; simp
      rw [e]; omega
    | some o =>
      rw [pushTo_succ hj]
      by_cases e : o.2.1.toNat = key
      · subst e
        by_cases hl : o.2.1.toNat < (pushTo os ws j).length
        · rw [List.getD_eq_getElem?_getD, List.getElem?_set_self hl]
          simp only [Option.getD_some, List.length_append, List.length_cons, List.length_nil]
          omega
        · rw [List.set_eq_of_length_le (by omega)]; omega
      · rw [List.getD_eq_getElem?_getD, List.getElem?_set_ne e, ← List.getD_eq_getElem?_getD]; omega
theorem ordL_le (ts : List Tx) (co : List Nat) (key : Nat) : ((ordL ts co).getD key []).length ≤ co.length := by
  have : ∀ key, (ordK ts co key).length ≤ co.length := fun key => by unfold ordK; exact List.length_filterMap_le _ _
  match key with
  | 0 => exact this 0
  | 1 => exact this 1
  | 2 => exact this 2
  | k + 3 => simp [ordL]
/-- Rows whose slices lie in a block of three, to be read. -/
structure InsR (w : World) (bR : Nat) (vs : List Value) (os : Ls) : Prop where
  blk : Blk w bR 24 vs.toArray
  ln : vs.length = 3
  rows : ∀ (i : Nat) (v : Value), vs[i]? = some v → ∃ A kk d, v = .slice A kk d ∧ kk ≤ d ∧ kk ≤ 1048576 ∧ RI w A kk (os.getD i []) ∧ ∀ a, A = some a → ∃ g, a = ⟨g, 0, none⟩ ∧ g ≠ bR
theorem Ins.read {lo : Nat} {w : World} {bR : Nat} {vs : List Value} {os : Ls} (h : Ins lo w bR vs os) : InsR w bR vs os :=
  ⟨h.blk, h.ln, fun i v hv => by
    obtain ⟨k, ho⟩ := h.rows i v hv
    obtain ⟨A, c, rfl, h1, _, h3, _, h5⟩ := ho.form
    refine ⟨A, k, c, rfl, h1, ho.2, h3, fun a ha => ?_⟩
    obtain ⟨g, rfl, _⟩ := h5 a ha
    refine ⟨g, rfl, fun e => ?_⟩
    subst e
    exact ho.ne_blk h.blk (by decide) (by rw [ha]; rfl)⟩
theorem RI.far {w : World} {A : Option Addr} {n : Nat} {xs : List Int} (h : RI w A n xs) {p : Addr} (hp : ∀ a, A = some a → a.block ≠ p.block) (v : Value) : RI (w.setCell p v) A n xs :=
  ⟨h.1, fun hn => by
    obtain ⟨b, off, rfl, hlt, hc⟩ := h.2 hn
    refine ⟨b, off, rfl, by rw [size_setCell]; exact hlt, fun k x hx => ?_⟩
    exact (World.cell?_setCell_far _ _ _ _ (show p.block ≠ b from fun e => hp _ rfl e.symm)).trans (hc k x hx)⟩
theorem InsR.clip {w : World} {bR i : Nat} {vs : List Value} {os : Ls} (h : InsR w bR vs os) {A : Option Addr} {kk d : Nat} (hv : vs[i]? = some (.slice A kk d)) : InsR (w.setCell ⟨bR, i, none⟩ (.slice A kk kk)) bR (vs.set i (.slice A kk kk)) os := by
  have hil := (List.getElem?_eq_some_iff.1 hv).1
  have hf : ∀ (j : Nat) (v : Value), vs[j]? = some v → ∃ A kk d, v = .slice A kk d ∧ kk ≤ d ∧ kk ≤ 1048576 ∧ RI (w.setCell ⟨bR, i, none⟩ (.slice A kk kk)) A kk (os.getD j []) ∧ ∀ a, A = some a → ∃ g, a = ⟨g, 0, none⟩ ∧ g ≠ bR := fun j v hj => by
    obtain ⟨A, kk, d, e, h1, h2, h3, h4⟩ := h.rows j v hj
    exact ⟨A, kk, d, e, h1, h2, h3.far (fun a ha => by obtain ⟨g, rfl, hg⟩ := h4 a ha; exact hg) _, h4⟩
  refine ⟨?_, by simp [h.ln], fun j v hj => ?_⟩
  · have := h.blk.set_ i (.slice A kk kk)
    rwa [List.setIfInBounds_toArray] at this
  · by_cases e : i = j
    · subst e
      rw [List.getElem?_set_self hil] at hj; injection hj with hj; subst hj
      obtain ⟨A', kk', d', e, h1, h2, h3, h4⟩ := h.rows i _ hv
      injection e with e1 e2 e3; subst e1; subst e2
      exact ⟨A, kk, kk, rfl, Nat.le_refl _, h2, h3.far (fun a ha => by obtain ⟨g, rfl, hg⟩ := h4 a ha; exact hg) _, h4⟩
    · rw [List.getElem?_set_ne e] at hj
      obtain ⟨A', kk', d', e, h1, h2, h3, h4⟩ := h.rows j v hj
      exact ⟨A', kk', d', e, h1, h2, h3.far (fun a ha => by obtain ⟨g, rfl, hg⟩ := h4 a ha; exact hg) _, h4⟩
set_option maxHeartbeats 1000000 in
theorem ClipR_c {A : Option Addr} {n c : Nat} {w : World} (hA : ∀ a, A = some a → ∃ g, a = ⟨g, 0, none⟩) (hnc : n ≤ c) :
    Calls Tryz.prog 87 #[.slice A n c] w fun e w' => e = .returned (.slice A n n) ∧ w = w' := by
  have hcl := fun w => run_clipL A n c hnc hA w
  clear hA
  go_enter Tryz.func87, Tryz.ntmps87
  go_wp2_with fail
  go_ret
  exact ⟨rfl, rfl⟩
set_option maxRecDepth 100000 in
set_option maxHeartbeats 4000000 in
theorem installs_c {A : Option Addr} {n c k : Nat} {u : Value} {ts : List Tx} {co : List Nat} {w : World} (hr : RTs w A n ts) (hv : ∀ t ∈ ts, txnB t = true) (hs : SI w u k (intL co)) (hin : ∀ m ∈ co, m < n) (hk : k ≤ 6) :
    Calls Tryz.prog 61 #[.slice A n c, u] w fun e w' => ∃ A', e = .returned (.slice A' 3 3) ∧ RL w' A' 3 (ordL ts co) ∧ Below w.heap.size w w' := by
  have hl := hide hr.1
  obtain ⟨Au, cu, rfl, hkc, hk1, hri⟩ := hs
  have hlk := hide (show co.length = k by have := hri.len; unfold intL at this; simpa using this)
  have hmk := run_make_rows 3 (by omega)
  have n3 : nilC 3 = #[.slice none 0 0, .slice none 0 0, .slice none 0 0] := rfl
  rw [n3] at hmk
  have b1 := (Below.refl w.heap.size w).alloc (Nat.le_refl _) (.cells #[.slice none 0 0, .slice none 0 0, .slice none 0 0] 24)
  have i1 : Ins w.heap.size (w.alloc (.cells #[.slice none 0 0, .slice none 0 0, .slice none 0 0] 24)) w.heap.size [.slice none 0 0, .slice none 0 0, .slice none 0 0] (ordL ts []) :=
    ⟨Blk.new w _ _, rfl, rfl, Nat.le_refl _, fun i v hv => by
      have e : v = .slice none 0 0 := by
        have := List.mem_of_getElem? hv
        simpa using this
      subst e
      refine ⟨0, ?_⟩
      have : (ordL ts []).getD i [] = [] := by
        match i with
        | 0 => rfl
        | 1 => rfl
        | 2 => rfl
        | i + 3 => rfl
      rw [this]; exact OI.nil, fun i j v u _ hv _ => by
      have e : v = .slice none 0 0 := by
        have := List.mem_of_getElem? hv
        simpa using this
      subst e; exact .inl rfl⟩
  have B1 := hide b1; have I1 := hide i1; have HV := hide hv; have HIN := hide hin
  have hmk3 : (Instr.makeSlice 37 (.int .i64 3) (.int .i64 3)).run Tryz.prog w = .ok (.slice (some ⟨w.heap.size, 0, none⟩) 3 3) (w.alloc (.cells #[.slice none 0 0, .slice none 0 0, .slice none 0 0] 24)) := hmk w
  clear b1 i1 hv hin hmk n3
  go_enter Tryz.func61, Tryz.ntmps61
  go_wp2_with fail
  clear hmk3
  go_loopw [14] (fun i W => ∃ (q : Nat) (vs : List Value), i = .int .i64 q ∧ q ≤ k ∧ Below w.heap.size w W ∧ Ins w.heap.size W w.heap.size vs (ordL ts (co.take q))) (fun i _ => k - (intOf i).toNat)
  case atStart => exact ⟨0, _, rfl, Nat.zero_le _, B1.out, I1.out⟩
  case round =>
    clear B1 I1
    rename World => wr
    obtain ⟨q, vs, rfl, hq, bw, hI⟩ := hrel
    have HBW := hide bw; have HI := hide hI
    clear hI
    by_cases hqk : q < k
    · obtain ⟨b0, o0, x, rfl, hb0, hx, hc⟩ := hri.at_ hqk
      obtain ⟨m, hm, rfl⟩ : ∃ m : Nat, co[q]? = some m ∧ x = m := by
        unfold intL at hx
        rw [List.getElem?_map] at hx
        cases hc : co[q]? with
        | none => rw [hc] at hx; cases hx
        | some m => rw [hc] at hx; injection hx with hx; exact ⟨m, rfl, hx.symm⟩
      have hmn := HIN.out m (List.mem_of_getElem? hm)
      obtain ⟨bt, ot, f, ys, dn, B, kk, dd, rfl, hbt, hxt, q0, q1, q2, hkd, hdm, hry⟩ := hr.at_ hmn
      have htx := hide (txAt_get hxt)
      have hv1 := hide (HV.out _ (List.mem_of_getElem? hxt))
      have e0 := (bw.cell (p := ⟨bt, ot + m * 3, none⟩) hbt).trans q0
      have e1 := (bw.cell (p := ⟨bt, ot + m * 3 + 1, none⟩) hbt).trans q1
      have e2 := (bw.cell (p := ⟨bt, ot + m * 3 + 2, none⟩) hbt).trans q2
      have ex := (bw.cell (p := ⟨b0, o0 + q, none⟩) hb0).trans hc
      have h6y : kk ≤ 6 := by have h1 := txnB_lenH hv1.out; have h2 := hry.len; omega
      have s3 : S3 wr (.slice B kk dd) kk ys := (S3.of_args hkd (by omega) hry).below bw
      have hnext := ordL_push ts (co.take q) m
      rw [htx.out] at hnext
      have htk : co.take (q + 1) = co.take q ++ [m] := by rw [List.take_add_one, hm]; rfl
      rw [← htk] at hnext
      have HNX0 := hide hnext
      have q00 : (0 : Int) ≤ q := by omega
      have q2' : (q : Int) < k := by omega
      have m0 : (0 : Int) ≤ m := by omega
      have m2 : (m : Int) < n := by omega
      clear hx hm hxt q0 q1 q2 hc hnext htk hdm hbt
      go_wp2_with fail
      refine (impl_lastWrites_c s3 hv1.out).mono ?_
      rintro e w5 ⟨r5, k5, rfl, o5, b5⟩
      obtain ⟨A5, c5, rfl⟩ := o5.shape
      have hl5 := hide o5.len
      have k53 : k5 ≤ 3 := by rw [← o5.len]; exact lastW_len ys
      have O5 := hide o5
      have HB5 := hide (below_step HBW.out b5); have HI5 := hide (HI.out.below b5)
      have hws : ∀ o ∈ lastW ys, 0 ≤ o.2.1 ∧ o.2.1 ≤ 2 := fun o ho => by
        obtain ⟨i, hi⟩ := List.getElem?_of_mem (lastW_mem ho).1
        have := txnB_opH hv1.out hi
        unfold opB at this
        simp only [Bool.and_eq_true, inB_iff] at this
        exact this.2.1
      have HWS := hide hws
      have hsz5 := b5.size
      clear e0 e1 e2 ex s3 o5 b5 hws hry HI HBW bw
      go_wp2_with fail
      go_loopw [24] (fun i W => ∃ (j : Nat) (vs : List Value), i = .int .i64 j ∧ j ≤ k5 ∧ Below w.heap.size w W ∧ Ins w.heap.size W w.heap.size vs (pushTo (ordL ts (co.take q)) (lastW ys) j) ∧ O3 61 W wr.heap.size (.slice A5 k5 c5) k5 (lastW ys)) (fun i _ => k5 - (intOf i).toNat)
      case atStart => exact ⟨0, vs, rfl, Nat.zero_le _, HB5.out, HI5.out, O5.out⟩
      case round =>
        clear HI5 O5 HB5
        rename World => wr2
        obtain ⟨j, vs, rfl, hj, bw, hI, ho⟩ := hrel
        have HBW := hide bw; have HI := hide hI; have HOJ := hide ho
        obtain ⟨A5', c5', e5, h5c, h5m, h5r⟩ := ho.s3
        obtain ⟨rfl, rfl⟩ : A5 = A5' ∧ c5 = c5' := by simpa using e5
        clear e5 ho hI bw
        by_cases hjl : j < k5
        · obtain ⟨b5, off5, x', y', z, rfl, hb5, hx, p0, p1, p2⟩ := h5r.at_ hjl
          have hy3 := HWS.out (x', y', z) (List.mem_of_getElem? hx)
          dsimp only at hy3
          obtain ⟨key, rfl⟩ : ∃ key : Nat, y' = key := ⟨y'.toNat, by omega⟩
          have hkey : key < 3 := by omega
          obtain ⟨v, hvs⟩ : ∃ v, vs[key]? = some v := ⟨_, List.getElem?_eq_getElem (by rw [HI.out.ln]; exact hkey)⟩
          obtain ⟨kv, hov⟩ := HI.out.rows key v hvs
          obtain ⟨Av0, cv0, rfl⟩ := hov.shape
          have hps := pushTo_succ (os := ordL ts (co.take q)) hx
          dsimp only at hps
          rw [Int.toNat_natCast] at hps
          have hkv : kv ≤ 100 := by
            rw [← hov.len]
            have h1 := pushTo_le (ordL ts (co.take q)) (lastW ys) key j
            have h2 := ordL_le ts (co.take q) key
            rw [List.length_take] at h2
            omega
          obtain ⟨W1, hW1⟩ : ∃ W, wr2.alloc (.cells #[.int .i64 x', .int .i64 (key : Int), .int .i64 z] 61) = W := ⟨_, rfl⟩
          have BA : Below wr2.heap.size wr2 W1 := by rw [← hW1]; exact (Below.refl _ _).alloc (Nat.le_refl _) _
          have KX : Blk W1 wr2.heap.size 61 #[.int .i64 x', .int .i64 (key : Int), .int .i64 z] := by rw [← hW1]; exact Blk.new wr2 _ _
          have HI1 := hide (HI.out.below BA); have HO1 := hide (hov.below BA); have HO3 := hide (HOJ.out.below BA); have HB1 := hide (below_step HBW.out BA)
          have HVS := hide hvs; have HPS := hide hps; have HKX := hide KX
          have hvk : vs.toArray[key]? = some (.slice Av0 kv cv0) := by simpa using hvs
          have HVK := hide hvk
          have c7 := (HI1.out.blk.cell key).trans hvk
          have j0 : (0 : Int) ≤ j := by omega
          have j2 : (j : Int) < k5 := by omega
          have key0 : (0 : Int) ≤ key := by omega
          have key2 : (key : Int) < 3 := by omega
          clear hx hvs hov hps KX BA h5r hy3 hvk HI HOJ HBW
          have BX : Below W1.heap.size W1 (W1.drew.alloc (.cells #[.int .i64 z] 3)) := ((Below.refl _ _).drew).alloc (Nat.le_refl _) _
          have HZ := hide HKX.out.lt
          have HC : Hid (∀ W' : World, W'.heap[wr2.heap.size]? = W1.heap[wr2.heap.size]? → W'.cell? ⟨wr2.heap.size, 1, none⟩ = some (.int .i64 (key : Int)) ∧ W'.cell? ⟨wr2.heap.size, 2, none⟩ = some (.int .i64 z)) := hide (fun W' h => by
            have K : Blk W' wr2.heap.size 61 #[.int .i64 x', .int .i64 (key : Int), .int .i64 z] := h.trans HKX.out
            exact ⟨K.cell 1, K.cell 2⟩)
          have HNX := hide (HO1.out.ne_blk HKX.out (by decide))
          have HNE := hide (HO1.out.ne_blk HI1.out.blk (by decide))
          have HNB := hide (show wr2.heap.size ≠ w.heap.size from fun e => by
            have h1 := HKX.out; have h2 := HI1.out.blk
            rw [e] at h1; unfold Blk at h1 h2
            rw [h1] at h2; injection h2 with h2; injection h2 with _ h2; exact absurd h2 (by decide))
          have HIX := hide (HI1.out.below BX); have HOX := hide (HO1.out.below BX); have H3X := hide (HO3.out.below BX); have HBX := hide (below_step HB1.out BX)
          have HB1z := hide HBX.out.size
          have c7' := (HIX.out.blk.cell key).trans HVK.out
          have hlt1 : w.heap.size < W1.heap.size := HI1.out.blk.lt
          have hne1 : w.heap.size ≠ W1.heap.size := by omega
          clear BX
          go_upto_region 8 with fail
          refine wp_region_held_drew (S := (fun W' => W'.cell? ⟨wr2.heap.size, 1, none⟩ = some (.int .i64 (key : Int)) ∧ W'.cell? ⟨wr2.heap.size, 2, none⟩ = some (.int .i64 z))) (by kernel_rfl) ?_ (fun hHeld => ?_)
          · first | exact HC.out _ rfl | exact HC.out _ (Below.heap_alloc W1.drew (.cells #[.int .i64 z] 3) _ HZ.out)
          refine wpAnyH_take (i := 0) (v := ?vvr1) (by rw [List.getElem?_toArray]; exact rfl) (by kernel_rfl) (by kernel_rfl) (by kernel_rfl) (by intro _ _ _ h; exact h) (Or.inl ⟨by rfl, ?hyr1⟩) hHeld ?restr1
          case' hyr1 => (intro w hSw; (try dsimp only at hSw); go_simp; try (with_reducible rfl))
          (try simp only [Act.put, List.setIfInBounds_toArray, List.set_cons_zero, List.set_cons_succ])
          refine wpAnyH_take (i := 1) (v := ?vvr2) (by rw [List.getElem?_toArray]; exact rfl) (by kernel_rfl) (by kernel_rfl) (by kernel_rfl) (by intro _ _ _ h; exact h) (Or.inl ⟨by rfl, ?hyr2⟩) hHeld ?restr2
          case' hyr2 => (intro w hSw; (try dsimp only at hSw); go_simp; try (with_reducible rfl))
          (try simp only [Act.put, List.setIfInBounds_toArray, List.set_cons_zero, List.set_cons_succ])
          refine wpAnyH_take (i := 2) (v := ?vvr3) (by rw [List.getElem?_toArray]; exact rfl) (by kernel_rfl) (by kernel_rfl) (by kernel_rfl) (by intro _ _ _ h; exact h) (Or.inl ⟨by rfl, ?hyr3⟩) hHeld ?restr3
          case' hyr3 => (intro w hSw; (try dsimp only at hSw); go_simp; try (with_reducible rfl))
          (try simp only [Act.put, List.setIfInBounds_toArray, List.set_cons_zero, List.set_cons_succ])
          refine wpAnyH_take (i := 3) (v := ?vvr4) (by rw [List.getElem?_toArray]; exact rfl) (by kernel_rfl) (by kernel_rfl) (by kernel_rfl) (by intro _ _ _ h; exact h) (Or.inl ⟨by rfl, ?hyr4⟩) hHeld ?restr4
          case' hyr4 => (intro w hSw; (try dsimp only at hSw); go_simp; try (with_reducible rfl))
          (try simp only [Act.put, List.setIfInBounds_toArray, List.set_cons_zero, List.set_cons_succ])
          refine wpAnyH_take (i := 4) (v := ?vvr5) (by rw [List.getElem?_toArray]; exact rfl) (by kernel_rfl) (by kernel_rfl) (by kernel_rfl) (by intro _ _ _ h; exact h) (Or.inl ⟨by rfl, ?hyr5⟩) hHeld ?restr5
          case' hyr5 => (intro w hSw; (try dsimp only at hSw); go_simp; try (with_reducible rfl))
          (try simp only [Act.put, List.setIfInBounds_toArray, List.set_cons_zero, List.set_cons_succ])
          refine wpAnyH_take (i := 5) (v := ?vvr6) (by rw [List.getElem?_toArray]; exact rfl) (by kernel_rfl) (by kernel_rfl) (by kernel_rfl) (by intro _ _ _ h; exact h) (Or.inl ⟨by rfl, ?hyr6⟩) hHeld ?restr6
          case' hyr6 => (intro w hSw; (try dsimp only at hSw); go_simp; try (with_reducible rfl))
          (try simp only [Act.put, List.setIfInBounds_toArray, List.set_cons_zero, List.set_cons_succ])
          refine wpAnyH_take (i := 6) (v := ?vvr7) (by rw [List.getElem?_toArray]; exact rfl) (by kernel_rfl) (by kernel_rfl) (by kernel_rfl) (by intro _ _ _ h; exact h) (Or.inl ⟨by rfl, ?hyr7⟩) hHeld ?restr7
          case' hyr7 => (intro w hSw; (try dsimp only at hSw); go_simp; try (with_reducible rfl))
          (try simp only [Act.put, List.setIfInBounds_toArray, List.set_cons_zero, List.set_cons_succ])
          refine wpAnyH_take (i := 8) (v := ?vvr8) (by rw [List.getElem?_toArray]; exact rfl) (by kernel_rfl) (by kernel_rfl) (by kernel_rfl) (by intro _ _ _ h; exact h) (Or.inl ⟨by rfl, ?hyr8⟩) hHeld ?restr8
          case' hyr8 => (intro w hSw; (try dsimp only at hSw); go_simp; try (with_reducible rfl))
          (try simp only [Act.put, List.setIfInBounds_toArray, List.set_cons_zero, List.set_cons_succ])
          refine wpAnyH_take (i := 9) (v := ?vvr9) (by rw [List.getElem?_toArray]; exact rfl) (by kernel_rfl) (by kernel_rfl) (by kernel_rfl) (by intro _ _ _ h; exact h) (Or.inl ⟨by rfl, ?hyr9⟩) hHeld ?restr9
          case' hyr9 => (intro w hSw; (try dsimp only at hSw); go_simp; try (with_reducible rfl))
          (try simp only [Act.put, List.setIfInBounds_toArray, List.set_cons_zero, List.set_cons_succ])
          refine wpAnyH_ready (rs := [7, 10]) (by kernel_rfl) (by simp) ?_
          refine AllReadyH.cons (by rw [List.getElem?_toArray]; exact rfl) (fun K hK => ?_) ?_
          · skip
            go_simp
            refine hK.out _ _ ?_ (fun hHeld => ?_)
            · first | exact HC.out _ rfl | exact HC.out _ (Below.heap_alloc W1.drew (.cells #[.int .i64 z] 3) _ HZ.out)
            clear hK K
            (try simp only [Act.put, List.setIfInBounds_toArray, List.set_cons_zero, List.set_cons_succ])
            refine wpAnyH_ready (rs := [10]) (by kernel_rfl) (by simp) ?_
            refine AllReadyH.cons (by rw [List.getElem?_toArray]; exact rfl) (fun K hK => ?_) AllReadyH.nil
            go_simp
            refine hK.out _ _ ?_ (fun hHeld => ?_)
            · exact HC.out _ (Below.heap_alloc W1.drew (.cells #[.int .i64 z] 3) _ HZ.out)
            clear hK K
            (try simp only [Act.put, List.setIfInBounds_toArray, List.set_cons_zero, List.set_cons_succ])
            refine wpAnyH_ready (rs := [11]) (by kernel_rfl) (by simp) ?_
            refine AllReadyH.cons (by rw [List.getElem?_toArray]; exact rfl) (fun K hK => ?_) AllReadyH.nil
            refine step_appI (by rfl) (.tmp 35) (.tmp 38) (by rfl) (by rfl) HOX.out (by rfl) (SI.one _ _ _ (by omega)) (by omega) HB1z.out ?_
            intro v' w' ho' hg' hat'
            obtain ⟨Av, cv, rfl⟩ := ho'.shape
            have hcw := (HIX.out.blk.grown hg' (fun e => HNE.out e.symm))
            have cw := (hcw.cell key).trans HVK.out
            have fw := hcw.frozen key
            refine hK.out _ _ ?_ (fun hHeld => ?_)
            · exact HC.out _ ((hg'.block _ (by simp; have := HZ.out; omega) (fun e => HNX.out e.symm)).trans (Below.heap_alloc W1.drew (.cells #[.int .i64 z] 3) _ HZ.out))
            clear hK K
            (try simp only [Act.put, List.setIfInBounds_toArray, List.set_cons_zero, List.set_cons_succ])
            refine wpAnyH_take (i := 12) (v := ?vvr10) (by rw [List.getElem?_toArray]; exact rfl) (by kernel_rfl) (by kernel_rfl) (by kernel_rfl) (by intro _ _ _ h; exact h) (Or.inl ⟨by rfl, ?hyr10⟩) hHeld ?restr10
            case' hyr10 => (intro w hSw; (try dsimp only at hSw); go_simp; try (with_reducible rfl))
            (try simp only [Act.put, List.setIfInBounds_toArray, List.set_cons_zero, List.set_cons_succ])
            refine wpAnyH_ready (rs := [13]) (by kernel_rfl) (by simp) ?_
            refine AllReadyH.cons (by rw [List.getElem?_toArray]; exact rfl) (fun K hK => ?_) AllReadyH.nil
            go_simp
            refine hK.out _ _ ?_ (fun hHeld => ?_)
            · exact HC.out _ ((Below.heap_setCell _ ⟨w.heap.size, key, none⟩ _ _ HNB.out).trans ((hg'.block _ (by simp; have := HZ.out; omega) (fun e => HNX.out e.symm)).trans (Below.heap_alloc W1.drew (.cells #[.int .i64 z] 3) _ HZ.out)))
            clear hK K
            (try simp only [Act.put, List.setIfInBounds_toArray, List.set_cons_zero, List.set_cons_succ])
            refine wpAnyH_done (by kernel_rfl) ?_ _
            have HHO := hide ho'; have HHG := hide hg'; have HHA := hide hat'
            clear hcw cw fw c7 c7'
            have HPI := hide (Ins.put HIX.out HVS.out HHG.out HHO.out HHA.out)
            have o3a : O3 61 w' wr.heap.size (.slice (some ⟨b5, off5, none⟩) k5 c5) k5 (lastW ys) := O3.grown H3X.out HHG.out (own_ne2 H3X.out.1 HOX.out.1 (by decide))
            have o3b := O3.grown o3a (show w'.grownBy (w'.setCell ⟨w.heap.size, key, none⟩ (.slice Av (kv + 1) cv)) (some w.heap.size) from grown_setCell (World.grownBy.refl w' (some w.heap.size)) (.inl rfl) _) (.inr (o3_ne o3a (HIX.out.blk.grown HHG.out (fun e => HNE.out e.symm)) (by decide)))
            have B9 := (Below.grown HBX.out HHG.out HBX.out.size (fun q hq => (World.ownsRow.lt HOX.out.1 q hq).1)).setCell (p := ⟨w.heap.size, key, none⟩) (Nat.le_refl _) (.slice Av (kv + 1) cv)
            have HO9 := hide o3b; have HB9 := hide B9
            clear o3a o3b B9
            go_wp2_with fail
            go_roundw
            case rel => exact ⟨j + 1, _, by go_num, by omega, HB9.out, by rw [HPS.out]; exact HPI.out, HO9.out⟩
            case measure => simp [intOf]; omega
          refine AllReadyH.cons (by rw [List.getElem?_toArray]; exact rfl) (fun K hK => ?_) AllReadyH.nil
          go_simp
          refine hK.out _ _ ?_ (fun hHeld => ?_)
          · exact HC.out _ (Below.heap_alloc W1.drew (.cells #[.int .i64 z] 3) _ HZ.out)
          clear hK K
          (try simp only [Act.put, List.setIfInBounds_toArray, List.set_cons_zero, List.set_cons_succ])
          refine wpAnyH_ready (rs := [7]) (by kernel_rfl) (by simp) ?_
          refine AllReadyH.cons (by rw [List.getElem?_toArray]; exact rfl) (fun K hK => ?_) AllReadyH.nil
          go_simp
          refine hK.out _ _ ?_ (fun hHeld => ?_)
          · first | exact HC.out _ rfl | exact HC.out _ (Below.heap_alloc W1.drew (.cells #[.int .i64 z] 3) _ HZ.out)
          clear hK K
          (try simp only [Act.put, List.setIfInBounds_toArray, List.set_cons_zero, List.set_cons_succ])
          refine wpAnyH_ready (rs := [11]) (by kernel_rfl) (by simp) ?_
          refine AllReadyH.cons (by rw [List.getElem?_toArray]; exact rfl) (fun K hK => ?_) AllReadyH.nil
          refine step_appI (by rfl) (.tmp 35) (.tmp 38) (by rfl) (by rfl) HOX.out (by rfl) (SI.one _ _ _ (by omega)) (by omega) HB1z.out ?_
          intro v' w' ho' hg' hat'
          obtain ⟨Av, cv, rfl⟩ := ho'.shape
          have hcw := (HIX.out.blk.grown hg' (fun e => HNE.out e.symm))
          have cw := (hcw.cell key).trans HVK.out
          have fw := hcw.frozen key
          refine hK.out _ _ ?_ (fun hHeld => ?_)
          · exact HC.out _ ((hg'.block _ (by simp; have := HZ.out; omega) (fun e => HNX.out e.symm)).trans (Below.heap_alloc W1.drew (.cells #[.int .i64 z] 3) _ HZ.out))
          clear hK K
          (try simp only [Act.put, List.setIfInBounds_toArray, List.set_cons_zero, List.set_cons_succ])
          refine wpAnyH_take (i := 12) (v := ?vvr11) (by rw [List.getElem?_toArray]; exact rfl) (by kernel_rfl) (by kernel_rfl) (by kernel_rfl) (by intro _ _ _ h; exact h) (Or.inl ⟨by rfl, ?hyr11⟩) hHeld ?restr11
          case' hyr11 => (intro w hSw; (try dsimp only at hSw); go_simp; try (with_reducible rfl))
          (try simp only [Act.put, List.setIfInBounds_toArray, List.set_cons_zero, List.set_cons_succ])
          refine wpAnyH_ready (rs := [13]) (by kernel_rfl) (by simp) ?_
          refine AllReadyH.cons (by rw [List.getElem?_toArray]; exact rfl) (fun K hK => ?_) AllReadyH.nil
          go_simp
          refine hK.out _ _ ?_ (fun hHeld => ?_)
          · exact HC.out _ ((Below.heap_setCell _ ⟨w.heap.size, key, none⟩ _ _ HNB.out).trans ((hg'.block _ (by simp; have := HZ.out; omega) (fun e => HNX.out e.symm)).trans (Below.heap_alloc W1.drew (.cells #[.int .i64 z] 3) _ HZ.out)))
          clear hK K
          (try simp only [Act.put, List.setIfInBounds_toArray, List.set_cons_zero, List.set_cons_succ])
          refine wpAnyH_done (by kernel_rfl) ?_ _
          have HHO := hide ho'; have HHG := hide hg'; have HHA := hide hat'
          clear hcw cw fw c7 c7'
          have HPI := hide (Ins.put HIX.out HVS.out HHG.out HHO.out HHA.out)
          have o3a : O3 61 w' wr.heap.size (.slice (some ⟨b5, off5, none⟩) k5 c5) k5 (lastW ys) := O3.grown H3X.out HHG.out (own_ne2 H3X.out.1 HOX.out.1 (by decide))
          have o3b := O3.grown o3a (show w'.grownBy (w'.setCell ⟨w.heap.size, key, none⟩ (.slice Av (kv + 1) cv)) (some w.heap.size) from grown_setCell (World.grownBy.refl w' (some w.heap.size)) (.inl rfl) _) (.inr (o3_ne o3a (HIX.out.blk.grown HHG.out (fun e => HNE.out e.symm)) (by decide)))
          have B9 := (Below.grown HBX.out HHG.out HBX.out.size (fun q hq => (World.ownsRow.lt HOX.out.1 q hq).1)).setCell (p := ⟨w.heap.size, key, none⟩) (Nat.le_refl _) (.slice Av (kv + 1) cv)
          have HO9 := hide o3b; have HB9 := hide B9
          clear o3a o3b B9
          go_wp2_with fail
          go_roundw
          case rel => exact ⟨j + 1, _, by go_num, by omega, HB9.out, by rw [HPS.out]; exact HPI.out, HO9.out⟩
          case measure => simp [intOf]; omega
        · obtain rfl : j = k5 := by omega
          have hall := HNX0.out
          rw [hl5.out] at hall
          have HA := hide hall
          clear hall h5r
          go_wp2_with fail
          go_roundw
          case rel => exact ⟨q + 1, vs, by go_num, by omega, HBW.out, by rw [← HA.out]; exact HI.out⟩
          case measure => simp [intOf]; omega
    · obtain rfl : q = k := by omega
      have htk : co.take q = co := List.take_of_length_le (by rw [hlk.out]; exact Nat.le_refl _)
      have hR : InsR wr w.heap.size vs (ordL ts co) := by have := HI.out.read; rw [htk] at this; exact this
      have HR := hide hR
      clear htk hR hri bw HI
      go_wp2_with fail
      go_loopw [45] (fun i W => ∃ (j : Nat) (vs : List Value), i = .int .i64 j ∧ j ≤ 3 ∧ Below w.heap.size w W ∧ InsR W w.heap.size vs (ordL ts co)) (fun i _ => 3 - (intOf i).toNat)
      case atStart => exact ⟨0, vs, rfl, by omega, HBW.out, HR.out⟩
      case round =>
        clear HBW HR
        rename World => wr2
        obtain ⟨j, vs, rfl, hj, bw, hI⟩ := hrel
        have HBW := hide bw; have HI := hide hI
        clear bw hI
        by_cases hj3 : j < 3
        · obtain ⟨v, hvs⟩ : ∃ v, vs[j]? = some v := ⟨_, List.getElem?_eq_getElem (by rw [HI.out.ln]; exact hj3)⟩
          obtain ⟨A3, kk3, d3, rfl, h31, h32, h33, h34⟩ := HI.out.rows j v hvs
          have c7 := (HI.out.blk.cell j).trans (show vs.toArray[j]? = some (.slice A3 kk3 d3) by simpa using hvs)
          have f7 := HI.out.blk.frozen j
          have HC := hide (HI.out.clip hvs)
          have HBC := hide (HBW.out.setCell (p := ⟨w.heap.size, j, none⟩) (Nat.le_refl _) (.slice A3 kk3 kk3))
          have HCL := hide (ClipR_c (c := d3) (n := kk3) (w := wr2) (fun a ha => by obtain ⟨g, e, _⟩ := h34 a ha; exact ⟨g, e⟩) h31)
          have j0 : (0 : Int) ≤ j := by omega
          have j2 : (j : Int) < 3 := by omega
          clear hvs h33 h34
          go_wp2_with fail
          refine HCL.out.mono ?_
          rintro e w8 ⟨rfl, rfl⟩
          go_wp2_with fail
          go_roundw
          case rel => exact ⟨j + 1, _, by go_num, by omega, HBC.out, HC.out⟩
          case measure => simp [intOf]; omega
        · obtain rfl : j = 3 := by omega
          go_wp2_with fail
          go_ret
          refine ⟨_, rfl, ⟨rfl, fun _ => ⟨w.heap.size, 0, rfl, HI.out.blk.lt, fun i xs hx => ?_⟩⟩, HBW.out⟩
          have hi3 : i < 3 := (List.getElem?_eq_some_iff.1 hx).1
          obtain ⟨v, hvs⟩ : ∃ v, vs[i]? = some v := ⟨_, List.getElem?_eq_getElem (by rw [HI.out.ln]; exact hi3)⟩
          obtain ⟨A3, kk3, d3, rfl, h31, h32, h33, h34⟩ := HI.out.rows i v hvs
          have hg : (ordL ts co).getD i [] = xs := by rw [List.getD_eq_getElem?_getD, hx]; rfl
          rw [hg] at h33
          rw [Nat.zero_add]
          exact ⟨A3, kk3, d3, (HI.out.blk.cell i).trans (by simpa using hvs), h31, h32, h33⟩
end Go.Proofs.YtcfkemchekmjbaaGreatDoor

namespace Go.Proofs.YtcfkemchekmjbaaGreatDoor
open Go.RowKit
theorem sliceC_hi {A : Option Addr} {n c k : Nat} {xs : List Int} {w : World} (hs : SI w (.slice A n c) n xs) (hk : k ≤ n) :
    ∃ A', (∀ w', (Instr.slice 24 (.slice A n c) none (some (.int .i64 (k : Int))) none).run Tryz.prog w' = .ok (.slice A' k c) w') ∧ SI w (.slice A' k c) k (xs.take k) := by
  obtain ⟨A0, c0, e, hnc, hn, hl, hr⟩ := hs
  injection e with e1 e2 e3
  subst e1; subst e3
  obtain ⟨i, hi, hz, hsz, hb⟩ := info_parts intInfo
  refine ⟨if c = 0 then A else A.map (·.add (0 * i.size)), fun w' => ?_, _, _, rfl, by omega, by omega, by simp; omega, fun hk0 => ?_⟩
  · have h2 : k ≤ c := by omega
    simp [Instr.slice, Instr.sliceBounds, Instr.sliceBound, run_underlying Tryz.underlying24, sizeOf, typeInfo, hi, asIntOf, h2]
  · obtain ⟨b, off, rfl, hb', hc⟩ := hr (by omega)
    refine ⟨b, off, ?_, hb', fun j x hj => ?_⟩
    · rw [if_neg (by omega), Nat.zero_mul]; simp [addr_add]
    · rw [List.getElem?_take] at hj
      split at hj
      · exact hc j x hj
      · cases hj
set_option maxRecDepth 100000 in
set_option maxHeartbeats 4000000 in
theorem CommitOrders_c {A : Option Addr} {n c k : Nat} {u : Value} {ts : List Tx} {l : List Int} {w : World} (hr : RTs w A n ts) (hs : SI w u k l) (hR : rightS ts l = true) :
    Calls Tryz.prog 16 #[.slice A n c, u] w fun e w' => ∃ A', e = .returned (.slice A' 3 3) ∧ RL w' A' 3 (commitL ts l) ∧ Below w.heap.size w w' := by
  have hR' := hR
  unfold rightS at hR'
  simp only [Bool.and_eq_true, decide_eq_true_eq] at hR'
  obtain ⟨hh, _, hlen, hrun⟩ := hR'
  obtain ⟨h6, hv, hnd⟩ := histB_parts hh
  have hl := hide hr.1
  have hn6 : n ≤ 6 := by rw [← hl.out]; exact h6
  have HSR := hide (SnapshotRight_c (c := c) hr hs hR)
  obtain ⟨Au, cu, rfl, hkc, hk1, hri⟩ := hs
  have hlk := hide hri.len
  have hk12 : k ≤ 12 := by
    have : (doneL ts).length ≤ 6 := by unfold doneL; exact Nat.le_trans (doneTo_len ts ts.length) h6
    rw [← hlk.out]; omega
  have HRUN := hide hrun; have HV := hide hv
  clear hh hR hnd hrun hv hlen h6
  go_enter Tryz.func16, Tryz.ntmps16
  go_wp2_with fail
  refine HSR.out.mono ?_
  rintro e w2 ⟨rfl, b2⟩
  have o3 := OI.empty w2
  have b3 := b2.alloc b2.size (.cells #[] 3)
  have HO3 := hide (o3.mono (B' := w.heap.size) b2.size); have HB3 := hide b3
  clear o3 b3 b2 HSR
  go_wp2_with fail
  go_loopw [5, 15] (fun v i W => ∃ (j q : Nat) (S : SS), i = .int .i64 j ∧ j ≤ k ∧ Below w.heap.size w W ∧ OI W w.heap.size v q (intL S.co) ∧ runS ts ss0 (l.take j) = some S) (fun _ i _ => k - (intOf i).toNat)
  case atStart => exact ⟨0, 0, ss0, rfl, Nat.zero_le _, HB3.out, HO3.out, rfl⟩
  case round =>
    clear HO3 HB3
    rename World => wr
    obtain ⟨j, q, S, rfl, hj, bw, ho, hrunj⟩ := hrel
    have HBW := hide bw; have HO := hide ho; have HRJ := hide hrunj
    obtain ⟨Ao, co, rfl⟩ := ho.shape
    have hco6 : q ≤ 6 := by
      obtain ⟨⟨b9, h9⟩, _⟩ := SsI.run (by rw [hl.out]; exact hn6) HV.out (l.take j) ss0 S (fun _ => 0) (SsI.zero ts _) hrunj
      have h2 : S.co.length ≤ (List.range 6).length := nodup_len_le h9.cnd (fun x hx => by
        have := done_lt (h9.bgd x (h9.cod x hx))
        rw [List.mem_range]; have := hl.out; omega)
      rw [List.length_range] at h2
      rw [← ho.len]; unfold intL; rw [List.length_map]; exact h2
    by_cases hjk : j < k
    · have ss : SI wr (.slice Au k cu) k l := ⟨Au, cu, rfl, hkc, hk1, hri.below bw⟩
      obtain ⟨A', hsl, hst⟩ := sliceC_hi ss (Nat.le_of_lt hjk)
      obtain ⟨b0, o0, x, rfl, hb0, hx, hc⟩ := hri.at_ hjk
      obtain ⟨hx0, hx1, S', hn, hS'⟩ := runS_part HRUN.out hx hrunj
      obtain ⟨m, rfl⟩ : ∃ m : Nat, x = m := ⟨x.toNat, by omega⟩
      rw [Int.toNat_natCast] at hn
      have hseen := run_seen j l S (by rw [hlk.out]; exact hj) hrunj m
      have hnc := nxt_co hn
      have e0 := (bw.cell (p := ⟨b0, o0 + j, none⟩) hb0).trans hc
      have HS' := hide hS'; have HST := hide hst
      have j0 : (0 : Int) ≤ j := by omega
      have j2 : (j : Int) < k := by omega
      have j3 : (j : Int) ≤ k := by omega
      clear hx hn hS' hc hrunj ho hst ss bw
      go_wp2_with fail
      refine (ContainsInt_c HST.out).mono ?_
      rintro e w6 ⟨rfl, rfl⟩
      by_cases hm : m ∈ S.bg
      · rw [decide_eq_true (hseen.2 hm)]
        rw [if_pos hm] at hnc
        have HNC := hide (show intL S'.co = intL S.co ++ [(m : Int)] by rw [hnc]; unfold intL; rw [List.map_append]; rfl)
        have oa := hide (HO.out.alloc (.cells #[.int .i64 (m : Int)] 3))
        have ba := hide (HBW.out.alloc HBW.out.size (.cells #[.int .i64 (m : Int)] 3))
        have sone : SI (wr.alloc (.cells #[.int .i64 (m : Int)] 3)) (.slice (some ⟨wr.heap.size, 0, none⟩) 1 1) 1 [(m : Int)] := SI.one _ _ _ (by omega)
        clear hseen hnc e0
        go_wp2_with (at_builtin; refine wpList_appI rfl _ _ rfl rfl oa.out rfl sone (by omega) (ba.out.size) ?_; intro v7 w7 o7 hg7 _)
        have B7 := Below.grown ba.out hg7 ba.out.size (fun q hq => (World.ownsRow.lt oa.out.1 q hq).1)
        go_roundw
        case rel => exact ⟨j + 1, q + 1, S', by go_num, by omega, B7, by rw [HNC.out]; exact o7, HS'.out⟩
        case measure => simp [intOf]; omega
      · rw [decide_eq_false (fun h => hm (hseen.1 h))]
        rw [if_neg hm] at hnc
        have HNC := hide hnc
        clear hseen hnc e0
        go_wp2_with fail
        go_roundw
        case rel => exact ⟨j + 1, q, S', by go_num, by omega, HBW.out, by rw [HNC.out]; exact HO.out, HS'.out⟩
        case measure => simp [intOf]; omega
    · obtain rfl : j = k := by omega
      have hfin : l.take j = l := List.take_of_length_le (by rw [hlk.out]; exact Nat.le_refl _)
      rw [hfin] at hrunj
      have hcm := commitL_eq hrunj
      have HCM := hide hcm
      have hcn : ∀ m ∈ S.co, m < n := fun m hm => by
        obtain ⟨⟨b9, h9⟩, _⟩ := SsI.run (by rw [hl.out]; exact hn6) HV.out l ss0 S (fun _ => 0) (SsI.zero ts _) hrunj
        have := done_lt (h9.bgd m (h9.cod m hm))
        have := hl.out; omega
      have HIN := hide (installs_c (c := c) (hr.below bw) HV.out ho.si hcn hco6)
      clear hfin hrunj hcm hri ho
      go_wp2_with fail
      refine HIN.out.mono ?_
      rintro e w8 ⟨A8, rfl, hRL, b8⟩
      have hRL' : RL w8 A8 3 (commitL ts l) := by rw [HCM.out]; exact hRL
      have HRL := hide hRL'
      clear hRL hRL'
      go_wp2_with fail
      go_ret
      exact ⟨A8, rfl, HRL.out, below_step HBW.out b8⟩
end Go.Proofs.YtcfkemchekmjbaaGreatDoor
