/- impl.ReadPlan: a step of a draft is read; a draft is put into the plan. -/
import Derived.Test.YtefopnkicllpeaaDoorSpN
namespace Go.Proofs.YtefopnkicllpeaaDoor
open Go.RowKit Go.Shelf

theorem own_ne_addr {w : World} {lo s n : Nat} {t t' : TypeId} {v : Value} {cs : List Value} {ds : Array Value} (h : w.ownsRow lo t s v n cs) {a : Addr} (hb : Blk w a.block t' ds) (ht : t' ≠ t) : some a.block ≠ v.ownBlock := row_ne h hb ht
theorem RT.grown {w w' : World} {A : Option Addr} {n : Nat} {ls : List (List UInt8)} {row : Option Nat} (h : RT w A n ls) (hg : w.grownBy w' row) (hne : ∀ a, A = some a → some a.block ≠ row) : RT w' A n ls :=
  ⟨h.1, fun hn => by
    obtain ⟨b2, off, hA1, hlt, hc⟩ := h.2 hn
    exact ⟨b2, off, hA1, Nat.lt_of_lt_of_le hlt hg.size, fun k z hk => (World.cell?_of_block (hg.block b2 hlt (hne _ hA1))).trans (hc k z hk)⟩⟩
theorem Scan.grown {w w' : World} {b : Nat} {ls : List (List UInt8)} {bad : Bool} {row : Option Nat} (h : Scan w b ls bad) (hg : w.grownBy w' row) (hr : ∀ (g : Nat) (t : TypeId) (cs : Array Value), Blk w g t cs → t = 9 ∨ t = 49 → some g ≠ row) : Scan w' b ls bad := by
  obtain ⟨A, n, c, hK, e1, e2, e3, e4, e5⟩ := h
  refine ⟨A, n, c, hK.grown hg (hr _ _ _ hK (.inr rfl)), e1, e2, e3.grown hg (fun a ha => ?_), e4, fun a ha => ?_⟩
  · obtain ⟨cs, h⟩ := e5 a ha; exact hr _ _ _ h (.inl rfl)
  · obtain ⟨cs, h⟩ := e5 a ha; exact ⟨cs, h.grown hg (hr _ _ _ h (.inl rfl))⟩
/-- A box of a draft is written. -/
theorem Scan.far {w : World} {b g i : Nat} {ls : List (List UInt8)} {bad : Bool} (h : Scan w b ls bad) {t : TypeId} {cs : Array Value} (hb : Blk w g t cs) (ht : t ≠ 9) (hg : b ≠ g) (u : Value) : Scan (w.setCell ⟨g, i, none⟩ u) b ls bad := by
  obtain ⟨A, n, c, hK, e1, e2, e3, e4, e5⟩ := h
  refine ⟨A, n, c, hK.far hg _, e1, e2, e3.far (p := ⟨g, i, none⟩) (fun a ha e => ?_) _, e4, e5.set _ _ _⟩
  obtain ⟨ds, h⟩ := e5 a ha
  rw [show a.block = g from e] at h
  unfold Blk at h hb; rw [hb] at h; injection h with h; injection h with _ h; exact ht h
theorem DrI.app {W : World} {x y : List UInt8} {b dB : Nat} {n : Int} {wr W4 : World} {ls : List (List UInt8)} {ts : List T3} {u : Value} {done : List (List UInt8)} (I : DrI W x b dB n wr (y :: ls) false ts u done) (hx : x.length ≤ 1048576)
    (hbd : b ≠ dB) (hWb : W.heap.size ≤ b) (hWd : W.heap.size ≤ dB) {o : T3} (ho : (stepOf y).getD (0, 0, 0) = o) (s4 : Scan W4 b ls (stepOf y).isNone) (g4 : wr.grownBy W4 (some b)) :
    Blk W4 dB 37 #[.int .i64 n, u] ∧ ∃ (A : Option Addr) (c : Nat) (W6 : World), (Builtin.append_ #[35, 35] 35 #[u, .slice (some ⟨W4.heap.size, 0, none⟩) 1 1]).run Tryd.prog (W4.alloc (.cells #[.int .i64 o.1, .int .i64 o.2.1, .int .i64 o.2.2] 42)) = .ok (.slice A (ts.length + 1) c) W6 ∧
      W6.cell? ⟨dB, 1, none⟩ = some u ∧ W6.frozen? ⟨dB, 1, none⟩ = false ∧ DrI W x b dB n (W6.setCell ⟨dB, 1, none⟩ (.slice A (ts.length + 1) c)) ls (stepOf y).isNone (ts ++ [o]) (.slice A (ts.length + 1) c) (done ++ [y]) := by
  have k4 : Blk W4 dB 37 #[.int .i64 n, u] := I.box.grown g4 (fun e => by injection e with e; exact hbd e.symm)
  refine ⟨k4, ?_⟩
  obtain ⟨A0, q0, c0, hK0, _⟩ := I.sc
  have hne : u.ownBlock ≠ some b := fun e => row_ne I.own.1 hK0 (by decide) e.symm
  have o4 : O3 42 W4 W.heap.size u ts.length ts := I.own.grown g4 (.inr hne)
  obtain ⟨R, hR⟩ : ∃ R, Obj.cells #[.int .i64 o.1, .int .i64 o.2.1, .int .i64 o.2.2] 42 = R := ⟨_, rfl⟩
  have o5 := o4.alloc R
  have k5 : Blk (W4.alloc R) W4.heap.size 42 #[.int .i64 o.1, .int .i64 o.2.1, .int .i64 o.2.2] := by rw [← hR]; exact Blk.new W4 _ _
  have b4 : Below W.heap.size W W4 := I.low.grown g4 I.low.size (fun k e => by injection e with e; omega)
  have hlen : ts.length + 1 ≤ 1048576 := by
    have h1 := words_len x
    have h2 := congrArg List.length I.words
    have h3 := congrArg List.length I.vals
    simp only [List.length_tail, List.length_append, List.length_cons, List.length_map] at h2 h3
    omega
  rw [hR]
  obtain ⟨i, hi, hz, hsz, hby⟩ := info_parts infoOpz
  obtain ⟨v', W6, hrun, h2, h3, h4⟩ := app_rd (P := Tryd.prog) W.heap.size 35 35 42 i (.agg #[.int .i64 0, .int .i64 0, .int .i64 0]) 3 24 Tryd.underlying35 hi hz hsz hby rfl (by omega) u ts.length _ o5.1 _ 1 1 _ (Rd.three k5) (fun q hq => by
    simp at hq
    rcases hq with rfl | rfl | rfl <;> rfl) (by simp only [maxLen]; omega) (by omega) (by have := b4.size; simp; omega)
  obtain ⟨A, c, rfl⟩ := row_shape h2
  have k4' := k4.alloc R
  have k6 : Blk W6 dB 37 #[.int .i64 n, u] := k4'.grown h3 (row_ne o5.1 k4' (by decide))
  have b5 : Below W.heap.size W (W4.alloc R) := b4.alloc b4.size _
  have b6 : Below W.heap.size W W6 := b5.grown h3 b5.size (fun k hk => (o5.of.lt k hk).1)
  refine ⟨A, c, W6, hrun, k6.cell 1, k6.frozen 1, ?_⟩
  have s5 := s4.below ((Below.refl _ _).alloc (Nat.le_refl _) R)
  have s6 : Scan W6 b ls (stepOf y).isNone := s5.grown h3 (fun g t cs hb ht => row_ne o5.1 hb (by rcases ht with rfl | rfl <;> decide))
  have o6 : O3 42 W6 W.heap.size (.slice A (ts.length + 1) c) (ts ++ [o]).length (ts ++ [o]) := by
    refine ⟨?_, by simpa using hlen⟩
    rw [List.length_append]
    have e : (flat3 (ts ++ [o])).map (Value.int .i64) = (flat3 ts).map (Value.int .i64) ++ [.int .i64 o.1, .int .i64 o.2.1, .int .i64 o.2.2] := by
      obtain ⟨o1, o2, o3⟩ := o
      simp [flat3_append, flat3]
    rw [e]
    exact h2
  refine ⟨s6.far k6 (by decide) hbd _, by have := k6.set_ 1 (.slice A (ts.length + 1) c); simpa using this, ?_, b6.setCell (by exact hWd) _, fun hb => ?_, by rw [I.words]; simp, by rw [I.vals, List.map_append, ← ho]; simp⟩
  · have hf := row_ne o6.1 k6 (by decide)
    exact o6.grown (row := some dB) (grown_setCell (World.grownBy.refl _ _) (.inl rfl) _) (.inr (fun e => hf e.symm))
  · rintro ⟨g, ss, e1, _, _, e4⟩
    have hw := I.words
    rw [e1, List.tail_cons] at hw
    have := e4 y (by rw [hw]; simp)
    rw [Option.isNone_iff_eq_none] at hb
    exact this hb
theorem RdI.push {w W wr : World} {bP bS bT bV b dB : Nat} {pre : List (List UInt8)} {x : List UInt8} {n : Int} {ts : List T3} {u v' : Value} {done : List (List UInt8)} {v : Value} {es : List (Int × In)} {ds : Ds}
    (hb0 : Below w.heap.size w W) (res : Blk W w.heap.size 22 #[.slice none 0 0]) (ok : Blk W (w.heap.size + 1) 4 #[.bool false]) (sep : Blk W bT 9 #[.string (str [59, 32])]) (zero : Blk W bV 3 #[.int .i64 0])
    (P : PlanW w.heap.size W bP bS pre v es ds) (I : DrI W x b dB n wr [] false ts u done) (hn : ∀ g : UInt8, (wordsOf x).headD [] = [115, g] → 48 ≤ g.toNat → g.toNat ≤ 57 → n = (g.toNat : Int) - 48)
    (ow : OW 42 3 wr W.heap.size v' ts.length (flat3 ts)) (hP : w.heap.size + 1 < bP) (hS : bS < W.heap.size) (hPS : bP ≠ bS) (hPT : bP ≠ bT) (hPV : bP ≠ bV) (hd : W.heap.size ≤ dB) (hc : pre.length + 1 ≤ 1048576) (hone : v'.oneCell' = true) :
    Blk wr bP 22 #[v] ∧ ∃ (A : Option Addr) (c : Nat) (W10 : World), (Builtin.append_ #[22, 22] 22 #[v, .slice (some ⟨wr.heap.size, 0, none⟩) 1 1]).run Tryd.prog ((wr.setCell ⟨dB, 1, none⟩ v').alloc (.cells #[.int .i64 n, v'] 37)) = .ok (.slice A (es.length + 1) c) W10 ∧
      W10.cell? ⟨bP, 0, none⟩ = some v ∧ W10.frozen? ⟨bP, 0, none⟩ = false ∧ KeepsOthers W (W10.setCell ⟨bP, 0, none⟩ (.slice A (es.length + 1) c)) ∧ (W10.setCell ⟨bP, 0, none⟩ (.slice A (es.length + 1) c)).heap[bS]? = W.heap[bS]? ∧ RdI w bP bS bT bV (pre ++ [x]) (W10.setCell ⟨bP, 0, none⟩ (.slice A (es.length + 1) c)) := by
  refine ⟨P.box.belowAll I.low, ?_⟩
  have bw := hb0.size
  have hpn := P.n
  have b8 : Below W.heap.size W (wr.setCell ⟨dB, 1, none⟩ v') := I.low.setCell (by exact hd) _
  have kd : Blk (wr.setCell ⟨dB, 1, none⟩ v') dB 37 #[.int .i64 n, v'] := by have := I.box.set_ 1 v'; simpa using this
  have ow8 : OW 42 3 (wr.setCell ⟨dB, 1, none⟩ v') W.heap.size v' ts.length (flat3 ts) := ow.grown (row := some dB) (grown_setCell (World.grownBy.refl _ _) (.inl rfl) _) (.inr (ow.ne_blk I.box (by decide)))
  have hsz8 : (wr.setCell ⟨dB, 1, none⟩ v').heap.size = wr.heap.size := by simp [World.setCell]
  obtain ⟨W8, hW8⟩ : ∃ q, wr.setCell ⟨dB, 1, none⟩ v' = q := ⟨_, rfl⟩
  rw [hW8] at b8 kd ow8 hsz8 ⊢
  rw [← hsz8]
  obtain ⟨R, hR⟩ : ∃ R, Obj.cells #[.int .i64 n, v'] 37 = R := ⟨_, rfl⟩
  have k9 : Blk (W8.alloc R) W8.heap.size 37 #[.int .i64 n, v'] := by rw [← hR]; exact Blk.new W8 _ _
  rw [hR]
  have b9 : Below W.heap.size W (W8.alloc R) := b8.alloc b8.size _
  have own9 : OW2 (W8.alloc R) w.heap.size v es.length es := P.own.keep (fun g cs t _ _ hb => hb.belowAll b9)
  have ow9 : OW 42 3 (W8.alloc R) W.heap.size v' ts.length (flat3 ts) := ow8.below ((Below.refl _ _).alloc (Nat.le_refl _) _)
  obtain ⟨i, hi, hz, hsz, hby⟩ := info_parts infoDr
  obtain ⟨v2, W10, hrun, h2, h3, h4⟩ := app_rd (P := Tryd.prog) w.heap.size 22 22 37 i (.agg #[.int .i64 0, .slice none 0 0]) 2 32 Tryd.underlying22 hi hz hsz hby rfl (by omega) v es.length _ own9.row _ 1 1 _ (Rd.two k9) (fun q hq => by
    simp at hq
    rcases hq with rfl | rfl
    · rfl
    · exact hone) (by simp only [maxLen]; have := P.n; omega) (by omega) (by have := b9.size; omega)
  obtain ⟨A, c, rfl⟩ := row_shape h2
  have b9s := b9.size
  have hrow : ∀ (g : Nat) (t : TypeId) (cs : Array Value), Blk W g t cs → t ≠ 37 → Blk W10 g t cs := fun g t cs hb ht => (hb.belowAll b9).grown h3 (row_ne own9.row (hb.belowAll b9) ht)
  have kP : Blk W10 bP 22 #[v] := hrow _ _ _ P.box (by decide)
  refine ⟨A, c, W10, hrun, kP.cell 0, kP.frozen 0, ?_, ?_, ?_⟩
  · refine (KeepsOthers.trans (keeps_below b9) ?_).trans (KeepsOthers.setCell _ _ _)
    exact KeepsOthers.of_grownBy h3 (fun j ob hj hob => by
      rcases own9.row.2 with ⟨rfl, _⟩ | ⟨g', cap, cur, rfl, _, hh, _⟩
      · simp [Value.ownBlock] at hj
      · have e : g' = j := by have h : some g' = some j := hj; injection h
        subst e
        have hq := Option.some.inj (hh.symm.trans hob)
        exact hq ▸ rfl)
  · refine (Below.heap_setCell _ ⟨bP, 0, none⟩ _ bS (by exact fun e => hPS e.symm)).trans ((h3.block bS (by omega) ?_).trans (b9.block bS hS))
    intro e
    exact P.off bS (.inl e.symm) rfl
  · have push : OW2 W10 w.heap.size (.slice A (es.length + 1) c) (es.length + 1) (es ++ [(n, v', ts.length, flat3 ts)]) := own9.push (e := (n, v', ts.length, flat3 ts)) h2 h3 ((ow9.grown h3 (by
        cases hv : v'.ownBlock with
        | none => exact .inl rfl
        | some k =>
          right
          intro e
          have h5 := ow9.lt k hv
          have h6 := P.own.range k (.inl e.symm)
          omega)).mono bw) (fun j p hj => by
        cases hp : p.2.1.ownBlock with
        | none => exact .inl hp
        | some k' =>
          refine .inr (fun e => ?_)
          have h5 := (P.own.own j p hj).lt k' hp
          have h6 := ow9.lt k' (by rw [← e, hp])
          omega) (by omega)
    have hv' : ∀ k, (Value.slice A (es.length + 1) c).ownBlock = some k → some k = v.ownBlock ∨ k = (W8.alloc R).heap.size := fun k hk => by
      rcases h4 with h | h
      · exact .inl (by rw [← h, hk])
      · rw [hk] at h; injection h with h; exact .inr h
    have b10 : Below w.heap.size w W10 := (below_step hb0 b9).grown h3 (by omega) (fun k hk => (P.own.range k (.inl hk)).1)
    have kset : ∀ (g : Nat) (t : TypeId) (cs : Array Value), Blk W10 g t cs → g ≠ bP → Blk (W10.setCell ⟨bP, 0, none⟩ (.slice A (es.length + 1) c)) g t cs := fun g t cs hb hg => hb.far hg _
    have hds : es.length = ds.length := by have := congrArg List.length P.says; simpa using this
    refine ⟨b10.setCell (by show w.heap.size ≤ bP; omega) _, kset _ _ _ (hrow _ _ _ res (by decide)) (by omega), kset _ _ _ (hrow _ _ _ ok (by decide)) (by omega), kset _ _ _ (hrow _ _ _ sep (by decide)) (fun e => hPT e.symm), kset _ _ _ (hrow _ _ _ zero (by decide)) (fun e => hPV e.symm), .slice A (es.length + 1) c, es ++ [(n, v', ts.length, flat3 ts)], ds ++ [(n, ts)], ?_⟩
    refine ⟨by have := kP.set_ 0 (.slice A (es.length + 1) c); simpa using this, ?_, ?_, by simp [hpn], ?_, ?_⟩
    · have e : (es ++ [(n, v', ts.length, flat3 ts)]).length = es.length + 1 := by simp
      rw [e]
      refine push.keep (fun g cs t hS' ht hb => kset _ _ _ hb ?_)
      rintro rfl
      unfold Blk at hb kP; rw [kP] at hb; injection hb with hb; injection hb with _ hb
      rcases ht with rfl | rfl <;> exact absurd hb (by decide)
    · unfold SaysD
      rw [List.map_append, List.map_append, P.says]; rfl
    · rintro k (hk | ⟨j, e, hj, hk⟩)
      · rcases hv' k hk with h | h
        · exact P.off k (.inl h.symm)
        · omega
      · by_cases hjl : j < es.length
        · rw [List.getElem?_append_left hjl] at hj
          exact P.off k (.inr ⟨j, e, hj, hk⟩)
        · have : j = es.length := by have := (List.getElem?_eq_some_iff.1 hj).1; simp at this; omega
          subst this
          simp at hj
          subst hj
          have := ow9.lt k hk
          omega
    · intro j y d hy hd'
      by_cases hjl : j < pre.length
      · rw [List.getElem?_append_left hjl] at hy
        rw [List.getElem?_append_left (by omega)] at hd'
        exact P.parts j y d hy hd'
      · have : j = pre.length := by have := (List.getElem?_eq_some_iff.1 hy).1; simp at this; omega
        subst this
        simp at hy
        subst hy
        rw [List.getElem?_append_right (by omega)] at hd'
        have : pre.length - ds.length = 0 := by omega
        rw [this] at hd'
        simp at hd'
        subst hd'
        refine ⟨hn, ?_⟩
        rw [I.words, List.append_nil]
        exact I.vals

end Go.Proofs.YtefopnkicllpeaaDoor
