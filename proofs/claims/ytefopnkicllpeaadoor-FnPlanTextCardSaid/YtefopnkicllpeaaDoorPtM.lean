/- Merged: SpQ, SpM, SpB, SpR. -/
import Derived.Test.YtefopnkicllpeaaDoorSpN
import Derived.OrdersIn
import Derived.Test.YtefopnkicllpeaaDoorSpE
import Derived.Test.YtefopnkicllpeaaDoorShelfR
import Derived.Shelf.Vars
import Derived.LaidLaws
import Derived.LaidSub
import Derived.MakeChecks
import Derived.SizedLaws
import Derived.ChangeArms
namespace Go.Proofs.YtefopnkicllpeaaDoor
open Go.RowKit Go.Shelf

theorem own_ne_addr {w : World} {lo s n : Nat} {t t' : TypeId} {v : Value} {cs : List Value} {ds : Array Value} (h : w.ownsRow lo t s v n cs) {a : Addr} (hb : Blk w a.block t' ds) (ht : t' ≠ t) : some a.block ≠ v.ownBlock := row_ne h hb ht
theorem RT.grown {w w' : World} {A : Option Addr} {n : Nat} {ls : List (List UInt8)} {row : Option Nat} (h : RT w A n ls) (hg : w.grownBy w' row) (hne : ∀ a, A = some a → some a.block ≠ row) : RT w' A n ls :=
  ⟨h.1, fun hn => by
    obtain ⟨b2, off, hA1, hlt, hc⟩ := h.2 hn
    exact ⟨b2, off, hA1, Nat.lt_of_lt_of_le hlt hg.size, fun k z hk => (World.cell?_of_block (hg.block b2 hlt (hne _ hA1))).trans (hc k z hk)⟩⟩
theorem Scan.grown {w w' : World} {b : Nat} {ls : List (List UInt8)} {bad : Bool} {row : Option Nat} (h : Scan w b ls bad) (hg : w.grownBy w' row) (hr : ∀ (g : Nat) (t : TypeId) (cs : Array Value), Blk w g t cs → t = 9 ∨ t = 49 → some g ≠ row) : Scan w' b ls bad := by
  obtain ⟨A, n, c, hK, e1, e2, e3, e4, e5⟩ := h
  refine ⟨A, n, c, hK.grown hg (hr _ _ _ hK (.inr rfl)), e1, e2, e3.grown hg (fun a ha => ?_), e4, fun a ha => ?_⟩
  · obtain ⟨cs, h⟩ := e5 a ha; exact hr _ _ _ h (.inl rfl)
  · obtain ⟨cs, h⟩ := e5 a ha; exact ⟨cs, h.grown hg (hr _ _ _ h (.inl rfl))⟩
/-- A box of a draft is written. -/
theorem Scan.far {w : World} {b g i : Nat} {ls : List (List UInt8)} {bad : Bool} (h : Scan w b ls bad) {t : TypeId} {cs : Array Value} (hb : Blk w g t cs) (ht : t ≠ 9) (hg : b ≠ g) (u : Value) : Scan (w.setCell ⟨g, i, none⟩ u) b ls bad := by
  obtain ⟨A, n, c, hK, e1, e2, e3, e4, e5⟩ := h
  refine ⟨A, n, c, hK.far hg _, e1, e2, e3.far (p := ⟨g, i, none⟩) (fun a ha e => ?_) _, e4, e5.set _ _ _⟩
  obtain ⟨ds, h⟩ := e5 a ha
  rw [show a.block = g from e] at h
  unfold Blk at h hb; rw [hb] at h; injection h with h; injection h with _ h; exact ht h
theorem DrI.app {W : World} {x y : List UInt8} {b dB : Nat} {n : Int} {wr W4 : World} {ls : List (List UInt8)} {ts : List T3} {u : Value} {done : List (List UInt8)} (I : DrI W x b dB n wr (y :: ls) false ts u done) (hx : x.length ≤ 1048576)
    (hbd : b ≠ dB) (hWb : W.heap.size ≤ b) (hWd : W.heap.size ≤ dB) {o : T3} (ho : (stepOf y).getD (0, 0, 0) = o) (s4 : Scan W4 b ls (stepOf y).isNone) (g4 : wr.grownBy W4 (some b)) :
    Blk W4 dB 37 #[.int .i64 n, u] ∧ ∃ (A : Option Addr) (c : Nat) (W6 : World), (Builtin.append_ #[35, 35] 35 #[u, .slice (some ⟨W4.heap.size, 0, none⟩) 1 1]).run Tryd.prog (W4.alloc (.cells #[.int .i64 o.1, .int .i64 o.2.1, .int .i64 o.2.2] 42)) = .ok (.slice A (ts.length + 1) c) W6 ∧
      W6.cell? ⟨dB, 1, none⟩ = some u ∧ W6.frozen? ⟨dB, 1, none⟩ = false ∧ DrI W x b dB n (W6.setCell ⟨dB, 1, none⟩ (.slice A (ts.length + 1) c)) ls (stepOf y).isNone (ts ++ [o]) (.slice A (ts.length + 1) c) (done ++ [y]) := by
  have k4 : Blk W4 dB 37 #[.int .i64 n, u] := I.box.grown g4 (fun e => by injection e with e; exact hbd e.symm)
  refine ⟨k4, ?_⟩
  obtain ⟨A0, q0, c0, hK0, _⟩ := I.sc
  have hne : u.ownBlock ≠ some b := fun e => row_ne I.own.1 hK0 (by decide) e.symm
  have o4 : O3 42 W4 W.heap.size u ts.length ts := I.own.grown g4 (.inr hne)
  obtain ⟨R, hR⟩ : ∃ R, Obj.cells #[.int .i64 o.1, .int .i64 o.2.1, .int .i64 o.2.2] 42 = R := ⟨_, rfl⟩
  have o5 := o4.alloc R
  have k5 : Blk (W4.alloc R) W4.heap.size 42 #[.int .i64 o.1, .int .i64 o.2.1, .int .i64 o.2.2] := by rw [← hR]; exact Blk.new W4 _ _
  have b4 : Below W.heap.size W W4 := I.low.grown g4 I.low.size (fun k e => by injection e with e; omega)
  have hlen : ts.length + 1 ≤ 1048576 := by
    have h1 := words_len x
    have h2 := congrArg List.length I.words
    have h3 := congrArg List.length I.vals
    simp only [List.length_tail, List.length_append, List.length_cons, List.length_map] at h2 h3
    omega
  rw [hR]
  obtain ⟨i, hi, hz, hsz, hby⟩ := info_parts infoOpz
  obtain ⟨v', W6, hrun, h2, h3, h4⟩ := app_rd (P := Tryd.prog) W.heap.size 35 35 42 i (.agg #[.int .i64 0, .int .i64 0, .int .i64 0]) 3 24 Tryd.underlying35 hi hz hsz hby rfl (by omega) u ts.length _ o5.1 _ 1 1 _ (Rd.three k5) (fun q hq => by
    simp at hq
    rcases hq with rfl | rfl | rfl <;> rfl) (by simp only [maxLen]; omega) (by omega) (by have := b4.size; simp; omega)
  obtain ⟨A, c, rfl⟩ := row_shape h2
  have k4' := k4.alloc R
  have k6 : Blk W6 dB 37 #[.int .i64 n, u] := k4'.grown h3 (row_ne o5.1 k4' (by decide))
  have b5 : Below W.heap.size W (W4.alloc R) := b4.alloc b4.size _
  have b6 : Below W.heap.size W W6 := b5.grown h3 b5.size (fun k hk => (o5.of.lt k hk).1)
  refine ⟨A, c, W6, hrun, k6.cell 1, k6.frozen 1, ?_⟩
  have s5 := s4.below ((Below.refl _ _).alloc (Nat.le_refl _) R)
  have s6 : Scan W6 b ls (stepOf y).isNone := s5.grown h3 (fun g t cs hb ht => row_ne o5.1 hb (by rcases ht with rfl | rfl <;> decide))
  have o6 : O3 42 W6 W.heap.size (.slice A (ts.length + 1) c) (ts ++ [o]).length (ts ++ [o]) := by
    refine ⟨?_, by simpa using hlen⟩
    rw [List.length_append]
    have e : (flat3 (ts ++ [o])).map (Value.int .i64) = (flat3 ts).map (Value.int .i64) ++ [.int .i64 o.1, .int .i64 o.2.1, .int .i64 o.2.2] := by
      obtain ⟨o1, o2, o3⟩ := o
      simp [flat3_append, flat3]
    rw [e]
    exact h2
  refine ⟨s6.far k6 (by decide) hbd _, by have := k6.set_ 1 (.slice A (ts.length + 1) c); simpa using this, ?_, b6.setCell (by exact hWd) _, fun hb => ?_, by rw [I.words]; simp, by rw [I.vals, List.map_append, ← ho]; simp⟩
  · have hf := row_ne o6.1 k6 (by decide)
    exact o6.grown (row := some dB) (grown_setCell (World.grownBy.refl _ _) (.inl rfl) _) (.inr (fun e => hf e.symm))
  · rintro ⟨g, ss, e1, _, _, e4⟩
    have hw := I.words
    rw [e1, List.tail_cons] at hw
    have := e4 y (by rw [hw]; simp)
    rw [Option.isNone_iff_eq_none] at hb
    exact this hb
theorem RdI.push {w W wr : World} {bP bS bT bV b dB : Nat} {pre : List (List UInt8)} {x : List UInt8} {n : Int} {ts : List T3} {u v' : Value} {done : List (List UInt8)} {v : Value} {es : List (Int × In)} {ds : Ds}
    (hb0 : Below w.heap.size w W) (res : Blk W w.heap.size 22 #[.slice none 0 0]) (ok : Blk W (w.heap.size + 1) 4 #[.bool false]) (sep : Blk W bT 9 #[.string (str [59, 32])]) (zero : Blk W bV 3 #[.int .i64 0])
    (P : PlanW w.heap.size W bP bS pre v es ds) (I : DrI W x b dB n wr [] false ts u done) (hn : ∀ g : UInt8, (wordsOf x).headD [] = [115, g] → 48 ≤ g.toNat → g.toNat ≤ 57 → n = (g.toNat : Int) - 48)
    (ow : OW 42 3 wr W.heap.size v' ts.length (flat3 ts)) (hP : w.heap.size + 1 < bP) (hS : bS < W.heap.size) (hPS : bP ≠ bS) (hPT : bP ≠ bT) (hPV : bP ≠ bV) (hd : W.heap.size ≤ dB) (hc : pre.length + 1 ≤ 1048576) (hone : v'.oneCell' = true) :
    Blk wr bP 22 #[v] ∧ ∃ (A : Option Addr) (c : Nat) (W10 : World), (Builtin.append_ #[22, 22] 22 #[v, .slice (some ⟨wr.heap.size, 0, none⟩) 1 1]).run Tryd.prog ((wr.setCell ⟨dB, 1, none⟩ v').alloc (.cells #[.int .i64 n, v'] 37)) = .ok (.slice A (es.length + 1) c) W10 ∧
      W10.cell? ⟨bP, 0, none⟩ = some v ∧ W10.frozen? ⟨bP, 0, none⟩ = false ∧ KeepsOthers W (W10.setCell ⟨bP, 0, none⟩ (.slice A (es.length + 1) c)) ∧ (W10.setCell ⟨bP, 0, none⟩ (.slice A (es.length + 1) c)).heap[bS]? = W.heap[bS]? ∧ RdI w bP bS bT bV (pre ++ [x]) (W10.setCell ⟨bP, 0, none⟩ (.slice A (es.length + 1) c)) := by
  refine ⟨P.box.belowAll I.low, ?_⟩
  have bw := hb0.size
  have hpn := P.n
  have b8 : Below W.heap.size W (wr.setCell ⟨dB, 1, none⟩ v') := I.low.setCell (by exact hd) _
  have kd : Blk (wr.setCell ⟨dB, 1, none⟩ v') dB 37 #[.int .i64 n, v'] := by have := I.box.set_ 1 v'; simpa using this
  have ow8 : OW 42 3 (wr.setCell ⟨dB, 1, none⟩ v') W.heap.size v' ts.length (flat3 ts) := ow.grown (row := some dB) (grown_setCell (World.grownBy.refl _ _) (.inl rfl) _) (.inr (ow.ne_blk I.box (by decide)))
  have hsz8 : (wr.setCell ⟨dB, 1, none⟩ v').heap.size = wr.heap.size := by simp [World.setCell]
  obtain ⟨W8, hW8⟩ : ∃ q, wr.setCell ⟨dB, 1, none⟩ v' = q := ⟨_, rfl⟩
  rw [hW8] at b8 kd ow8 hsz8 ⊢
  rw [← hsz8]
  obtain ⟨R, hR⟩ : ∃ R, Obj.cells #[.int .i64 n, v'] 37 = R := ⟨_, rfl⟩
  have k9 : Blk (W8.alloc R) W8.heap.size 37 #[.int .i64 n, v'] := by rw [← hR]; exact Blk.new W8 _ _
  rw [hR]
  have b9 : Below W.heap.size W (W8.alloc R) := b8.alloc b8.size _
  have own9 : OW2 (W8.alloc R) w.heap.size v es.length es := P.own.keep (fun g cs t _ _ hb => hb.belowAll b9)
  have ow9 : OW 42 3 (W8.alloc R) W.heap.size v' ts.length (flat3 ts) := ow8.below ((Below.refl _ _).alloc (Nat.le_refl _) _)
  obtain ⟨i, hi, hz, hsz, hby⟩ := info_parts infoDr
  obtain ⟨v2, W10, hrun, h2, h3, h4⟩ := app_rd (P := Tryd.prog) w.heap.size 22 22 37 i (.agg #[.int .i64 0, .slice none 0 0]) 2 32 Tryd.underlying22 hi hz hsz hby rfl (by omega) v es.length _ own9.row _ 1 1 _ (Rd.two k9) (fun q hq => by
    simp at hq
    rcases hq with rfl | rfl
    · rfl
    · exact hone) (by simp only [maxLen]; have := P.n; omega) (by omega) (by have := b9.size; omega)
  obtain ⟨A, c, rfl⟩ := row_shape h2
  have b9s := b9.size
  have hrow : ∀ (g : Nat) (t : TypeId) (cs : Array Value), Blk W g t cs → t ≠ 37 → Blk W10 g t cs := fun g t cs hb ht => (hb.belowAll b9).grown h3 (row_ne own9.row (hb.belowAll b9) ht)
  have kP : Blk W10 bP 22 #[v] := hrow _ _ _ P.box (by decide)
  refine ⟨A, c, W10, hrun, kP.cell 0, kP.frozen 0, ?_, ?_, ?_⟩
  · refine (KeepsOthers.trans (keeps_below b9) ?_).trans (KeepsOthers.setCell _ _ _)
    exact KeepsOthers.of_grownBy h3 (fun j ob hj hob => by
      rcases own9.row.2 with ⟨rfl, _⟩ | ⟨g', cap, cur, rfl, _, hh, _⟩
      · simp [Value.ownBlock] at hj
      · have e : g' = j := by have h : some g' = some j := hj; injection h
        subst e
        have hq := Option.some.inj (hh.symm.trans hob)
        exact hq ▸ rfl)
  · refine (Below.heap_setCell _ ⟨bP, 0, none⟩ _ bS (by exact fun e => hPS e.symm)).trans ((h3.block bS (by omega) ?_).trans (b9.block bS hS))
    intro e
    exact P.off bS (.inl e.symm) rfl
  · have push : OW2 W10 w.heap.size (.slice A (es.length + 1) c) (es.length + 1) (es ++ [(n, v', ts.length, flat3 ts)]) := own9.push (e := (n, v', ts.length, flat3 ts)) h2 h3 ((ow9.grown h3 (by
        cases hv : v'.ownBlock with
        | none => exact .inl rfl
        | some k =>
          right
          intro e
          have h5 := ow9.lt k hv
          have h6 := P.own.range k (.inl e.symm)
          omega)).mono bw) (fun j p hj => by
        cases hp : p.2.1.ownBlock with
        | none => exact .inl hp
        | some k' =>
          refine .inr (fun e => ?_)
          have h5 := (P.own.own j p hj).lt k' hp
          have h6 := ow9.lt k' (by rw [← e, hp])
          omega) (by omega)
    have hv' : ∀ k, (Value.slice A (es.length + 1) c).ownBlock = some k → some k = v.ownBlock ∨ k = (W8.alloc R).heap.size := fun k hk => by
      rcases h4 with h | h
      · exact .inl (by rw [← h, hk])
      · rw [hk] at h; injection h with h; exact .inr h
    have b10 : Below w.heap.size w W10 := (below_step hb0 b9).grown h3 (by omega) (fun k hk => (P.own.range k (.inl hk)).1)
    have kset : ∀ (g : Nat) (t : TypeId) (cs : Array Value), Blk W10 g t cs → g ≠ bP → Blk (W10.setCell ⟨bP, 0, none⟩ (.slice A (es.length + 1) c)) g t cs := fun g t cs hb hg => hb.far hg _
    have hds : es.length = ds.length := by have := congrArg List.length P.says; simpa using this
    refine ⟨b10.setCell (by show w.heap.size ≤ bP; omega) _, kset _ _ _ (hrow _ _ _ res (by decide)) (by omega), kset _ _ _ (hrow _ _ _ ok (by decide)) (by omega), kset _ _ _ (hrow _ _ _ sep (by decide)) (fun e => hPT e.symm), kset _ _ _ (hrow _ _ _ zero (by decide)) (fun e => hPV e.symm), .slice A (es.length + 1) c, es ++ [(n, v', ts.length, flat3 ts)], ds ++ [(n, ts)], ?_⟩
    refine ⟨by have := kP.set_ 0 (.slice A (es.length + 1) c); simpa using this, ?_, ?_, by simp [hpn], ?_, ?_⟩
    · have e : (es ++ [(n, v', ts.length, flat3 ts)]).length = es.length + 1 := by simp
      rw [e]
      refine push.keep (fun g cs t hS' ht hb => kset _ _ _ hb ?_)
      rintro rfl
      unfold Blk at hb kP; rw [kP] at hb; injection hb with hb; injection hb with _ hb
      rcases ht with rfl | rfl <;> exact absurd hb (by decide)
    · unfold SaysD
      rw [List.map_append, List.map_append, P.says]; rfl
    · rintro k (hk | ⟨j, e, hj, hk⟩)
      · rcases hv' k hk with h | h
        · exact P.off k (.inl h.symm)
        · omega
      · by_cases hjl : j < es.length
        · rw [List.getElem?_append_left hjl] at hj
          exact P.off k (.inr ⟨j, e, hj, hk⟩)
        · have : j = es.length := by have := (List.getElem?_eq_some_iff.1 hj).1; simp at this; omega
          subst this
          simp at hj
          subst hj
          have := ow9.lt k hk
          omega
    · intro j y d hy hd'
      by_cases hjl : j < pre.length
      · rw [List.getElem?_append_left hjl] at hy
        rw [List.getElem?_append_left (by omega)] at hd'
        exact P.parts j y d hy hd'
      · have : j = pre.length := by have := (List.getElem?_eq_some_iff.1 hy).1; simp at this; omega
        subst this
        simp at hy
        subst hy
        rw [List.getElem?_append_right (by omega)] at hd'
        have : pre.length - ds.length = 0 := by omega
        rw [this] at hd'
        simp at hd'
        subst hd'
        refine ⟨hn, ?_⟩
        rw [I.words, List.append_nil]
        exact I.vals

end Go.Proofs.YtefopnkicllpeaaDoor

namespace Go.Proofs.YtefopnkicllpeaaDoor
open Go.RowKit Go.Shelf
attribute [local go_sem] Oper.semAt_some

set_option maxRecDepth 100000 in
set_option maxHeartbeats 4000000 in
theorem ReadPlan_c {s : List UInt8} {w : World} {m : Int} (hlen : s.length ≤ 1048576) (hm : w.cell? ⟨2, 0, none⟩ = some (.int .i64 m)) (hm1 : 2 < w.heap.size) (hA : ∀ W l, l.length ≤ 1048576 → Below w.heap.size w W → Calls Tryd.prog 43 #[.string (str l)] W (AtR l W))
    (hL : ∀ (p ds : Ds), planB p = true → planT p = s → s ≠ [] → ds.length = (partsL [59, 32] s).length → (∀ (j : Nat) (x : List UInt8) (d : Int × List T3), (partsL [59, 32] s)[j]? = some x → ds[j]? = some d → PartD x d) → ds = p)
    (hG : ∀ p : Ds, planB p = true → planT p = s → s ≠ [] → ∀ x ∈ partsL [59, 32] s, GoodPart x) :
    Calls Tryd.prog 7 #[.string (str s)] w (ReadR s w) := by
  refine (callsIn_wide (n := 3)).1 (callsIn_of_wp_marks Tryd.func7 rfl trivial ?_)
  simp only [Tryd.ntmps7, List.size_toArray, List.length_cons, List.length_nil, Nat.reduceAdd, Nat.reduceSub, Array.replicate_succ, Array.replicate_zero, List.push_toArray, List.append_toArray, List.nil_append, List.cons_append]
  have HA := hide hA
  clear hA
  cases s with
  | nil =>
    have hne : (str []).toList.isEmpty = true := by rw [str_toList]; rfl
    obtain ⟨W0, hW0⟩ : ∃ q, (((w.alloc (.cells #[.slice none 0 0] 22)).alloc (.cells #[.bool false] 4)).alloc (.cells #[] 37)).alloc (.cells #[.slice (some ⟨w.heap.size + 1 + 1, 0, none⟩) 0 0] 22) = q := ⟨_, rfl⟩
    have q0 : Blk W0 w.heap.size 22 #[.slice none 0 0] := by rw [← hW0]; exact (((Blk.new w _ _).alloc _).alloc _).alloc _
    have q1 : Blk W0 (w.heap.size + 1) 4 #[.bool false] := by
      have := Blk.new (w.alloc (.cells #[.slice none 0 0] 22)) 4 #[.bool false]
      rw [World.size_alloc] at this
      rw [← hW0]; exact (this.alloc _).alloc _
    have q2 : Blk W0 (w.heap.size + 1 + 1) 37 #[] := by
      have := Blk.new ((w.alloc (.cells #[.slice none 0 0] 22)).alloc (.cells #[.bool false] 4)) 37 #[]
      rw [World.size_alloc, World.size_alloc] at this
      rw [← hW0]; exact this.alloc _
    have q3 : Blk W0 (w.heap.size + 1 + 1 + 1) 22 #[.slice (some ⟨w.heap.size + 1 + 1, 0, none⟩) 0 0] := by
      have := Blk.new (((w.alloc (.cells #[.slice none 0 0] 22)).alloc (.cells #[.bool false] 4)).alloc (.cells #[] 37)) 22 #[.slice (some ⟨w.heap.size + 1 + 1, 0, none⟩) 0 0]
      rw [World.size_alloc, World.size_alloc, World.size_alloc] at this
      rw [← hW0]; exact this
    have b0 : Below w.heap.size w W0 := by rw [← hW0]; exact ((((Below.refl _ _).alloc (Nat.le_refl _) _).alloc (by simp) _).alloc (by simp; omega) _).alloc (by simp; omega) _
    have ow : OW2 W0 w.heap.size (.slice (some ⟨w.heap.size + 1 + 1, 0, none⟩) 0 0) 0 [] := ⟨⟨rfl, .inr ⟨_, 0, #[], rfl, by omega, q2, by simp, by simp [maxLen], by simp, by simp [cellsD]⟩⟩, fun j e h => by simp at h, fun i j p q _ h => by simp at h, rfl, by omega⟩
    have hSm : SmallD [] := fun d h => by cases h
    have hpb : planB [] = true := rfl
    have hpt : planT [] = [] := rfl
    have hq' : ((str []).toList == (str []).toList) = true := by simp
    have HW0 := hide hW0
    clear hL hG HA hW0
    gi_wp2_with (first | (rw [HW0.out]; refine ⟨trivial, ?_⟩; gi_at_call 24; refine (callsIn_wide.2 (impl_PlanValid_c (RDs.nil (A := some ⟨w.heap.size + 1 + 1, 0, none⟩)) (by omega) hSm)).mono ?_; rintro e W2 ⟨rfl, b2⟩; rw [hpb]; have R0 := q0.belowAll b2; have R1 := q1.belowAll b2; have Rp := q3.belowAll b2; have p2 := Rp.cell 0; simp only [List.getElem?_toArray, List.getElem?_cons_zero] at p2) | (refine ⟨trivial, ?_⟩; gi_at_call 13; refine (callsIn_wide.2 (impl_PlanText_c (RDs.nil (A := some ⟨w.heap.size + 1 + 1, 0, none⟩)) (by omega) hSm)).mono ?_; rintro e W3 ⟨rfl, b3⟩; rw [hpt]; have Rp3 := Rp.belowAll b3; have R03 := R0.belowAll b3; have R13 := R1.belowAll b3; have p3 := Rp3.cell 0; have q03 := R03.cell 0; have q13 := R13.cell 0; have f03 := R03.frozen 0; have f13 := R13.frozen 0; simp only [List.getElem?_toArray, List.getElem?_cons_zero] at q03 q13 p3) | (refine ⟨trivial, ?_⟩; gi_at_call 25; refine (callsIn_wide.2 (Clip_Draft_c (ow.keep (fun g cs t _ _ hb => (hb.belowAll b2).belowAll b3)))).mono ?_; rintro e W4 ⟨rfl, rfl⟩))
    obtain ⟨z0, z1⟩ := blk_res (u' := .slice (some ⟨w.heap.size + 1 + 1, 0, none⟩) 0 0) (b' := true) R03 R13
    have b4 := below_step (below_step b0 b2) b3
    exact retN Tryd.results7 z0 z1 rfl rfl ⟨(b4.setCell (p := ⟨w.heap.size, 0, none⟩) (Nat.le_refl _) _).setCell (p := ⟨w.heap.size + 1, 0, none⟩) (by show w.heap.size ≤ w.heap.size + 1; omega) _, .inl ⟨[], _, 0, 0, [], rfl, rfl, rfl, Nat.le_refl _, ow.keep (fun g cs t _ ht hb => blk_set2 R03 R13 ht ((hb.belowAll b2).belowAll b3)), rfl⟩⟩
  | cons c0 s0 =>
    have hne : (str (c0 :: s0)).toList.isEmpty = false := by rw [str_toList]; rfl
    gi_wp2_with (first | (refine ⟨trivial, ?_⟩; gi_at_call 19; refine (callsIn_wide.2 SplitSeq_c).mono ?_; rintro e w' ⟨rfl, rfl⟩))
    obtain ⟨W0, hW0⟩ : ∃ q, (((w.alloc (.cells #[.slice none 0 0] 22)).alloc (.cells #[.bool false] 4)).alloc (.cells #[] 37)).alloc (.cells #[.slice (some ⟨w.heap.size + 1 + 1, 0, none⟩) 0 0] 22) = q := ⟨_, rfl⟩
    rw [hW0]
    have hz : W0.heap.size = w.heap.size + 1 + 1 + 1 + 1 := by rw [← hW0]; simp
    refine rangeSplit (bT := w.heap.size + 1 + 1 + 1 + 1 + 1) (bS := w.heap.size + 1 + 1 + 1 + 1) (bV := w.heap.size + 1 + 1 + 1 + 1 + 2) (m := m) (s := c0 :: s0) rfl rfl (by omega) ?hbS (RdI w (w.heap.size + 1 + 1 + 1) (w.heap.size + 1 + 1 + 1 + 1) (w.heap.size + 1 + 1 + 1 + 1 + 1) (w.heap.size + 1 + 1 + 1 + 1 + 2)) (fun c pre W => RdX w pre W ∧ c = .ret) ?hI ?hIx ?hC ?h0 ?hs0 (fun x => { tmps := #[.string (str (c0 :: s0)), undef, .pointer (some ⟨w.heap.size, 0, none⟩), .pointer (some ⟨w.heap.size + 1, 0, none⟩), .pointer (some ⟨w.heap.size + 1 + 1 + 1, 0, none⟩), .string (str x), undef, undef, .slice (some ⟨w.heap.size + 1 + 1, 0, none⟩) 0 0, .string (str (c0 :: s0)), .bool true, .string (str (c0 :: s0)), seqV (w.heap.size + 1 + 1 + 1 + 1), .string (str x), undef, undef, undef, undef, undef, undef, undef, undef, undef, undef, undef, undef, undef, undef, undef, undef, undef, undef, undef, undef, undef, undef, undef, undef, undef, undef, undef, undef, undef, undef, undef, undef, undef, undef, undef, undef, undef, undef, undef, undef, undef, undef, undef, undef, undef, undef, undef, undef, undef, undef], defers := [] }) ?hassign ?hbody ?hdone ?hstop
    case hbS => simp [seqW, hz]
    case hI => intro p W W' h hk; exact h.kq hk (by simp [seqW, hz]; omega) (by omega) (by omega) (by omega) (by omega)
    case hIx => rintro c p W W' ⟨h, rfl⟩ hk; exact ⟨h.kq hk (by simp [seqW, hz]; omega) (by omega), rfl⟩
    case hC => intro p W h; exact ⟨h.sep.cell 0, h.zero.cell 0, (h.b0.cell (p := ⟨2, 0, none⟩) hm1).trans hm⟩
    case h0 =>
      have q0 : Blk W0 w.heap.size 22 #[.slice none 0 0] := by rw [← hW0]; exact (((Blk.new w _ _).alloc _).alloc _).alloc _
      have q1 : Blk W0 (w.heap.size + 1) 4 #[.bool false] := by
        have := Blk.new (w.alloc (.cells #[.slice none 0 0] 22)) 4 #[.bool false]
        rw [World.size_alloc] at this
        rw [← hW0]; exact (this.alloc _).alloc _
      have q2 : Blk W0 (w.heap.size + 1 + 1) 37 #[] := by
        have := Blk.new ((w.alloc (.cells #[.slice none 0 0] 22)).alloc (.cells #[.bool false] 4)) 37 #[]
        rw [World.size_alloc, World.size_alloc] at this
        rw [← hW0]; exact this.alloc _
      have q3 : Blk W0 (w.heap.size + 1 + 1 + 1) 22 #[.slice (some ⟨w.heap.size + 1 + 1, 0, none⟩) 0 0] := by
        have := Blk.new (((w.alloc (.cells #[.slice none 0 0] 22)).alloc (.cells #[.bool false] 4)).alloc (.cells #[] 37)) 22 #[.slice (some ⟨w.heap.size + 1 + 1, 0, none⟩) 0 0]
        rw [World.size_alloc, World.size_alloc, World.size_alloc] at this
        rw [← hW0]; exact this
      have b0 : Below w.heap.size w W0 := by rw [← hW0]; exact ((((Below.refl _ _).alloc (Nat.le_refl _) _).alloc (by simp) _).alloc (by simp; omega) _).alloc (by simp; omega) _
      have r1 : Blk (seqW W0 (c0 :: s0)) (w.heap.size + 1 + 1 + 1 + 1 + 1) 9 #[.string (str [59, 32])] := by
        have := Blk.new (W0.alloc (.cells #[.string (str (c0 :: s0))] 9)) 9 #[.string ⟨#[59, 32]⟩]
        rw [World.size_alloc, hz] at this
        exact this.alloc _
      have r2 : Blk (seqW W0 (c0 :: s0)) (w.heap.size + 1 + 1 + 1 + 1 + 2) 3 #[.int .i64 0] := by
        have := Blk.new ((W0.alloc (.cells #[.string (str (c0 :: s0))] 9)).alloc (.cells #[.string ⟨#[59, 32]⟩] 9)) 3 #[.int .i64 0]
        rw [World.size_alloc, World.size_alloc, hz] at this
        exact this
      refine ⟨((b0.alloc (by omega) _).alloc (by simp; omega) _).alloc (by simp; omega) _, ((q0.alloc _).alloc _).alloc _, ((q1.alloc _).alloc _).alloc _, r1, r2, _, [], [], ((q3.alloc _).alloc _).alloc _, ⟨⟨rfl, .inr ⟨_, 0, #[], rfl, by omega, ((q2.alloc _).alloc _).alloc _, by simp, by simp [maxLen], by simp, by simp [cellsD]⟩⟩, fun j e h => by simp at h, fun i j p q _ h => by simp at h, rfl, by simp⟩, rfl, rfl, fun k hk => ?_, fun j x d h => by simp at h⟩
      rcases hk with hk | ⟨j, e, h, _⟩
      · have hk : some (w.heap.size + 1 + 1) = some k := hk
        injection hk with hk; omega
      · simp at h
    case hs0 =>
      have h1 : Blk (seqW W0 (c0 :: s0)) (w.heap.size + 1 + 1 + 1 + 1) 9 #[.string (str (c0 :: s0))] := by
        rw [← hz]
        exact ((Blk.new W0 9 _).alloc _).alloc _
      exact ⟨h1.cell 0, h1.frozen 0⟩
    case hassign =>
      intro l x W K hK
      gi_wp2
      exact hK
    case hbody =>
      rintro l pre x W ⟨r, hr⟩ hi
      obtain ⟨hb, r0, r1, r2, r3, v, es, ds, P⟩ := hi
      have hxl : x.length ≤ 1048576 := Nat.le_trans (partsF_len _ _ x (by show x ∈ partsL _ _; rw [hr]; simp)) hlen
      have hmW : W.cell? ⟨2, 0, none⟩ = some (.int .i64 m) := (hb.cell (p := ⟨2, 0, none⟩) hm1).trans hm
      have hcnt : pre.length + 1 ≤ 1048576 := by
        have h1 := partsF_count (sep := [59, 32]) rfl (c0 :: s0).length (c0 :: s0)
        have h2 : (partsF [59, 32] (c0 :: s0).length (c0 :: s0)).length = pre.length + (r.length + 1) := by
          show (partsL _ _).length = _
          rw [hr]; simp
        omega
      have hsp := strings_Split (str x) ⟨#[32]⟩ m W (by rw [str_size]; omega) hmW (by decide)
      have hsc := scan_new (W := W) hxl
      obtain ⟨k, hk⟩ : ∃ k, Lib.countB (str x) ⟨#[32]⟩ + 1 = k := ⟨_, rfl⟩
      rw [hk] at hsp hsc
      obtain ⟨C1, hC1⟩ : ∃ q, Obj.cells ((Lib.splitB ⟨#[32]⟩ 0 (Lib.countB (str x) ⟨#[32]⟩) (str x)).map Value.string).toArray 9 = q := ⟨_, rfl⟩
      rw [hC1] at hsp hsc
      have b1 : Below W.heap.size W (W.alloc C1) := (Below.refl _ _).alloc (Nat.le_refl _) _
      have b2 : Below W.heap.size W ((W.alloc C1).alloc (.cells #[.slice (some ⟨W.heap.size, 0, none⟩) k k, .bool false] 49)) := b1.alloc (by simp) _
      have hse := session_c hsc (fun w' g => HA.out w' _ (Nat.le_trans (cut_len x) hxl) ((below_step hb b2).grown g (by simp; have := hb.size; omega) (fun k e => by injection e with e; have := hb.size; omega)))
      have HSP := hide hsp; have HSE := hide hse
      have hbs := hb.size
      clear hsp hse hC1 hsc hL hG hr hmW hm hm1 hlen
      gi_wp2_with (first | (refine ⟨trivial, ?_⟩; gi_at_call 20; refine (CallsIn.inRound l (callsIn_wide.2 HSP.out)).mono ?_; rintro e w' ⟨rfl, rfl⟩) | (refine ⟨trivial, ?_⟩; gi_at_call 21; refine (CallsIn.inRound l (callsIn_wide.2 HSE.out)).mono ?_; rintro e W3 ⟨n, ok, rfl, s3, g3, hn⟩))
      have b3 : Below W.heap.size W W3 := (b2.grown g3 (by simp; omega) (fun k e => by injection e with e; omega))
      have hbl : W.heap.size + 1 < W3.heap.size := by
        obtain ⟨A, q, c, h, _⟩ := s3
        exact h.lt
      have I0 : DrI W x (W.heap.size + 1) W3.heap.size n (W3.alloc (.cells #[.int .i64 n, .slice none 0 0] 37)) (wordsOf x).tail (false || (wordsOf x).isEmpty || !hasS ((wordsOf x).headD []) || !ok) [] (.slice none 0 0) [] := by
        refine ⟨s3.below ((Below.refl _ _).alloc (Nat.le_refl _) _), Blk.new W3 _ _, ⟨World.ownsRow_nil _ _ _ _, by simp⟩, b3.alloc (by omega) _, fun hbad => ?_, rfl, rfl⟩
        rintro ⟨g, ss, h1, h2, h3, _⟩
        rw [h1] at hbad hn
        have := (hn g rfl h2 h3).2
        subst this
        simp [hasS] at hbad
      have HI0 := hide I0
      clear I0 s3 g3
      gi_loopw [33] (fun _ wr => ∃ (ls : List (List UInt8)) (bad : Bool) (ts : List T3) (u : Value) (done : List (List UInt8)), DrI W x (W.heap.size + 1) W3.heap.size n wr ls bad ts u done) (fun _ wr => leftW (W.heap.size + 1) wr)
      case atStart => exact ⟨_, _, _, _, _, HI0.out⟩
      case round =>
        clear HI0
        obtain ⟨ls, bad, ts, u, done, I⟩ := hrel
        have hsc := I.sc
        obtain ⟨A, q, c, hK, hnc, hq, hr, hne⟩ := hsc
        have hl := hr.1
        obtain ⟨k0, k1, f0, f1⟩ := hK.two
        have p0 := I.box.cell 0; have p1 := I.box.cell 1; have e0 := I.box.frozen 0; have e1 := I.box.frozen 1
        simp only [List.getElem?_toArray, List.getElem?_cons_zero, List.getElem?_cons_succ] at p0 p1
        have R0 := r0.belowAll I.low; have R1 := r1.belowAll I.low; have RP := P.box.belowAll I.low
        have z0 := R0.cell 0; have z1 := R1.cell 0; have y0 := R0.frozen 0; have y1 := R1.frozen 0; have zP := RP.cell 0; have yP := RP.frozen 0
        simp only [List.getElem?_toArray, List.getElem?_cons_zero] at z0 z1 zP
        have HI := hide I
        have HN := hide hn
        clear hK hr hne I hn
        cases bad
        · cases ls with
          | nil =>
            have hq0 : q = 0 := hl.symm
            subst hq0
            have hOW := HI.out.own.of.ow
            have bn := hb.size
            have bz := r3.lt
            have HB0 := hide hb; have HR0 := hide r0; have HR1 := hide r1; have HR2 := hide r2; have HR3 := hide r3; have HPP := hide P
            clear r0 r1 r2 r3 P RP R0 R1
            gi_wp2_with (first | (refine ⟨trivial, ?_⟩; gi_at_call 23; refine (CallsIn.inRound l (callsIn_wide.2 (Clip_Op_c hOW))).mono ?_; rintro e w' ⟨v', rfl, ow, rfl⟩; obtain ⟨A2, c2, rfl, _⟩ := ow.form; obtain ⟨kPw, A3, c3, W10, hrun, hc10, hf10, hK10, hS10, hR10⟩ := RdI.push HB0.out HR0.out HR1.out HR2.out HR3.out HPP.out HI.out (fun g h1 h2 h3 => (HN.out g h1 h2 h3).1) ow (by omega) (by omega) (by omega) (by omega) (by omega) (by omega) hcnt rfl; have HK10 := hide hK10; have HS10 := hide hS10; have HR10 := hide hR10; clear hK10 hS10 hR10 ow) | (gi_at_builtin; refine wpIn_appI _ _ rfl rfl rfl hrun ?_))
            exact ⟨HK10.out, HS10.out, HR10.out⟩
          | cons y ls =>
            have hst := step_c (w := wr.drew) (b := W.heap.size + 1) (ls := y :: ls) (bad := false) (HI.out.sc.below (Below.refl _ _).drew)
            unfold StepR at hst
            rw [List.headD_cons, List.tail_cons, Bool.false_or] at hst
            obtain ⟨o, ho⟩ : ∃ o, (stepOf y).getD (0, 0, 0) = o := ⟨_, rfl⟩
            rw [ho] at hst
            have hq0 : (0 : Int) < q := by rw [List.length_cons] at hl; omega
            have HST := hide hst; have HO := hide ho
            have hsd : ∀ w' : World, wr.drew.grownBy w' (some (W.heap.size + 1)) → wr.grownBy w' (some (W.heap.size + 1)) := fun w' h => ⟨h.os, h.tape, h.output, h.size, h.block⟩
            have HSD := hide hsd
            clear hst ho hsd R0 R1 RP z0 z1 y0 y1 zP yP
            gi_wp2_with fail
            refine wpIn_region_any (by kernel_rfl) ?_
            (try (change wpAnyIn _ _ _ _ _ _ _ _ _ (World.drew _)))
            -- TREE
            refine wpAnyIn_ready (rs := [0, 2]) (by kernel_rfl) (by simp) ?_
            refine AllReadyIn.cons (by rw [List.getElem?_toArray]; exact rfl) (fun K hK => ?_) ?_
            · go_simp
              refine hK _ _ ?_
              clear hK K
              (try simp only [Act.put, List.setIfInBounds_toArray, List.set_cons_zero, List.set_cons_succ])
              refine wpAnyIn_ready (rs := [1, 2]) (by kernel_rfl) (by simp) ?_
              refine AllReadyIn.cons (by rw [List.getElem?_toArray]; exact rfl) (fun K hK => ?_) ?_
              · go_simp
                refine hK _ _ ?_
                clear hK K
                (try simp only [Act.put, List.setIfInBounds_toArray, List.set_cons_zero, List.set_cons_succ])
                refine wpAnyIn_ready (rs := [2]) (by kernel_rfl) (by simp) ?_
                refine AllReadyIn.cons (by rw [List.getElem?_toArray]; exact rfl) (fun K hK => ?_) ?_
                · go_simp
                  refine hK _ _ ?_
                  clear hK K
                  (try simp only [Act.put, List.setIfInBounds_toArray, List.set_cons_zero, List.set_cons_succ])
                  refine wpAnyIn_ready (rs := [3]) (by kernel_rfl) (by simp) ?_
                  refine AllReadyIn.cons (by rw [List.getElem?_toArray]; exact rfl) (fun K hK => ?_) ?_
                  · go_simp
                    refine ⟨trivial, ?_⟩
                    refine (CallsIn.inRound l (callsIn_wide.2 HST.out)).mono ?_
                    rintro e W4 ⟨rfl, s4, g4⟩
                    obtain ⟨k4, A5, c5, W6, hrun, hc6, hf6, I6⟩ := HI.out.app hxl (by omega) (by omega) (by omega) HO.out s4 (HSD.out _ g4)
                    have p4 := k4.cell 1
                    have p5 : ∀ ob, (W4.alloc ob).cell? ⟨W3.heap.size, 1, none⟩ = some u := fun ob => (k4.alloc ob).cell 1
                    simp only [List.getElem?_toArray, List.getElem?_cons_zero, List.getElem?_cons_succ] at p4
                    have HI6 := hide I6
                    clear I6 s4 g4 k4
                    go_simp
                    refine hK _ _ ?_
                    clear hK K
                    (try simp only [Act.put, List.setIfInBounds_toArray, List.set_cons_zero, List.set_cons_succ])
                    refine wpAnyIn_ready (rs := [4]) (by kernel_rfl) (by simp) ?_
                    refine AllReadyIn.cons (by rw [List.getElem?_toArray]; exact rfl) (fun K hK => ?_) ?_
                    · go_simp
                      refine hK _ _ ?_
                      clear hK K
                      (try simp only [Act.put, List.setIfInBounds_toArray, List.set_cons_zero, List.set_cons_succ])
                      refine wpAnyIn_ready (rs := [5]) (by kernel_rfl) (by simp) ?_
                      refine AllReadyIn.cons (by rw [List.getElem?_toArray]; exact rfl) (fun K hK => ?_) ?_
                      · refine wpIn_app_step (by rfl) _ _ (by rfl) rfl rfl hrun ?_
                        refine hK _ _ ?_
                        clear hK K
                        (try simp only [Act.put, List.setIfInBounds_toArray, List.set_cons_zero, List.set_cons_succ])
                        refine wpAnyIn_ready (rs := [6]) (by kernel_rfl) (by simp) ?_
                        refine AllReadyIn.cons (by rw [List.getElem?_toArray]; exact rfl) (fun K hK => ?_) ?_
                        · go_simp
                          refine hK _ _ ?_
                          clear hK K
                          (try simp only [Act.put, List.setIfInBounds_toArray, List.set_cons_zero, List.set_cons_succ])
                          refine wpAnyIn_ready (rs := [7]) (by kernel_rfl) (by simp) ?_
                          refine AllReadyIn.cons (by rw [List.getElem?_toArray]; exact rfl) (fun K hK => ?_) ?_
                          · go_simp
                            refine hK _ _ ?_
                            clear hK K
                            (try simp only [Act.put, List.setIfInBounds_toArray, List.set_cons_zero, List.set_cons_succ])
                            refine wpAnyIn_done (by kernel_rfl) ?_ _
                            gi_wp2
                            go_roundw
                            case rel => exact ⟨_, _, _, _, _, HI6.out⟩
                            case measure => rw [HI6.out.sc.left, HI.out.sc.left, List.length_cons]; omega
                          exact AllReadyIn.nil
                        exact AllReadyIn.nil
                      exact AllReadyIn.nil
                    exact AllReadyIn.nil
                  exact AllReadyIn.nil
                exact AllReadyIn.nil
              refine AllReadyIn.cons (by rw [List.getElem?_toArray]; exact rfl) (fun K hK => ?_) ?_
              · go_simp
                refine hK _ _ ?_
                clear hK K
                (try simp only [Act.put, List.setIfInBounds_toArray, List.set_cons_zero, List.set_cons_succ])
                refine wpAnyIn_ready (rs := [1, 3]) (by kernel_rfl) (by simp) ?_
                refine AllReadyIn.cons (by rw [List.getElem?_toArray]; exact rfl) (fun K hK => ?_) ?_
                · go_simp
                  refine hK _ _ ?_
                  clear hK K
                  (try simp only [Act.put, List.setIfInBounds_toArray, List.set_cons_zero, List.set_cons_succ])
                  refine wpAnyIn_ready (rs := [3]) (by kernel_rfl) (by simp) ?_
                  refine AllReadyIn.cons (by rw [List.getElem?_toArray]; exact rfl) (fun K hK => ?_) ?_
                  · go_simp
                    refine ⟨trivial, ?_⟩
                    refine (CallsIn.inRound l (callsIn_wide.2 HST.out)).mono ?_
                    rintro e W4 ⟨rfl, s4, g4⟩
                    obtain ⟨k4, A5, c5, W6, hrun, hc6, hf6, I6⟩ := HI.out.app hxl (by omega) (by omega) (by omega) HO.out s4 (HSD.out _ g4)
                    have p4 := k4.cell 1
                    have p5 : ∀ ob, (W4.alloc ob).cell? ⟨W3.heap.size, 1, none⟩ = some u := fun ob => (k4.alloc ob).cell 1
                    simp only [List.getElem?_toArray, List.getElem?_cons_zero, List.getElem?_cons_succ] at p4
                    have HI6 := hide I6
                    clear I6 s4 g4 k4
                    go_simp
                    refine hK _ _ ?_
                    clear hK K
                    (try simp only [Act.put, List.setIfInBounds_toArray, List.set_cons_zero, List.set_cons_succ])
                    refine wpAnyIn_ready (rs := [4]) (by kernel_rfl) (by simp) ?_
                    refine AllReadyIn.cons (by rw [List.getElem?_toArray]; exact rfl) (fun K hK => ?_) ?_
                    · go_simp
                      refine hK _ _ ?_
                      clear hK K
                      (try simp only [Act.put, List.setIfInBounds_toArray, List.set_cons_zero, List.set_cons_succ])
                      refine wpAnyIn_ready (rs := [5]) (by kernel_rfl) (by simp) ?_
                      refine AllReadyIn.cons (by rw [List.getElem?_toArray]; exact rfl) (fun K hK => ?_) ?_
                      · refine wpIn_app_step (by rfl) _ _ (by rfl) rfl rfl hrun ?_
                        refine hK _ _ ?_
                        clear hK K
                        (try simp only [Act.put, List.setIfInBounds_toArray, List.set_cons_zero, List.set_cons_succ])
                        refine wpAnyIn_ready (rs := [6]) (by kernel_rfl) (by simp) ?_
                        refine AllReadyIn.cons (by rw [List.getElem?_toArray]; exact rfl) (fun K hK => ?_) ?_
                        · go_simp
                          refine hK _ _ ?_
                          clear hK K
                          (try simp only [Act.put, List.setIfInBounds_toArray, List.set_cons_zero, List.set_cons_succ])
                          refine wpAnyIn_ready (rs := [7]) (by kernel_rfl) (by simp) ?_
                          refine AllReadyIn.cons (by rw [List.getElem?_toArray]; exact rfl) (fun K hK => ?_) ?_
                          · go_simp
                            refine hK _ _ ?_
                            clear hK K
                            (try simp only [Act.put, List.setIfInBounds_toArray, List.set_cons_zero, List.set_cons_succ])
                            refine wpAnyIn_done (by kernel_rfl) ?_ _
                            gi_wp2
                            go_roundw
                            case rel => exact ⟨_, _, _, _, _, HI6.out⟩
                            case measure => rw [HI6.out.sc.left, HI.out.sc.left, List.length_cons]; omega
                          exact AllReadyIn.nil
                        exact AllReadyIn.nil
                      exact AllReadyIn.nil
                    exact AllReadyIn.nil
                  exact AllReadyIn.nil
                refine AllReadyIn.cons (by rw [List.getElem?_toArray]; exact rfl) (fun K hK => ?_) ?_
                · go_simp
                  refine ⟨trivial, ?_⟩
                  refine (CallsIn.inRound l (callsIn_wide.2 HST.out)).mono ?_
                  rintro e W4 ⟨rfl, s4, g4⟩
                  obtain ⟨k4, A5, c5, W6, hrun, hc6, hf6, I6⟩ := HI.out.app hxl (by omega) (by omega) (by omega) HO.out s4 (HSD.out _ g4)
                  have p4 := k4.cell 1
                  have p5 : ∀ ob, (W4.alloc ob).cell? ⟨W3.heap.size, 1, none⟩ = some u := fun ob => (k4.alloc ob).cell 1
                  simp only [List.getElem?_toArray, List.getElem?_cons_zero, List.getElem?_cons_succ] at p4
                  have HI6 := hide I6
                  clear I6 s4 g4 k4
                  go_simp
                  refine hK _ _ ?_
                  clear hK K
                  (try simp only [Act.put, List.setIfInBounds_toArray, List.set_cons_zero, List.set_cons_succ])
                  refine wpAnyIn_ready (rs := [1, 4]) (by kernel_rfl) (by simp) ?_
                  refine AllReadyIn.cons (by rw [List.getElem?_toArray]; exact rfl) (fun K hK => ?_) ?_
                  · go_simp
                    refine hK _ _ ?_
                    clear hK K
                    (try simp only [Act.put, List.setIfInBounds_toArray, List.set_cons_zero, List.set_cons_succ])
                    refine wpAnyIn_ready (rs := [4]) (by kernel_rfl) (by simp) ?_
                    refine AllReadyIn.cons (by rw [List.getElem?_toArray]; exact rfl) (fun K hK => ?_) ?_
                    · go_simp
                      refine hK _ _ ?_
                      clear hK K
                      (try simp only [Act.put, List.setIfInBounds_toArray, List.set_cons_zero, List.set_cons_succ])
                      refine wpAnyIn_ready (rs := [5]) (by kernel_rfl) (by simp) ?_
                      refine AllReadyIn.cons (by rw [List.getElem?_toArray]; exact rfl) (fun K hK => ?_) ?_
                      · refine wpIn_app_step (by rfl) _ _ (by rfl) rfl rfl hrun ?_
                        refine hK _ _ ?_
                        clear hK K
                        (try simp only [Act.put, List.setIfInBounds_toArray, List.set_cons_zero, List.set_cons_succ])
                        refine wpAnyIn_ready (rs := [6]) (by kernel_rfl) (by simp) ?_
                        refine AllReadyIn.cons (by rw [List.getElem?_toArray]; exact rfl) (fun K hK => ?_) ?_
                        · go_simp
                          refine hK _ _ ?_
                          clear hK K
                          (try simp only [Act.put, List.setIfInBounds_toArray, List.set_cons_zero, List.set_cons_succ])
                          refine wpAnyIn_ready (rs := [7]) (by kernel_rfl) (by simp) ?_
                          refine AllReadyIn.cons (by rw [List.getElem?_toArray]; exact rfl) (fun K hK => ?_) ?_
                          · go_simp
                            refine hK _ _ ?_
                            clear hK K
                            (try simp only [Act.put, List.setIfInBounds_toArray, List.set_cons_zero, List.set_cons_succ])
                            refine wpAnyIn_done (by kernel_rfl) ?_ _
                            gi_wp2
                            go_roundw
                            case rel => exact ⟨_, _, _, _, _, HI6.out⟩
                            case measure => rw [HI6.out.sc.left, HI.out.sc.left, List.length_cons]; omega
                          exact AllReadyIn.nil
                        exact AllReadyIn.nil
                      exact AllReadyIn.nil
                    exact AllReadyIn.nil
                  refine AllReadyIn.cons (by rw [List.getElem?_toArray]; exact rfl) (fun K hK => ?_) ?_
                  · go_simp
                    refine hK _ _ ?_
                    clear hK K
                    (try simp only [Act.put, List.setIfInBounds_toArray, List.set_cons_zero, List.set_cons_succ])
                    refine wpAnyIn_ready (rs := [1]) (by kernel_rfl) (by simp) ?_
                    refine AllReadyIn.cons (by rw [List.getElem?_toArray]; exact rfl) (fun K hK => ?_) ?_
                    · go_simp
                      refine hK _ _ ?_
                      clear hK K
                      (try simp only [Act.put, List.setIfInBounds_toArray, List.set_cons_zero, List.set_cons_succ])
                      refine wpAnyIn_ready (rs := [5]) (by kernel_rfl) (by simp) ?_
                      refine AllReadyIn.cons (by rw [List.getElem?_toArray]; exact rfl) (fun K hK => ?_) ?_
                      · refine wpIn_app_step (by rfl) _ _ (by rfl) rfl rfl hrun ?_
                        refine hK _ _ ?_
                        clear hK K
                        (try simp only [Act.put, List.setIfInBounds_toArray, List.set_cons_zero, List.set_cons_succ])
                        refine wpAnyIn_ready (rs := [6]) (by kernel_rfl) (by simp) ?_
                        refine AllReadyIn.cons (by rw [List.getElem?_toArray]; exact rfl) (fun K hK => ?_) ?_
                        · go_simp
                          refine hK _ _ ?_
                          clear hK K
                          (try simp only [Act.put, List.setIfInBounds_toArray, List.set_cons_zero, List.set_cons_succ])
                          refine wpAnyIn_ready (rs := [7]) (by kernel_rfl) (by simp) ?_
                          refine AllReadyIn.cons (by rw [List.getElem?_toArray]; exact rfl) (fun K hK => ?_) ?_
                          · go_simp
                            refine hK _ _ ?_
                            clear hK K
                            (try simp only [Act.put, List.setIfInBounds_toArray, List.set_cons_zero, List.set_cons_succ])
                            refine wpAnyIn_done (by kernel_rfl) ?_ _
                            gi_wp2
                            go_roundw
                            case rel => exact ⟨_, _, _, _, _, HI6.out⟩
                            case measure => rw [HI6.out.sc.left, HI.out.sc.left, List.length_cons]; omega
                          exact AllReadyIn.nil
                        exact AllReadyIn.nil
                      exact AllReadyIn.nil
                    exact AllReadyIn.nil
                  exact AllReadyIn.nil
                exact AllReadyIn.nil
              exact AllReadyIn.nil
            refine AllReadyIn.cons (by rw [List.getElem?_toArray]; exact rfl) (fun K hK => ?_) ?_
            · go_simp
              refine hK _ _ ?_
              clear hK K
              (try simp only [Act.put, List.setIfInBounds_toArray, List.set_cons_zero, List.set_cons_succ])
              refine wpAnyIn_ready (rs := [0, 3]) (by kernel_rfl) (by simp) ?_
              refine AllReadyIn.cons (by rw [List.getElem?_toArray]; exact rfl) (fun K hK => ?_) ?_
              · go_simp
                refine hK _ _ ?_
                clear hK K
                (try simp only [Act.put, List.setIfInBounds_toArray, List.set_cons_zero, List.set_cons_succ])
                refine wpAnyIn_ready (rs := [1, 3]) (by kernel_rfl) (by simp) ?_
                refine AllReadyIn.cons (by rw [List.getElem?_toArray]; exact rfl) (fun K hK => ?_) ?_
                · go_simp
                  refine hK _ _ ?_
                  clear hK K
                  (try simp only [Act.put, List.setIfInBounds_toArray, List.set_cons_zero, List.set_cons_succ])
                  refine wpAnyIn_ready (rs := [3]) (by kernel_rfl) (by simp) ?_
                  refine AllReadyIn.cons (by rw [List.getElem?_toArray]; exact rfl) (fun K hK => ?_) ?_
                  · go_simp
                    refine ⟨trivial, ?_⟩
                    refine (CallsIn.inRound l (callsIn_wide.2 HST.out)).mono ?_
                    rintro e W4 ⟨rfl, s4, g4⟩
                    obtain ⟨k4, A5, c5, W6, hrun, hc6, hf6, I6⟩ := HI.out.app hxl (by omega) (by omega) (by omega) HO.out s4 (HSD.out _ g4)
                    have p4 := k4.cell 1
                    have p5 : ∀ ob, (W4.alloc ob).cell? ⟨W3.heap.size, 1, none⟩ = some u := fun ob => (k4.alloc ob).cell 1
                    simp only [List.getElem?_toArray, List.getElem?_cons_zero, List.getElem?_cons_succ] at p4
                    have HI6 := hide I6
                    clear I6 s4 g4 k4
                    go_simp
                    refine hK _ _ ?_
                    clear hK K
                    (try simp only [Act.put, List.setIfInBounds_toArray, List.set_cons_zero, List.set_cons_succ])
                    refine wpAnyIn_ready (rs := [4]) (by kernel_rfl) (by simp) ?_
                    refine AllReadyIn.cons (by rw [List.getElem?_toArray]; exact rfl) (fun K hK => ?_) ?_
                    · go_simp
                      refine hK _ _ ?_
                      clear hK K
                      (try simp only [Act.put, List.setIfInBounds_toArray, List.set_cons_zero, List.set_cons_succ])
                      refine wpAnyIn_ready (rs := [5]) (by kernel_rfl) (by simp) ?_
                      refine AllReadyIn.cons (by rw [List.getElem?_toArray]; exact rfl) (fun K hK => ?_) ?_
                      · refine wpIn_app_step (by rfl) _ _ (by rfl) rfl rfl hrun ?_
                        refine hK _ _ ?_
                        clear hK K
                        (try simp only [Act.put, List.setIfInBounds_toArray, List.set_cons_zero, List.set_cons_succ])
                        refine wpAnyIn_ready (rs := [6]) (by kernel_rfl) (by simp) ?_
                        refine AllReadyIn.cons (by rw [List.getElem?_toArray]; exact rfl) (fun K hK => ?_) ?_
                        · go_simp
                          refine hK _ _ ?_
                          clear hK K
                          (try simp only [Act.put, List.setIfInBounds_toArray, List.set_cons_zero, List.set_cons_succ])
                          refine wpAnyIn_ready (rs := [7]) (by kernel_rfl) (by simp) ?_
                          refine AllReadyIn.cons (by rw [List.getElem?_toArray]; exact rfl) (fun K hK => ?_) ?_
                          · go_simp
                            refine hK _ _ ?_
                            clear hK K
                            (try simp only [Act.put, List.setIfInBounds_toArray, List.set_cons_zero, List.set_cons_succ])
                            refine wpAnyIn_done (by kernel_rfl) ?_ _
                            gi_wp2
                            go_roundw
                            case rel => exact ⟨_, _, _, _, _, HI6.out⟩
                            case measure => rw [HI6.out.sc.left, HI.out.sc.left, List.length_cons]; omega
                          exact AllReadyIn.nil
                        exact AllReadyIn.nil
                      exact AllReadyIn.nil
                    exact AllReadyIn.nil
                  exact AllReadyIn.nil
                refine AllReadyIn.cons (by rw [List.getElem?_toArray]; exact rfl) (fun K hK => ?_) ?_
                · go_simp
                  refine ⟨trivial, ?_⟩
                  refine (CallsIn.inRound l (callsIn_wide.2 HST.out)).mono ?_
                  rintro e W4 ⟨rfl, s4, g4⟩
                  obtain ⟨k4, A5, c5, W6, hrun, hc6, hf6, I6⟩ := HI.out.app hxl (by omega) (by omega) (by omega) HO.out s4 (HSD.out _ g4)
                  have p4 := k4.cell 1
                  have p5 : ∀ ob, (W4.alloc ob).cell? ⟨W3.heap.size, 1, none⟩ = some u := fun ob => (k4.alloc ob).cell 1
                  simp only [List.getElem?_toArray, List.getElem?_cons_zero, List.getElem?_cons_succ] at p4
                  have HI6 := hide I6
                  clear I6 s4 g4 k4
                  go_simp
                  refine hK _ _ ?_
                  clear hK K
                  (try simp only [Act.put, List.setIfInBounds_toArray, List.set_cons_zero, List.set_cons_succ])
                  refine wpAnyIn_ready (rs := [1, 4]) (by kernel_rfl) (by simp) ?_
                  refine AllReadyIn.cons (by rw [List.getElem?_toArray]; exact rfl) (fun K hK => ?_) ?_
                  · go_simp
                    refine hK _ _ ?_
                    clear hK K
                    (try simp only [Act.put, List.setIfInBounds_toArray, List.set_cons_zero, List.set_cons_succ])
                    refine wpAnyIn_ready (rs := [4]) (by kernel_rfl) (by simp) ?_
                    refine AllReadyIn.cons (by rw [List.getElem?_toArray]; exact rfl) (fun K hK => ?_) ?_
                    · go_simp
                      refine hK _ _ ?_
                      clear hK K
                      (try simp only [Act.put, List.setIfInBounds_toArray, List.set_cons_zero, List.set_cons_succ])
                      refine wpAnyIn_ready (rs := [5]) (by kernel_rfl) (by simp) ?_
                      refine AllReadyIn.cons (by rw [List.getElem?_toArray]; exact rfl) (fun K hK => ?_) ?_
                      · refine wpIn_app_step (by rfl) _ _ (by rfl) rfl rfl hrun ?_
                        refine hK _ _ ?_
                        clear hK K
                        (try simp only [Act.put, List.setIfInBounds_toArray, List.set_cons_zero, List.set_cons_succ])
                        refine wpAnyIn_ready (rs := [6]) (by kernel_rfl) (by simp) ?_
                        refine AllReadyIn.cons (by rw [List.getElem?_toArray]; exact rfl) (fun K hK => ?_) ?_
                        · go_simp
                          refine hK _ _ ?_
                          clear hK K
                          (try simp only [Act.put, List.setIfInBounds_toArray, List.set_cons_zero, List.set_cons_succ])
                          refine wpAnyIn_ready (rs := [7]) (by kernel_rfl) (by simp) ?_
                          refine AllReadyIn.cons (by rw [List.getElem?_toArray]; exact rfl) (fun K hK => ?_) ?_
                          · go_simp
                            refine hK _ _ ?_
                            clear hK K
                            (try simp only [Act.put, List.setIfInBounds_toArray, List.set_cons_zero, List.set_cons_succ])
                            refine wpAnyIn_done (by kernel_rfl) ?_ _
                            gi_wp2
                            go_roundw
                            case rel => exact ⟨_, _, _, _, _, HI6.out⟩
                            case measure => rw [HI6.out.sc.left, HI.out.sc.left, List.length_cons]; omega
                          exact AllReadyIn.nil
                        exact AllReadyIn.nil
                      exact AllReadyIn.nil
                    exact AllReadyIn.nil
                  refine AllReadyIn.cons (by rw [List.getElem?_toArray]; exact rfl) (fun K hK => ?_) ?_
                  · go_simp
                    refine hK _ _ ?_
                    clear hK K
                    (try simp only [Act.put, List.setIfInBounds_toArray, List.set_cons_zero, List.set_cons_succ])
                    refine wpAnyIn_ready (rs := [1]) (by kernel_rfl) (by simp) ?_
                    refine AllReadyIn.cons (by rw [List.getElem?_toArray]; exact rfl) (fun K hK => ?_) ?_
                    · go_simp
                      refine hK _ _ ?_
                      clear hK K
                      (try simp only [Act.put, List.setIfInBounds_toArray, List.set_cons_zero, List.set_cons_succ])
                      refine wpAnyIn_ready (rs := [5]) (by kernel_rfl) (by simp) ?_
                      refine AllReadyIn.cons (by rw [List.getElem?_toArray]; exact rfl) (fun K hK => ?_) ?_
                      · refine wpIn_app_step (by rfl) _ _ (by rfl) rfl rfl hrun ?_
                        refine hK _ _ ?_
                        clear hK K
                        (try simp only [Act.put, List.setIfInBounds_toArray, List.set_cons_zero, List.set_cons_succ])
                        refine wpAnyIn_ready (rs := [6]) (by kernel_rfl) (by simp) ?_
                        refine AllReadyIn.cons (by rw [List.getElem?_toArray]; exact rfl) (fun K hK => ?_) ?_
                        · go_simp
                          refine hK _ _ ?_
                          clear hK K
                          (try simp only [Act.put, List.setIfInBounds_toArray, List.set_cons_zero, List.set_cons_succ])
                          refine wpAnyIn_ready (rs := [7]) (by kernel_rfl) (by simp) ?_
                          refine AllReadyIn.cons (by rw [List.getElem?_toArray]; exact rfl) (fun K hK => ?_) ?_
                          · go_simp
                            refine hK _ _ ?_
                            clear hK K
                            (try simp only [Act.put, List.setIfInBounds_toArray, List.set_cons_zero, List.set_cons_succ])
                            refine wpAnyIn_done (by kernel_rfl) ?_ _
                            gi_wp2
                            go_roundw
                            case rel => exact ⟨_, _, _, _, _, HI6.out⟩
                            case measure => rw [HI6.out.sc.left, HI.out.sc.left, List.length_cons]; omega
                          exact AllReadyIn.nil
                        exact AllReadyIn.nil
                      exact AllReadyIn.nil
                    exact AllReadyIn.nil
                  exact AllReadyIn.nil
                exact AllReadyIn.nil
              refine AllReadyIn.cons (by rw [List.getElem?_toArray]; exact rfl) (fun K hK => ?_) ?_
              · go_simp
                refine ⟨trivial, ?_⟩
                refine (CallsIn.inRound l (callsIn_wide.2 HST.out)).mono ?_
                rintro e W4 ⟨rfl, s4, g4⟩
                obtain ⟨k4, A5, c5, W6, hrun, hc6, hf6, I6⟩ := HI.out.app hxl (by omega) (by omega) (by omega) HO.out s4 (HSD.out _ g4)
                have p4 := k4.cell 1
                have p5 : ∀ ob, (W4.alloc ob).cell? ⟨W3.heap.size, 1, none⟩ = some u := fun ob => (k4.alloc ob).cell 1
                simp only [List.getElem?_toArray, List.getElem?_cons_zero, List.getElem?_cons_succ] at p4
                have HI6 := hide I6
                clear I6 s4 g4 k4
                go_simp
                refine hK _ _ ?_
                clear hK K
                (try simp only [Act.put, List.setIfInBounds_toArray, List.set_cons_zero, List.set_cons_succ])
                refine wpAnyIn_ready (rs := [0, 4]) (by kernel_rfl) (by simp) ?_
                refine AllReadyIn.cons (by rw [List.getElem?_toArray]; exact rfl) (fun K hK => ?_) ?_
                · go_simp
                  refine hK _ _ ?_
                  clear hK K
                  (try simp only [Act.put, List.setIfInBounds_toArray, List.set_cons_zero, List.set_cons_succ])
                  refine wpAnyIn_ready (rs := [1, 4]) (by kernel_rfl) (by simp) ?_
                  refine AllReadyIn.cons (by rw [List.getElem?_toArray]; exact rfl) (fun K hK => ?_) ?_
                  · go_simp
                    refine hK _ _ ?_
                    clear hK K
                    (try simp only [Act.put, List.setIfInBounds_toArray, List.set_cons_zero, List.set_cons_succ])
                    refine wpAnyIn_ready (rs := [4]) (by kernel_rfl) (by simp) ?_
                    refine AllReadyIn.cons (by rw [List.getElem?_toArray]; exact rfl) (fun K hK => ?_) ?_
                    · go_simp
                      refine hK _ _ ?_
                      clear hK K
                      (try simp only [Act.put, List.setIfInBounds_toArray, List.set_cons_zero, List.set_cons_succ])
                      refine wpAnyIn_ready (rs := [5]) (by kernel_rfl) (by simp) ?_
                      refine AllReadyIn.cons (by rw [List.getElem?_toArray]; exact rfl) (fun K hK => ?_) ?_
                      · refine wpIn_app_step (by rfl) _ _ (by rfl) rfl rfl hrun ?_
                        refine hK _ _ ?_
                        clear hK K
                        (try simp only [Act.put, List.setIfInBounds_toArray, List.set_cons_zero, List.set_cons_succ])
                        refine wpAnyIn_ready (rs := [6]) (by kernel_rfl) (by simp) ?_
                        refine AllReadyIn.cons (by rw [List.getElem?_toArray]; exact rfl) (fun K hK => ?_) ?_
                        · go_simp
                          refine hK _ _ ?_
                          clear hK K
                          (try simp only [Act.put, List.setIfInBounds_toArray, List.set_cons_zero, List.set_cons_succ])
                          refine wpAnyIn_ready (rs := [7]) (by kernel_rfl) (by simp) ?_
                          refine AllReadyIn.cons (by rw [List.getElem?_toArray]; exact rfl) (fun K hK => ?_) ?_
                          · go_simp
                            refine hK _ _ ?_
                            clear hK K
                            (try simp only [Act.put, List.setIfInBounds_toArray, List.set_cons_zero, List.set_cons_succ])
                            refine wpAnyIn_done (by kernel_rfl) ?_ _
                            gi_wp2
                            go_roundw
                            case rel => exact ⟨_, _, _, _, _, HI6.out⟩
                            case measure => rw [HI6.out.sc.left, HI.out.sc.left, List.length_cons]; omega
                          exact AllReadyIn.nil
                        exact AllReadyIn.nil
                      exact AllReadyIn.nil
                    exact AllReadyIn.nil
                  refine AllReadyIn.cons (by rw [List.getElem?_toArray]; exact rfl) (fun K hK => ?_) ?_
                  · go_simp
                    refine hK _ _ ?_
                    clear hK K
                    (try simp only [Act.put, List.setIfInBounds_toArray, List.set_cons_zero, List.set_cons_succ])
                    refine wpAnyIn_ready (rs := [1]) (by kernel_rfl) (by simp) ?_
                    refine AllReadyIn.cons (by rw [List.getElem?_toArray]; exact rfl) (fun K hK => ?_) ?_
                    · go_simp
                      refine hK _ _ ?_
                      clear hK K
                      (try simp only [Act.put, List.setIfInBounds_toArray, List.set_cons_zero, List.set_cons_succ])
                      refine wpAnyIn_ready (rs := [5]) (by kernel_rfl) (by simp) ?_
                      refine AllReadyIn.cons (by rw [List.getElem?_toArray]; exact rfl) (fun K hK => ?_) ?_
                      · refine wpIn_app_step (by rfl) _ _ (by rfl) rfl rfl hrun ?_
                        refine hK _ _ ?_
                        clear hK K
                        (try simp only [Act.put, List.setIfInBounds_toArray, List.set_cons_zero, List.set_cons_succ])
                        refine wpAnyIn_ready (rs := [6]) (by kernel_rfl) (by simp) ?_
                        refine AllReadyIn.cons (by rw [List.getElem?_toArray]; exact rfl) (fun K hK => ?_) ?_
                        · go_simp
                          refine hK _ _ ?_
                          clear hK K
                          (try simp only [Act.put, List.setIfInBounds_toArray, List.set_cons_zero, List.set_cons_succ])
                          refine wpAnyIn_ready (rs := [7]) (by kernel_rfl) (by simp) ?_
                          refine AllReadyIn.cons (by rw [List.getElem?_toArray]; exact rfl) (fun K hK => ?_) ?_
                          · go_simp
                            refine hK _ _ ?_
                            clear hK K
                            (try simp only [Act.put, List.setIfInBounds_toArray, List.set_cons_zero, List.set_cons_succ])
                            refine wpAnyIn_done (by kernel_rfl) ?_ _
                            gi_wp2
                            go_roundw
                            case rel => exact ⟨_, _, _, _, _, HI6.out⟩
                            case measure => rw [HI6.out.sc.left, HI.out.sc.left, List.length_cons]; omega
                          exact AllReadyIn.nil
                        exact AllReadyIn.nil
                      exact AllReadyIn.nil
                    exact AllReadyIn.nil
                  exact AllReadyIn.nil
                refine AllReadyIn.cons (by rw [List.getElem?_toArray]; exact rfl) (fun K hK => ?_) ?_
                · go_simp
                  refine hK _ _ ?_
                  clear hK K
                  (try simp only [Act.put, List.setIfInBounds_toArray, List.set_cons_zero, List.set_cons_succ])
                  refine wpAnyIn_ready (rs := [0]) (by kernel_rfl) (by simp) ?_
                  refine AllReadyIn.cons (by rw [List.getElem?_toArray]; exact rfl) (fun K hK => ?_) ?_
                  · go_simp
                    refine hK _ _ ?_
                    clear hK K
                    (try simp only [Act.put, List.setIfInBounds_toArray, List.set_cons_zero, List.set_cons_succ])
                    refine wpAnyIn_ready (rs := [1]) (by kernel_rfl) (by simp) ?_
                    refine AllReadyIn.cons (by rw [List.getElem?_toArray]; exact rfl) (fun K hK => ?_) ?_
                    · go_simp
                      refine hK _ _ ?_
                      clear hK K
                      (try simp only [Act.put, List.setIfInBounds_toArray, List.set_cons_zero, List.set_cons_succ])
                      refine wpAnyIn_ready (rs := [5]) (by kernel_rfl) (by simp) ?_
                      refine AllReadyIn.cons (by rw [List.getElem?_toArray]; exact rfl) (fun K hK => ?_) ?_
                      · refine wpIn_app_step (by rfl) _ _ (by rfl) rfl rfl hrun ?_
                        refine hK _ _ ?_
                        clear hK K
                        (try simp only [Act.put, List.setIfInBounds_toArray, List.set_cons_zero, List.set_cons_succ])
                        refine wpAnyIn_ready (rs := [6]) (by kernel_rfl) (by simp) ?_
                        refine AllReadyIn.cons (by rw [List.getElem?_toArray]; exact rfl) (fun K hK => ?_) ?_
                        · go_simp
                          refine hK _ _ ?_
                          clear hK K
                          (try simp only [Act.put, List.setIfInBounds_toArray, List.set_cons_zero, List.set_cons_succ])
                          refine wpAnyIn_ready (rs := [7]) (by kernel_rfl) (by simp) ?_
                          refine AllReadyIn.cons (by rw [List.getElem?_toArray]; exact rfl) (fun K hK => ?_) ?_
                          · go_simp
                            refine hK _ _ ?_
                            clear hK K
                            (try simp only [Act.put, List.setIfInBounds_toArray, List.set_cons_zero, List.set_cons_succ])
                            refine wpAnyIn_done (by kernel_rfl) ?_ _
                            gi_wp2
                            go_roundw
                            case rel => exact ⟨_, _, _, _, _, HI6.out⟩
                            case measure => rw [HI6.out.sc.left, HI.out.sc.left, List.length_cons]; omega
                          exact AllReadyIn.nil
                        exact AllReadyIn.nil
                      exact AllReadyIn.nil
                    exact AllReadyIn.nil
                  exact AllReadyIn.nil
                exact AllReadyIn.nil
              exact AllReadyIn.nil
            exact AllReadyIn.nil
            -- ENDTREE
        · gi_wp2
          obtain ⟨z0', z1'⟩ := blk_res (u' := .slice none 0 0) (b' := false) R0 R1
          exact ⟨((keeps_below HI.out.low).trans (KeepsOthers.setCell _ _ _)).trans (KeepsOthers.setCell _ _ _), ⟨((below_step hb HI.out.low).setCell (p := ⟨w.heap.size, 0, none⟩) (Nat.le_refl _) _).setCell (p := ⟨w.heap.size + 1, 0, none⟩) (by show w.heap.size ≤ w.heap.size + 1; omega) _, z0', z1', x, by simp, HI.out.bads rfl⟩, rfl⟩
    case hdone =>
      rintro D W hD hi hK
      obtain ⟨hb, r0, r1, r2, r3, v, es, ds, P⟩ := hi
      obtain ⟨A, c, rfl, hnc, hrd⟩ := P.own.rds P.says
      have p0 := P.box.cell 0
      simp only [List.getElem?_toArray, List.getElem?_cons_zero] at p0
      have hN : es.length ≤ 1048576 := P.own.small
      have hS : SmallD ds := OW2.smallD P.own P.says
      have HN := hide hN; have HS := hide hS
      have hl : ds.length = (partsL [59, 32] (c0 :: s0)).length := by
        have := congrArg List.length P.says
        simp only [List.length_map] at this
        rw [← this]; exact P.n
      have hU : ∀ p : Ds, planB p = true → planT p = c0 :: s0 → ds = p := fun p h1 h2 => hL p ds h1 h2 (by simp) hl P.parts
      have HU := hide hU
      clear hS hU hL hG hl
      have HK := hide hK
      clear hK
      cases hV : planB ds
      · have HV := hide hV
        clear hV
        gi_wp2_with (first | (refine ⟨trivial, ?_⟩; gi_at_call 24; refine (callsIn_wide.2 (impl_PlanValid_c hrd HN.out HS.out)).mono ?_; rintro e W2 ⟨rfl, b2⟩; rw [HV.out]; have hrd2 := hrd.below b2; have Rp := P.box.belowAll b2; have R0 := r0.belowAll b2; have R1 := r1.belowAll b2; have p2 := Rp.cell 0; have q0 := R0.cell 0; have q1 := R1.cell 0; have f0 := R0.frozen 0; have f1 := R1.frozen 0; simp only [List.getElem?_toArray, List.getElem?_cons_zero] at q0 q1 p2) | (refine And.intro (show Fence.wide.fn 13 from trivial) ?_))
        obtain ⟨z0, z1⟩ := blk_res (u' := .slice none 0 0) (b' := false) R0 R1
        refine retR Tryd.results7 z0 z1 (def_fin HK.out b2 (by simp [seqW, hz] at hD; omega) _ _) rfl rfl ⟨below_fin (below_step hb b2) (by simp [seqW, hz] at hD; omega) _ _ _, .inr ⟨fun p h1 h2 => ?_, rfl⟩⟩
        have := HU.out p h1 h2
        subst this
        rw [HV.out] at h1; cases h1
      · have HV := hide hV
        clear hV
        by_cases hq : planT ds = c0 :: s0
        · have hq' : ((str (planT ds)).toList == (str (c0 :: s0)).toList) = true := by rw [str_toList, str_toList, hq]; simp
          gi_wp2_with (first | (refine ⟨trivial, ?_⟩; gi_at_call 24; refine (callsIn_wide.2 (impl_PlanValid_c hrd HN.out HS.out)).mono ?_; rintro e W2 ⟨rfl, b2⟩; rw [HV.out]; have hrd2 := hrd.below b2; have Rp := P.box.belowAll b2; have R0 := r0.belowAll b2; have R1 := r1.belowAll b2; have p2 := Rp.cell 0; have q0 := R0.cell 0; have q1 := R1.cell 0; have f0 := R0.frozen 0; have f1 := R1.frozen 0; simp only [List.getElem?_toArray, List.getElem?_cons_zero] at q0 q1 p2) | (refine ⟨trivial, ?_⟩; gi_at_call 13; refine (callsIn_wide.2 (impl_PlanText_c hrd2 HN.out HS.out)).mono ?_; rintro e W3 ⟨rfl, b3⟩; have Rp3 := Rp.belowAll b3; have R03 := R0.belowAll b3; have R13 := R1.belowAll b3; have p3 := Rp3.cell 0; have q03 := R03.cell 0; have q13 := R13.cell 0; have f03 := R03.frozen 0; have f13 := R13.frozen 0; simp only [List.getElem?_toArray, List.getElem?_cons_zero] at q03 q13 p3) | (refine ⟨trivial, ?_⟩; gi_at_call 25; refine (callsIn_wide.2 (Clip_Draft_c ((P.own.keep (fun g cs t _ _ hb => (hb.belowAll b2).belowAll b3))))).mono ?_; rintro e W4 ⟨rfl, rfl⟩))
          obtain ⟨z0, z1⟩ := blk_res (u' := .slice A es.length es.length) (b' := true) R03 R13
          have bw := below_step b2 b3
          refine retR Tryd.results7 z0 z1 (def_fin HK.out bw (by simp [seqW, hz] at hD; omega) _ _) rfl rfl ⟨below_fin (below_step hb bw) (by simp [seqW, hz] at hD; omega) _ _ _, .inl ⟨ds, A, es.length, c, es, HV.out, hq, rfl, hnc, P.own.keep (fun g cs t _ ht hb => blk_put (def_fin HK.out bw (by simp [seqW, hz] at hD; omega) _ _) (blk_set2 R03 R13 ht ((hb.belowAll b2).belowAll b3))), P.says⟩⟩
        · have hq' : ((str (planT ds)).toList == (str (c0 :: s0)).toList) = false := by rw [str_toList, str_toList]; simpa using hq
          gi_wp2_with (first | (refine ⟨trivial, ?_⟩; gi_at_call 24; refine (callsIn_wide.2 (impl_PlanValid_c hrd HN.out HS.out)).mono ?_; rintro e W2 ⟨rfl, b2⟩; rw [HV.out]; have hrd2 := hrd.below b2; have Rp := P.box.belowAll b2; have R0 := r0.belowAll b2; have R1 := r1.belowAll b2; have p2 := Rp.cell 0; have q0 := R0.cell 0; have q1 := R1.cell 0; have f0 := R0.frozen 0; have f1 := R1.frozen 0; simp only [List.getElem?_toArray, List.getElem?_cons_zero] at q0 q1 p2) | (refine ⟨trivial, ?_⟩; gi_at_call 13; refine (callsIn_wide.2 (impl_PlanText_c hrd2 HN.out HS.out)).mono ?_; rintro e W3 ⟨rfl, b3⟩; have Rp3 := Rp.belowAll b3; have R03 := R0.belowAll b3; have R13 := R1.belowAll b3; have p3 := Rp3.cell 0; have q03 := R03.cell 0; have q13 := R13.cell 0; have f03 := R03.frozen 0; have f13 := R13.frozen 0; simp only [List.getElem?_toArray, List.getElem?_cons_zero] at q03 q13 p3))
          obtain ⟨z0, z1⟩ := blk_res (u' := .slice none 0 0) (b' := false) R03 R13
          refine retR Tryd.results7 z0 z1 (def_fin HK.out (below_step b2 b3) (by simp [seqW, hz] at hD; omega) _ _) rfl rfl ⟨below_fin (below_step hb (below_step b2 b3)) (by simp [seqW, hz] at hD; omega) _ _ _, .inr ⟨fun p h1 h2 => ?_, rfl⟩⟩
          have := HU.out p h1 h2
          subst this
          exact hq h2
    case hstop =>
      rintro D c pre W hD hpre ⟨hx, rfl⟩ hK
      obtain ⟨hb, z0, z1, x, hxp, hbad⟩ := hx
      have hno : ∀ p, planB p = true → planT p ≠ c0 :: s0 := fun p h1 h2 => hbad (hG p h1 h2 (by simp) x (hpre.subset hxp))
      clear hL hG
      gi_wp2
      exact retR Tryd.results7 z0 z1 hK rfl rfl ⟨below_put hb (by simp [seqW, hz] at hD; omega) _, .inr ⟨hno, rfl⟩⟩

end Go.Proofs.YtefopnkicllpeaaDoor

namespace Go.Proofs.YtefopnkicllpeaaDoor
open Go.RowKit

/-- A variable of an interface's type that the row lists as a value of a named type holds an interface value. -/
theorem laid_iface {P : Program} {W : World} {name nm : String} {d : DataW Unit} {rest : List (String × DataW Unit)} {g : Nat} {t : TypeId} {m : _}
    (hg : P.globalNamed name = some g) (hty : (P.globals[g]?).map (·.type) = some t) (hu : P.underlying t = some (.interface m)) (h : laidMet P ((name, .iface nm d) :: rest) W) : ∃ ev, W.cell? ⟨g, 0, none⟩ = some ev ∧ (ev = .nilIface ∨ ∃ te pe, ev = .iface te pe) := by
  obtain ⟨ps, ⟨g', t', cs, fuel, p, q, hg', ht', hvar, hd, _, _⟩, _⟩ := h
  obtain rfl := Option.some.inj (hg.symm.trans hg')
  obtain rfl := Option.some.inj (hty.symm.trans ht')
  cases fuel with
  | zero => simp [DataW.trod] at hd
  | succ fuel =>
    obtain ⟨u, v, hcs⟩ : ∃ u v, cs.toList = [.iface u v] := by
      revert hd
      generalize cs.toList = l
      intro hd
      cases l with
      | nil => simp [DataW.trod, hu] at hd
      | cons c l => cases l with
        | cons c2 l => simp [DataW.trod, hu] at hd
        | nil =>
          cases c
          case iface u v => exact ⟨u, v, rfl⟩
          all_goals simp [DataW.trod, hu] at hd
    have h0 : cs[0]? = some (.iface u v) := by
      have := congrArg (fun l => l[0]?) hcs
      simpa using this
    exact ⟨_, (World.var?_cell hg hvar 0).trans h0, .inr ⟨_, _, rfl⟩⟩

/-- What the library's variables hold. -/
structure LibV (w : World) : Prop where
  max : ∃ m, w.cell? ⟨2, 0, none⟩ = some (.int .i64 m)
  syn : ∃ ev, w.cell? ⟨3, 0, none⟩ = some ev ∧ (ev = .nilIface ∨ ∃ te pe, ev = .iface te pe)
  rng : ∃ ev, w.cell? ⟨4, 0, none⟩ = some ev ∧ (ev = .nilIface ∨ ∃ te pe, ev = .iface te pe)
theorem LibV.below {w w' : World} (h : LibV w) (hb : Below w.heap.size w w') : LibV w' := by
  obtain ⟨⟨m, h1⟩, ⟨e, h2, h3⟩, ⟨f, h4, h5⟩⟩ := h
  exact ⟨⟨m, (hb.cell (p := ⟨2, 0, none⟩) (Lib.lt_of_cell h1)).trans h1⟩, ⟨e, (hb.cell (p := ⟨3, 0, none⟩) (Lib.lt_of_cell h2)).trans h2, h3⟩, ⟨f, (hb.cell (p := ⟨4, 0, none⟩) (Lib.lt_of_cell h4)).trans h4, h5⟩⟩
theorem libV_of {l : List (String × DataW Unit)} {w : World} {d1 d2 : DataW Unit} {n1 n2 : String} (hs : w.ShapedOpen Tryd.prog) (h : laidMetH Tryd.prog l w) (h1 : (l.all fun x => x.2.handleName?.isNone) = true)
    (h2 : l.filter (fun x => x.1 == "strconv.ErrSyntax") = [("strconv.ErrSyntax", .iface n1 d1)]) (h3 : l.filter (fun x => x.1 == "strconv.ErrRange") = [("strconv.ErrRange", .iface n2 d2)]) : LibV w := by
  rw [MakeChecks.laidMetH_plain _ _ _ h1] at h
  have e2 := laidMet.filter (fun x => x.1 == "strconv.ErrSyntax") h
  rw [h2] at e2
  have e3 := laidMet.filter (fun x => x.1 == "strconv.ErrRange") h
  rw [h3] at e3
  exact ⟨Go.Proofs.cell_of_shapedOpen_int (zero := #[.int .i64 0]) (t := 3) hs (of_decide_eq_true (by kernel_rfl)) (by kernel_rfl) rfl (by kernel_rfl) (by kernel_rfl) Tryd.underlying3,
    laid_iface (t := 71) (by kernel_rfl) (by kernel_rfl) Tryd.underlying71 e2, laid_iface (t := 71) (by kernel_rfl) (by kernel_rfl) Tryd.underlying71 e3⟩
theorem atoi_digit {d : UInt8} (h1 : 48 ≤ d.toNat) (h2 : d.toNat ≤ 57) : Lib.atoiAll [d] = .ok ((d.toNat : Int) - 48) := by
  have h3 : Lib.parseMag [d] = .ok (d.toNat - 48) := by
    unfold Lib.parseMag Lib.parseUint10
    rw [if_neg (by simp), if_pos ⟨h1, h2⟩, if_neg (by omega), if_neg (by omega), Nat.zero_mul, Nat.zero_add]
    rfl
  rw [Lib.atoiAll_plain d [] (by omega) (by omega), h3]
  unfold Lib.signless
  dsimp only
  rw [if_neg (by omega)]
  congr 1
  omega
theorem Atoi_c {l : List UInt8} {W : World} (h : LibV W) (hl : l.length ≤ 1048576) : Calls Tryd.prog 43 #[.string (str l)] W (AtR l W) := by
  have hsz : (str l).size ≤ 1048576 := by rw [str_size]; exact hl
  have hd : (str l).data.toList = l := by simp [str]
  cases hh : Lib.atoiAll l with
  | ok v =>
    refine (Any.strconv_Atoi_ok laysC172 (str l) (by omega) v (by rw [hd]; exact hh) W).mono ?_
    rintro e w' ⟨rfl, hw⟩
    refine ⟨v, .nilIface, true, rfl, ?_, .inl ⟨rfl, rfl⟩, ?_⟩
    · rcases hw with rfl | ⟨t, rfl⟩
      · exact Below.refl _ _
      · exact Lib.bytesWorld_below _ _ _
    · rintro d rfl h1 h2
      rw [atoi_digit h1 h2] at hh
      injection hh with hh
      exact ⟨hh.symm, rfl⟩
  | range =>
    obtain ⟨ev, h1, h2⟩ := h.rng
    refine (Any.strconv_Atoi_range laysC172 (str l) (by omega) (by rw [hd]; exact hh) ev W h1 h2).mono ?_
    rintro e w' ⟨N, rfl, _, _, hb⟩
    refine ⟨_, _, false, rfl, hb, .inr ⟨rfl, _, _, rfl⟩, ?_⟩
    rintro d rfl h1 h2
    rw [atoi_digit h1 h2] at hh
    cases hh
  | _ =>
    obtain ⟨ev, h1, h2⟩ := h.syn
    refine (Any.strconv_Atoi_syntax laysC172 (str l) (by omega) (by rw [hd]; exact hh) ev W h1 h2).mono ?_
    rintro e w' ⟨N, rfl, _, _, hb⟩
    refine ⟨_, _, false, rfl, hb, .inr ⟨rfl, _, _, rfl⟩, ?_⟩
    rintro d rfl h1 h2
    rw [atoi_digit h1 h2] at hh
    cases hh
/-- The wrap of a door row, the world's shape handed on. -/
theorem returns_and_shaped {H : Type} {enc : TypeId × Value → H} {a : Assume} {C : Checked} {os : Os} {f : FuncId} {fn : Func} {s : ChangeSpec} {conds : List PathCond} {apart fresh handsOn again : Bool} {X : World → Array Value → Prop}
    (hX : ∀ (w w' : World) (args : Array Value), w.heap = w'.heap → X w args → X w' args) (own : ownKnob C.prog.godebug = none) (started : os.Started) (noInit : C.prog.inits.idxOf? f = none) (hfn : C.prog.funcs[f]? = some fn)
    (witness : ∃ (w : World) (tape : Tape) (i : Input), w.os = os ∧ (w.forCall tape i).Shaped C.prog ∧ i.vars = [] ∧ Input.okWide C.prog (w.forCall tape i) .any w.heap.size f i ∧
      ((s.pre enc C.prog fn conds apart (w.forCall tape i).memory i.args ∧ X (w.forCall tape i).memory i.args) ∧ sizedMet enc C.prog fn (OpenSpec.ofChange s) apart (w.forCall tape i).memory i.args) ∧ a.holds C.prog (lone (Frame.enter C.prog f i.args .normal) [] (w.forCall tape i)))
    (contract : ∀ (W : World) (base : Nat) (args : Array Value) (ds gs : List (DataW H)) (before : List MemPlace),
      (∀ (j : Nat) t v, fn.params[j]? = some t → args[j]? = some v → Value.okWide C.prog W .any base t v) →
      DataW.Whole enc C.prog fn.params.toList s.vars apart W args.toList ds gs before → X W args → W.ShapedOpen C.prog →
      Calls C.prog f args W fun e W' => ∃ v, e = .returned v ∧ s.post enc C.prog fn apart fresh handsOn again W args v W') :
    ReturnsInHanded a C os f .any (fun w args => (s.pre enc C.prog fn conds apart w args ∧ X w args) ∧ sizedMet enc C.prog fn (OpenSpec.ofChange s) apart w args) (s.post enc C.prog fn apart fresh handsOn again) := by
  refine returnsInHanded_of_calls own started noInit witness fun w tape i _ hsh _ hok hpre _ => ?_
  obtain ⟨_, _, _, fn', hfn', _, _, _, _, hval⟩ := hok
  obtain rfl : fn' = fn := Option.some.inj (hfn'.symm.trans hfn)
  obtain ⟨⟨⟨ds, gs, before, hw, _⟩, hx⟩, _⟩ := hpre
  refine (contract (w.forCall tape i) w.heap.size i.args ds gs before hval (DataW.Whole.of_heap (w' := w.forCall tape i) (by rfl) hw) (hX _ _ _ (by rfl) hx) hsh).mono ?_
  rintro e W' ⟨v, rfl, hp⟩
  exact ChangeSpec.post_blind hp

end Go.Proofs.YtefopnkicllpeaaDoor

namespace Go.Proofs.YtefopnkicllpeaaDoor
open Go.RowKit

theorem impl_ReadPlan_c {s : List UInt8} {w : World} (hlen : s.length ≤ 1048576) (hV : LibV w) : Calls Tryd.prog 7 #[.string (str s)] w (ReadR s w) := by
  obtain ⟨m, hm⟩ := hV.max
  exact ReadPlan_c hlen hm (Lib.lt_of_cell hm) (fun W l hl hb => Atoi_c (hV.below hb) hl) (fun p ds h1 h2 h3 h4 h5 => plan_read h1 h2 h3 h4 h5) (fun p h1 h2 h3 => plan_good h1 h2 h3)

end Go.Proofs.YtefopnkicllpeaaDoor
