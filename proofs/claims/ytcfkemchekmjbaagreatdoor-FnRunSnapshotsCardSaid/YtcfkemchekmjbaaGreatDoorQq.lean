/- Merged (what the law reaches): SkM, ZkM. -/
import Derived.Test.YtcfkemchekmjbaaGreatDoorQp
namespace Go.Proofs.YtcfkemchekmjbaaGreatDoor
open Go.RowKit
/-- The history, the store, the owners. -/
structure Sk (w0 : World) (gs n : Nat) (v : Value) (ts : List Tx) (st ow : List Int) (es : List El) (wr : World) : Prop where
  own : OT wr w0.heap.size v n es
  says : SaysT es ts
  store : Blk wr gs 3 (storeC st)
  owner : Blk wr (gs + 1) 3 (storeC ow)
  bel : Below w0.heap.size w0 wr
  le : w0.heap.size ≤ gs
section
variable {w0 wr w' : World} {gs n : Nat} {v : Value} {ts : List Tx} {st ow : List Int} {es : List El}
theorem Sk.ne_store (h : Sk w0 gs n v ts st ow es wr) : ¬ OT.S v es gs := h.own.notS h.store (by decide) (by decide)
theorem Sk.ne_owner (h : Sk w0 gs n v ts st ow es wr) : ¬ OT.S v es (gs + 1) := h.own.notS h.owner (by decide) (by decide)
theorem Sk.chg {S : Nat → Prop} (h : Sk w0 gs n v ts st ow es wr) (hc : Chg S wr w') (h0 : ∀ k, S k → w0.heap.size ≤ k) (h1 : ¬ S gs) (h2 : ¬ S (gs + 1)) (h3 : ∀ k, OT.S v es k → ¬ S k) : Sk w0 gs n v ts st ow es w' :=
  ⟨h.own.chg hc h3, h.says, h.store.chg hc h1, h.owner.chg hc h2, Chg.below h.bel hc h0, h.le⟩
theorem Sk.below (h : Sk w0 gs n v ts st ow es wr) (hb : Below wr.heap.size wr w') : Sk w0 gs n v ts st ow es w' :=
  h.chg (S := fun _ => False) (Chg.of_below hb) (fun _ e => e.elim) id id (fun _ _ => id)
theorem Sk.alloc (h : Sk w0 gs n v ts st ow es wr) (o : Obj) : Sk w0 gs n v ts st ow es (wr.alloc o) := h.below ((Below.refl _ _).alloc (Nat.le_refl _) _)
theorem Sk.drew (h : Sk w0 gs n v ts st ow es wr) : Sk w0 gs n v ts st ow es wr.drew := h.below (Below.refl _ _).drew
theorem Sk.putS (h : Sk w0 gs n v ts st ow es wr) (i : Nat) (x : Int) : Sk w0 gs n v ts (st.set i x) ow es (wr.setCell ⟨gs, i, none⟩ (.int .i64 x)) := by
  have hle := h.le
  have hc := Chg.setCell (w := wr) (S := fun k => k = gs) (p := ⟨gs, i, none⟩) rfl (.int .i64 x)
  have K := h.store.set_ i (.int .i64 x)
  rw [storeC_set] at K
  exact ⟨h.own.chg hc (fun k hk e => h.ne_store (e ▸ hk)), h.says, K, h.owner.chg hc (by omega), Chg.below h.bel hc (fun k hk => by omega), h.le⟩
/-- One more operation. -/
theorem Sk.add {g c : Nat} (h : Sk w0 gs n (.slice (some ⟨g, 0, none⟩) n c) ts st ow es wr) {j : Nat} {t : Tx} {u : Value} (he : es[j]? = some (t.1, (u, t.2.1.length, flat3 t.2.1), t.2.2))
    (hg : wr.grownBy w' u.ownBlock) {u' : Value} {o : T3} {L : Nat} (ho : O3 61 w' w0.heap.size u' L (t.2.1 ++ [o])) (hq : u'.ownBlock = u.ownBlock ∨ u'.ownBlock = some wr.heap.size) :
    Sk w0 gs n (.slice (some ⟨g, 0, none⟩) n c) (ts.set j (t.1, t.2.1 ++ [o], t.2.2)) st ow (es.set j (t.1, (u', L, flat3 (t.2.1 ++ [o])), t.2.2)) (w'.setCell ⟨g, j * 3 + 1, none⟩ u') := by
  have hjl := (List.getElem?_eq_some_iff.1 he).1
  have hlg := h.own.base
  have h1 : gs ≠ g := fun e => h.ne_store (.inl (by rw [e]; rfl))
  have h2 : gs + 1 ≠ g := fun e => h.ne_owner (.inl (by rw [e]; rfl))
  have D1 := h.own.append he hg (q := (u', L, flat3 (t.2.1 ++ [o]))) ho.of (hq.imp id (fun e k hk => by rw [e] at hk; injection hk with hk; omega))
  have hc := Chg.of_grown (S := fun k => u.ownBlock = some k) hg (fun k e => e)
  refine ⟨D1, h.says.set_ j (t.1, t.2.1 ++ [o], t.2.2) u' L, ?_, ?_, ?_, h.le⟩
  · exact (h.store.chg hc (fun e => h.ne_store (.inr ⟨j, _, he, e⟩))).far h1 _
  · exact (h.owner.chg hc (fun e => h.ne_owner (.inr ⟨j, _, he, e⟩))).far h2 _
  · exact (Chg.below h.bel hc (fun k hk => (h.own.range k (.inr ⟨j, _, he, hk⟩)).1)).setCell (p := ⟨g, j * 3 + 1, none⟩) hlg.1 _
/-- What the history's row shows at a place. -/
theorem Sk.look (h : Sk w0 gs n v ts st ow es wr) {n0 : Nat} {t : Tx} (hn : n0 < n) (ht : ts[n0]? = some t) :
    ∃ g cg Au cu, v = .slice (some ⟨g, 0, none⟩) n cg ∧ n ≤ cg ∧ w0.heap.size ≤ g ∧ g < wr.heap.size ∧ es[n0]? = some (t.1, (.slice Au t.2.1.length cu, t.2.1.length, flat3 t.2.1), t.2.2) ∧ t.2.1.length ≤ cu ∧
      wr.cell? ⟨g, n0 * 3, none⟩ = some (.int .i64 t.1) ∧ wr.cell? ⟨g, n0 * 3 + 1, none⟩ = some (.slice Au t.2.1.length cu) ∧ wr.cell? ⟨g, n0 * 3 + 2, none⟩ = some (.bool t.2.2) ∧ O3 61 wr w0.heap.size (.slice Au t.2.1.length cu) t.2.1.length t.2.1 := by
  obtain ⟨u, he, ho⟩ := h.says.ops h.own ht
  rcases h.own.shape with ⟨_, h0⟩ | ⟨g, cg, rfl, hlg, hgs, hnc, hcm, _⟩
  · omega
  obtain ⟨c0, c1, c2⟩ := h.own.cells he
  obtain ⟨Au, cu, rfl, huc, _, _⟩ := ho.form
  exact ⟨g, cg, Au, cu, rfl, hnc, hlg, hgs, he, huc, c0, c1, c2, ho⟩
/-- A transaction's mark set. -/
theorem Sk.done {g cg : Nat} (h : Sk w0 gs n (.slice (some ⟨g, 0, none⟩) n cg) ts st ow es wr) {n0 : Nat} {t : Tx} (hn : n0 < n) (ht : ts[n0]? = some t) (b : Bool) :
    ∃ es', Sk w0 gs n (.slice (some ⟨g, 0, none⟩) n cg) (ts.set n0 (t.1, t.2.1, b)) st ow es' (wr.setCell ⟨g, n0 * 3 + 2, none⟩ (.bool b)) := by
  obtain ⟨g', cg', Au, cu, hv, hnc, hlg, hgs, he, huc, c0, c1, c2, ho⟩ := h.look hn ht
  obtain ⟨rfl, rfl⟩ : g = g' ∧ cg = cg' := by simpa using hv
  have D12 := h.own.set2 he b
  have h1 : gs ≠ g := fun e => h.ne_store (.inl (by rw [e]; rfl))
  have h2 : gs + 1 ≠ g := fun e => h.ne_owner (.inl (by rw [e]; rfl))
  have hsy := h.says.set_ n0 (t.1, t.2.1, b) (.slice Au t.2.1.length cu) t.2.1.length
  exact ⟨_, D12, hsy, h.store.far (p := ⟨g, n0 * 3 + 2, none⟩) h1 (.bool b), h.owner.far (p := ⟨g, n0 * 3 + 2, none⟩) h2 (.bool b), h.bel.setCell (p := ⟨g, n0 * 3 + 2, none⟩) hlg (.bool b), h.le⟩
end
end Go.Proofs.YtcfkemchekmjbaaGreatDoor

namespace Go.Proofs.YtcfkemchekmjbaaGreatDoor
open Go.RowKit
def boolC (bs : List Bool) : Array Value := (bs.map Value.bool).toArray
theorem boolC_get {bs : List Bool} {i : Nat} {x : Bool} (h : bs[i]? = some x) : (boolC bs)[i]? = some (.bool x) := by simp [boolC, h]
theorem boolC_set (bs : List Bool) (i : Nat) (x : Bool) : (boolC bs).setIfInBounds i (.bool x) = boolC (bs.set i x) := by
  unfold boolC; apply Array.ext'; rw [Array.toList_setIfInBounds]; simp [List.map_set]
theorem OI.blk {w : World} {B n k : Nat} {v : Value} {xs : List Int} (h : OI w B v n xs) (hk : v.ownBlock = some k) : ∃ cs, Blk w k 3 cs ∧ B ≤ k := by
  rcases h.1.2 with ⟨h1, _⟩ | ⟨g, cap, cur, h1, hB, hb, _⟩
  · rw [h1] at hk; simp [Value.ownBlock] at hk
  · rw [h1] at hk
    have e : g = k := by have h : some g = some k := hk; injection h
    subst e; exact ⟨cur, hb, hB⟩
theorem Blk.same {w : World} {g : Nat} {t t' : TypeId} {cs cs' : Array Value} (h : Blk w g t cs) (h' : Blk w g t' cs') : t = t' := by
  unfold Blk at h h'; rw [h] at h'; injection h' with h'; injection h'
/-- A remembered row of numbers, as a cell shows it. -/
def SeenR (w : World) (B : Nat) (s : Option (List Int)) (u : Value) : Prop := (s = none → u = .slice none 0 0) ∧ ∀ r, s = some r → OI w B u 3 r
def StaleR (w : World) (B : Nat) (s : Option (List Bool)) (u : Value) : Prop := (s = none → u = .slice none 0 0) ∧ ∀ r, s = some r → ∃ b, u = .slice (some ⟨b, 0, none⟩) 3 3 ∧ B ≤ b ∧ Blk w b 4 (boolC r)
/-- The history, the store, what drafts remember, what is stale. -/
structure Zk (w0 : World) (gs n : Nat) (v : Value) (ts : List Tx) (st : List Int) (es : List El) (sn : Nat → Option (List Int)) (sl : Nat → Option (List Bool)) (wr : World) : Prop where
  own : OT wr w0.heap.size v n es
  says : SaysT es ts
  store : Blk wr gs 3 (storeC st)
  seen : ∃ cs : Array Value, Blk wr (gs + 1) 24 cs ∧ cs.size = n ∧ ∀ i, i < n → ∃ u, cs[i]? = some u ∧ SeenR wr (gs + 1 + 1 + 1) (sn i) u
  stale : ∃ cs : Array Value, Blk wr (gs + 1 + 1) 78 cs ∧ cs.size = n ∧ (∀ i, i < n → ∃ u, cs[i]? = some u ∧ StaleR wr (gs + 1 + 1 + 1) (sl i) u) ∧
    ∀ (i j b b' : Nat), i ≠ j → cs[i]? = some (.slice (some ⟨b, 0, none⟩) 3 3) → cs[j]? = some (.slice (some ⟨b', 0, none⟩) 3 3) → b ≠ b'
  bel : Below w0.heap.size w0 wr
  le : w0.heap.size ≤ gs
section
variable {w0 wr w' : World} {gs n : Nat} {v : Value} {ts : List Tx} {st : List Int} {es : List El} {sn : Nat → Option (List Int)} {sl : Nat → Option (List Bool)}
/-- A block of numbers or Booleans that lies behind. -/
def Rowish (w : World) (gs k : Nat) : Prop := gs + 1 + 1 + 1 ≤ k ∧ ∃ t cs, Blk w k t cs ∧ (t = 3 ∨ t = 4)
theorem Rowish.not (h : OT wr w0.heap.size v n es) {k : Nat} (hr : Rowish wr gs k) : ¬ OT.S v es k := by
  obtain ⟨_, t, cs, hb, rfl | rfl⟩ := hr
  · exact h.notS hb (by decide) (by decide)
  · exact h.notS hb (by decide) (by decide)
theorem SeenR.chg {T : Nat → Prop} {s : Option (List Int)} {u : Value} (h : SeenR wr (gs + 1 + 1 + 1) s u) (hc : Chg T wr w') (hr : ∀ k, Rowish wr gs k → ¬ T k) : SeenR w' (gs + 1 + 1 + 1) s u :=
  ⟨h.1, fun r hs => (h.2 r hs).chg hc (fun k hk => by obtain ⟨cs, hb, hB⟩ := (h.2 r hs).blk hk; exact hr k ⟨hB, _, cs, hb, .inl rfl⟩)⟩
theorem StaleR.chg {T : Nat → Prop} {s : Option (List Bool)} {u : Value} (h : StaleR wr (gs + 1 + 1 + 1) s u) (hc : Chg T wr w') (hr : ∀ k, Rowish wr gs k → ¬ T k) : StaleR w' (gs + 1 + 1 + 1) s u :=
  ⟨h.1, fun r hs => by obtain ⟨b, e, hB, hb⟩ := h.2 r hs; exact ⟨b, e, hB, hb.chg hc (hr b ⟨hB, _, _, hb, .inr rfl⟩)⟩⟩
theorem Zk.seen_chg {T : Nat → Prop} (h : Zk w0 gs n v ts st es sn sl wr) (hc : Chg T wr w') (h2 : ¬ T (gs + 1)) (hr : ∀ k, Rowish wr gs k → ¬ T k) :
    ∃ cs : Array Value, Blk w' (gs + 1) 24 cs ∧ cs.size = n ∧ ∀ i, i < n → ∃ u, cs[i]? = some u ∧ SeenR w' (gs + 1 + 1 + 1) (sn i) u := by
  obtain ⟨cs, hb, hs, hi⟩ := h.seen
  exact ⟨cs, hb.chg hc h2, hs, fun i hn => by obtain ⟨u, hu, hx⟩ := hi i hn; exact ⟨u, hu, hx.chg hc hr⟩⟩
theorem Zk.stale_chg {T : Nat → Prop} (h : Zk w0 gs n v ts st es sn sl wr) (hc : Chg T wr w') (h2 : ¬ T (gs + 1 + 1)) (hr : ∀ k, Rowish wr gs k → ¬ T k) :
    ∃ cs : Array Value, Blk w' (gs + 1 + 1) 78 cs ∧ cs.size = n ∧ (∀ i, i < n → ∃ u, cs[i]? = some u ∧ StaleR w' (gs + 1 + 1 + 1) (sl i) u) ∧
      ∀ (i j b b' : Nat), i ≠ j → cs[i]? = some (.slice (some ⟨b, 0, none⟩) 3 3) → cs[j]? = some (.slice (some ⟨b', 0, none⟩) 3 3) → b ≠ b' := by
  obtain ⟨cs, hb, hs, hi, ha⟩ := h.stale
  exact ⟨cs, hb.chg hc h2, hs, fun i hn => by obtain ⟨u, hu, hx⟩ := hi i hn; exact ⟨u, hu, hx.chg hc hr⟩, ha⟩
theorem Zk.chg {T : Nat → Prop} (h : Zk w0 gs n v ts st es sn sl wr) (hc : Chg T wr w') (h0 : ∀ k, T k → w0.heap.size ≤ k) (h1 : ¬ T gs) (h2 : ¬ T (gs + 1)) (h4 : ¬ T (gs + 1 + 1)) (h3 : ∀ k, OT.S v es k → ¬ T k) (hr : ∀ k, Rowish wr gs k → ¬ T k) : Zk w0 gs n v ts st es sn sl w' :=
  ⟨h.own.chg hc h3, h.says, h.store.chg hc h1, h.seen_chg hc h2 hr, h.stale_chg hc h4 hr, Chg.below h.bel hc h0, h.le⟩
theorem Zk.below (h : Zk w0 gs n v ts st es sn sl wr) (hb : Below wr.heap.size wr w') : Zk w0 gs n v ts st es sn sl w' :=
  h.chg (T := fun _ => False) (Chg.of_below hb) (fun _ e => e.elim) id id id (fun _ _ => id) (fun _ _ => id)
theorem Zk.alloc (h : Zk w0 gs n v ts st es sn sl wr) (o : Obj) : Zk w0 gs n v ts st es sn sl (wr.alloc o) := h.below ((Below.refl _ _).alloc (Nat.le_refl _) _)
theorem Zk.drew (h : Zk w0 gs n v ts st es sn sl wr) : Zk w0 gs n v ts st es sn sl wr.drew := h.below (Below.refl _ _).drew
theorem Zk.ne (h : Zk w0 gs n v ts st es sn sl wr) : ¬ OT.S v es gs ∧ ¬ OT.S v es (gs + 1) ∧ ¬ OT.S v es (gs + 1 + 1) := by
  obtain ⟨cs, hb, _⟩ := h.seen
  obtain ⟨cs', hb', _⟩ := h.stale
  exact ⟨h.own.notS h.store (by decide) (by decide), h.own.notS hb (by decide) (by decide), h.own.notS hb' (by decide) (by decide)⟩
theorem Zk.congr (h : Zk w0 gs n v ts st es sn sl wr) {sn' : Nat → Option (List Int)} {sl' : Nat → Option (List Bool)} (h1 : ∀ i, i < n → sn' i = sn i) (h2 : ∀ i, i < n → sl' i = sl i) : Zk w0 gs n v ts st es sn' sl' wr := by
  refine ⟨h.own, h.says, h.store, ?_, ?_, h.bel, h.le⟩
  · obtain ⟨cs, hb, hs, hi⟩ := h.seen
    exact ⟨cs, hb, hs, fun i hn => by rw [h1 i hn]; exact hi i hn⟩
  · obtain ⟨cs, hb, hs, hi, ha⟩ := h.stale
    exact ⟨cs, hb, hs, fun i hn => by rw [h2 i hn]; exact hi i hn, ha⟩
/-- The store written. -/
theorem Zk.putS (h : Zk w0 gs n v ts st es sn sl wr) (i : Nat) (x : Int) : Zk w0 gs n v ts (st.set i x) es sn sl (wr.setCell ⟨gs, i, none⟩ (.int .i64 x)) := by
  have hle := h.le
  have hc := Chg.setCell (w := wr) (S := fun k => k = gs) (p := ⟨gs, i, none⟩) rfl (.int .i64 x)
  have K := h.store.set_ i (.int .i64 x)
  rw [storeC_set] at K
  exact ⟨h.own.chg hc (fun k hk e => h.ne.1 (e ▸ hk)), h.says, K, h.seen_chg hc (by omega) (fun k hk e => by have := hk.1; omega), h.stale_chg hc (by omega) (fun k hk e => by have := hk.1; omega), Chg.below h.bel hc (fun k hk => by omega), h.le⟩
/-- One more operation. -/
theorem Zk.add {g c : Nat} (h : Zk w0 gs n (.slice (some ⟨g, 0, none⟩) n c) ts st es sn sl wr) {j : Nat} {t : Tx} {u : Value} (he : es[j]? = some (t.1, (u, t.2.1.length, flat3 t.2.1), t.2.2))
    (hg : wr.grownBy w' u.ownBlock) {u' : Value} {o : T3} {L : Nat} (ho : O3 61 w' w0.heap.size u' L (t.2.1 ++ [o])) (hq : u'.ownBlock = u.ownBlock ∨ u'.ownBlock = some wr.heap.size) :
    Zk w0 gs n (.slice (some ⟨g, 0, none⟩) n c) (ts.set j (t.1, t.2.1 ++ [o], t.2.2)) st (es.set j (t.1, (u', L, flat3 (t.2.1 ++ [o])), t.2.2)) sn sl (w'.setCell ⟨g, j * 3 + 1, none⟩ u') := by
  have hlg := h.own.base
  have D1 := h.own.append he hg (q := (u', L, flat3 (t.2.1 ++ [o]))) ho.of (hq.imp id (fun e k hk => by rw [e] at hk; injection hk with hk; omega))
  have hc := (Chg.of_grown (S := fun k => u.ownBlock = some k ∨ k = g) hg (fun k e => .inl e)).trans (Chg.setCell (p := ⟨g, j * 3 + 1, none⟩) (.inr rfl) u')
  have hS : ∀ k, (u.ownBlock = some k ∨ k = g) → OT.S (.slice (some ⟨g, 0, none⟩) n c) es k := fun k hk => by
    rcases hk with hk | rfl
    · exact .inr ⟨j, _, he, hk⟩
    · exact .inl rfl
  obtain ⟨n1, n2, n3⟩ := h.ne
  exact ⟨D1, h.says.set_ j (t.1, t.2.1 ++ [o], t.2.2) u' L, h.store.chg hc (fun e => n1 (hS _ e)), h.seen_chg hc (fun e => n2 (hS _ e)) (fun k hk e => hk.not h.own (hS k e)), h.stale_chg hc (fun e => n3 (hS _ e)) (fun k hk e => hk.not h.own (hS k e)), Chg.below h.bel hc (fun k hk => (h.own.range k (hS k hk)).1), h.le⟩
theorem Zk.look (h : Zk w0 gs n v ts st es sn sl wr) {n0 : Nat} {t : Tx} (hn : n0 < n) (ht : ts[n0]? = some t) :
    ∃ g cg Au cu, v = .slice (some ⟨g, 0, none⟩) n cg ∧ n ≤ cg ∧ w0.heap.size ≤ g ∧ g < wr.heap.size ∧ es[n0]? = some (t.1, (.slice Au t.2.1.length cu, t.2.1.length, flat3 t.2.1), t.2.2) ∧ t.2.1.length ≤ cu ∧
      wr.cell? ⟨g, n0 * 3, none⟩ = some (.int .i64 t.1) ∧ wr.cell? ⟨g, n0 * 3 + 1, none⟩ = some (.slice Au t.2.1.length cu) ∧ wr.cell? ⟨g, n0 * 3 + 2, none⟩ = some (.bool t.2.2) ∧ O3 61 wr w0.heap.size (.slice Au t.2.1.length cu) t.2.1.length t.2.1 := by
  obtain ⟨u, he, ho⟩ := h.says.ops h.own ht
  rcases h.own.shape with ⟨_, h0⟩ | ⟨g, cg, rfl, hlg, hgs, hnc, hcm, _⟩
  · omega
  obtain ⟨c0, c1, c2⟩ := h.own.cells he
  obtain ⟨Au, cu, rfl, huc, _, _⟩ := ho.form
  exact ⟨g, cg, Au, cu, rfl, hnc, hlg, hgs, he, huc, c0, c1, c2, ho⟩
/-- A transaction's mark set. -/
theorem Zk.done {g cg : Nat} (h : Zk w0 gs n (.slice (some ⟨g, 0, none⟩) n cg) ts st es sn sl wr) {n0 : Nat} {t : Tx} (hn : n0 < n) (ht : ts[n0]? = some t) (b : Bool) :
    ∃ es', Zk w0 gs n (.slice (some ⟨g, 0, none⟩) n cg) (ts.set n0 (t.1, t.2.1, b)) st es' sn sl (wr.setCell ⟨g, n0 * 3 + 2, none⟩ (.bool b)) := by
  obtain ⟨g', cg', Au, cu, hv, hnc, hlg, hgs, he, huc, c0, c1, c2, ho⟩ := h.look hn ht
  obtain ⟨rfl, rfl⟩ : g = g' ∧ cg = cg' := by simpa using hv
  have D12 := h.own.set2 he b
  obtain ⟨n1, n2, n3⟩ := h.ne
  have hc := Chg.setCell (w := wr) (S := fun k => k = g) (p := ⟨g, n0 * 3 + 2, none⟩) rfl (.bool b)
  have hS : ∀ k, k = g → OT.S (.slice (some ⟨g, 0, none⟩) n cg) es k := fun k hk => .inl (by rw [hk]; rfl)
  have hsy := h.says.set_ n0 (t.1, t.2.1, b) (.slice Au t.2.1.length cu) t.2.1.length
  exact ⟨_, D12, hsy, h.store.chg hc (fun e => n1 (hS _ e)), h.seen_chg hc (fun e => n2 (hS _ e)) (fun k hk e => hk.not h.own (hS k e)), h.stale_chg hc (fun e => n3 (hS _ e)) (fun k hk e => hk.not h.own (hS k e)), Chg.below h.bel hc (fun k hk => by omega), h.le⟩
/-- What the cells show. -/
theorem Zk.seenAt (h : Zk w0 gs n v ts st es sn sl wr) {i : Nat} (hi : i < n) : ∃ u, wr.cell? ⟨gs + 1, i, none⟩ = some u ∧ wr.frozen? ⟨gs + 1, i, none⟩ = false ∧ SeenR wr (gs + 1 + 1 + 1) (sn i) u := by
  obtain ⟨cs, hb, hs, hx⟩ := h.seen
  obtain ⟨u, hu, hr⟩ := hx i hi
  exact ⟨u, (hb.cell i).trans hu, hb.frozen i, hr⟩
theorem Zk.staleAt (h : Zk w0 gs n v ts st es sn sl wr) {i : Nat} (hi : i < n) : ∃ u, wr.cell? ⟨gs + 1 + 1, i, none⟩ = some u ∧ wr.frozen? ⟨gs + 1 + 1, i, none⟩ = false ∧ StaleR wr (gs + 1 + 1 + 1) (sl i) u := by
  obtain ⟨cs, hb, hs, hx, _⟩ := h.stale
  obtain ⟨u, hu, hr⟩ := hx i hi
  exact ⟨u, (hb.cell i).trans hu, hb.frozen i, hr⟩
theorem Zk.size (h : Zk w0 gs n v ts st es sn sl wr) : gs + 1 + 1 < wr.heap.size := by obtain ⟨cs, hb, _⟩ := h.stale; exact hb.lt
/-- A draft remembers the store: its copy lies in a row of its own. -/
theorem Zk.setSeen (h : Zk w0 gs n v ts st es sn sl wr) {n0 : Nat} {u : Value} {r : List Int} (ho : OI wr (gs + 1 + 1 + 1) u 3 r) :
    Zk w0 gs n v ts st es (fun i => if i = n0 then some r else sn i) sl (wr.setCell ⟨gs + 1, n0, none⟩ u) := by
  have hle := h.le
  have hc := Chg.setCell (w := wr) (S := fun k => k = gs + 1) (p := ⟨gs + 1, n0, none⟩) rfl u
  have hr : ∀ k, Rowish wr gs k → ¬ k = gs + 1 := fun k hk e => by have := hk.1; omega
  obtain ⟨n1, n2, n3⟩ := h.ne
  refine ⟨h.own.chg hc (fun k hk e => n2 (e ▸ hk)), h.says, h.store.chg hc (by omega), ?_, h.stale_chg hc (by omega) hr, Chg.below h.bel hc (fun k hk => by omega), h.le⟩
  obtain ⟨cs, hb, hs, hx⟩ := h.seen
  refine ⟨_, hb.set_ n0 u, by simpa using hs, fun i hi => ?_⟩
  by_cases e : i = n0
  · subst e
    refine ⟨u, Array.getElem?_setIfInBounds_self_of_lt (by omega), ?_⟩
    have hs2 : SeenR wr (gs + 1 + 1 + 1) (some r) u := ⟨fun e => (by cases e), fun r' e => by injection e with e; subst e; exact ho⟩
    rw [if_pos rfl]
    exact hs2.chg hc hr
  · obtain ⟨u', hu', hr'⟩ := hx i hi
    refine ⟨u', (Array.getElem?_setIfInBounds_ne (fun e' => e e'.symm)).trans hu', ?_⟩
    rw [if_neg e]
    exact hr'.chg hc hr
/-- Nothing is stale for it. -/
theorem Zk.setStale (h : Zk w0 gs n v ts st es sn sl wr) {n0 : Nat} (bs : List Bool) :
    Zk w0 gs n v ts st es sn (fun i => if i = n0 then some bs else sl i) ((wr.alloc (.cells (boolC bs) 4)).setCell ⟨gs + 1 + 1, n0, none⟩ (.slice (some ⟨wr.heap.size, 0, none⟩) 3 3)) := by
  have hle := h.le
  have hz := h.size
  have h' := h.alloc (.cells (boolC bs) 4)
  have KN := Blk.new wr 4 (boolC bs)
  have hc := Chg.setCell (w := wr.alloc (.cells (boolC bs) 4)) (S := fun k => k = gs + 1 + 1) (p := ⟨gs + 1 + 1, n0, none⟩) rfl (.slice (some ⟨wr.heap.size, 0, none⟩) 3 3)
  have hr : ∀ k, Rowish (wr.alloc (.cells (boolC bs) 4)) gs k → ¬ k = gs + 1 + 1 := fun k hk e => by have := hk.1; omega
  obtain ⟨n1, n2, n3⟩ := h'.ne
  refine ⟨h'.own.chg hc (fun k hk e => n3 (e ▸ hk)), h'.says, h'.store.chg hc (by omega), h'.seen_chg hc (by omega) hr, ?_, Chg.below h'.bel hc (fun k hk => by omega), h.le⟩
  obtain ⟨cs, hb, hs, hx, ha⟩ := h.stale
  have hb' := hb.alloc (.cells (boolC bs) 4)
  refine ⟨_, hb'.set_ n0 _, by simpa using hs, fun i hi => ?_, fun i j b b' hij h1 h2 => ?_⟩
  · by_cases e : i = n0
    · subst e
      refine ⟨_, Array.getElem?_setIfInBounds_self_of_lt (by omega), ?_⟩
      have hs2 : StaleR (wr.alloc (.cells (boolC bs) 4)) (gs + 1 + 1 + 1) (some bs) (.slice (some ⟨wr.heap.size, 0, none⟩) 3 3) := ⟨fun e => (by cases e), fun r' e => by injection e with e; subst e; exact ⟨_, rfl, by omega, KN⟩⟩
      rw [if_pos rfl]
      exact hs2.chg hc hr
    · obtain ⟨u', hu', hr'⟩ := hx i hi
      refine ⟨u', (Array.getElem?_setIfInBounds_ne (fun e' => e e'.symm)).trans hu', ?_⟩
      rw [if_neg e]
      have hr2 : StaleR (wr.alloc (.cells (boolC bs) 4)) (gs + 1 + 1 + 1) (sl i) u' := hr'.chg (T := fun _ => False) (Chg.of_below ((Below.refl _ _).alloc (Nat.le_refl _) _)) (fun _ _ => id)
      exact hr2.chg hc hr
  · have hold : ∀ q bq, q ≠ n0 → (cs.setIfInBounds n0 (.slice (some ⟨wr.heap.size, 0, none⟩) 3 3))[q]? = some (.slice (some ⟨bq, 0, none⟩) 3 3) → bq < wr.heap.size ∧ cs[q]? = some (.slice (some ⟨bq, 0, none⟩) 3 3) := fun q bq hq hx1 => by
      rw [Array.getElem?_setIfInBounds_ne (fun e' => hq e'.symm)] at hx1
      have hqn : q < n := by have := (Array.getElem?_eq_some_iff.1 hx1).1; omega
      obtain ⟨u, hu, hu1, hu2⟩ := hx q hqn
      have e1 := hu.symm.trans hx1
      injection e1 with e1
      cases hsl : sl q with
      | none => have := hu1 hsl; rw [this] at e1; cases e1
      | some r =>
        obtain ⟨b2, e2, _, hb2⟩ := hu2 r hsl
        rw [e1] at e2; injection e2 with e2; injection e2 with e2; injection e2 with e2; subst e2
        exact ⟨hb2.lt, hx1⟩
    have hnew : ∀ bq, n0 < n → (cs.setIfInBounds n0 (.slice (some ⟨wr.heap.size, 0, none⟩) 3 3))[n0]? = some (.slice (some ⟨bq, 0, none⟩) 3 3) → bq = wr.heap.size := fun bq hn hx1 => by
      rw [Array.getElem?_setIfInBounds_self_of_lt (by omega)] at hx1
      injection hx1 with hx1; injection hx1 with hx1; injection hx1 with hx1; injection hx1 with hx1; exact hx1.symm
    have hsz : ∀ q bq, (cs.setIfInBounds n0 (.slice (some ⟨wr.heap.size, 0, none⟩) 3 3))[q]? = some (.slice (some ⟨bq, 0, none⟩) 3 3) → q < n := fun q bq hx1 => by
      have := (Array.getElem?_eq_some_iff.1 hx1).1; simp at this; omega
    by_cases e1 : i = n0
    · subst e1
      have h3 := hnew b (hsz _ _ h1) h1
      have h4 := (hold j b' (fun e => hij e.symm) h2).1
      omega
    · by_cases e2 : j = n0
      · subst e2
        have h3 := hnew b' (hsz _ _ h2) h2
        have h4 := (hold i b e1 h1).1
        omega
      · exact ha i j b b' hij (hold i b e1 h1).2 (hold j b' e2 h2).2
/-- One key of one row is stale. -/
theorem Zk.mark (h : Zk w0 gs n v ts st es sn sl wr) {i key : Nat} {b : Nat} {r : List Bool} (hi : i < n) (hs : sl i = some r) (hcell : wr.cell? ⟨gs + 1 + 1, i, none⟩ = some (.slice (some ⟨b, 0, none⟩) 3 3)) :
    Zk w0 gs n v ts st es sn (fun q => if q = i then some (r.set key true) else sl q) (wr.setCell ⟨b, key, none⟩ (.bool true)) := by
  have hle := h.le
  have hc := Chg.setCell (w := wr) (S := fun k => k = b) (p := ⟨b, key, none⟩) rfl (.bool true)
  obtain ⟨cs, hb, hsz, hx, ha⟩ := h.stale
  obtain ⟨u, hu, hu1, hu2⟩ := hx i hi
  have e1 := ((hb.cell i).trans hu).symm.trans hcell
  injection e1 with e1
  subst e1
  obtain ⟨b2, e2, hB, hbb⟩ := hu2 r hs
  injection e2 with e2; injection e2 with e2; injection e2 with e2; subst e2
  have hnb : ∀ k cs' t, Blk wr k t cs' → t ≠ 4 → k ≠ b := fun k cs' t hk ht e => ht ((e ▸ hk).same hbb)
  refine ⟨h.own.chg hc (fun k hk e => h.own.notS hbb (by decide) (by decide) (e ▸ hk)), h.says, h.store.chg hc (by omega), ?_, ?_, Chg.below h.bel hc (fun k hk => by omega), h.le⟩
  · obtain ⟨cs2, hb2, hs2, hx2⟩ := h.seen
    refine ⟨cs2, hb2.chg hc (by omega), hs2, fun q hq => ?_⟩
    obtain ⟨u', hu', hr1, hr2⟩ := hx2 q hq
    exact ⟨u', hu', hr1, fun r' hr' => (hr2 r' hr').chg hc (fun k hk e => by obtain ⟨cs3, hb3, _⟩ := (hr2 r' hr').blk hk; exact hnb k cs3 _ hb3 (by decide) e)⟩
  · refine ⟨cs, hb.chg hc (by omega), hsz, fun q hq => ?_, ha⟩
    obtain ⟨u', hu', hr1, hr2⟩ := hx q hq
    by_cases e : q = i
    · subst e
      have e3 := hu.symm.trans hu'
      injection e3 with e3; subst e3
      refine ⟨_, hu', fun e => by simp at e, fun r' hr' => ?_⟩
      rw [if_pos rfl] at hr'
      injection hr' with hr'; subst hr'
      have K := hbb.set_ key (.bool true)
      rw [boolC_set] at K
      exact ⟨b, rfl, hB, K⟩
    · refine ⟨u', hu', fun hn => hr1 (by rwa [if_neg e] at hn), fun r' hr' => ?_⟩
      rw [if_neg e] at hr'
      obtain ⟨b3, e3, hB3, hb3⟩ := hr2 r' hr'
      subst e3
      exact ⟨b3, rfl, hB3, hb3.chg hc (fun e4 => ha q i b3 b e hu' hu e4)⟩
end
/-- What is stale, out of versions. -/
def staleRow (ver beg : List Int) : List Bool := [!(ver.getD 0 0 == beg.getD 0 0), !(ver.getD 1 0 == beg.getD 1 0), !(ver.getD 2 0 == beg.getD 2 0)]
theorem staleRow_get (ver beg : List Int) {key : Nat} (h : key ≤ 2) : (staleRow ver beg)[key]? = some (!(ver.getD key 0 == beg.getD key 0)) := by
  match key, h with
  | 0, _ => rfl
  | 1, _ => rfl
  | 2, _ => rfl
theorem staleRow_new (ver : List Int) : staleRow ver ver = [false, false, false] := by simp [staleRow]
theorem staleRow_bump {ver beg : List Int} (hl : ver.length = 3) {key : Nat} (hk : key ≤ 2) (h : beg.getD key 0 ≤ ver.getD key 0) : staleRow (ver.set key (ver.getD key 0 + 1)) beg = (staleRow ver beg).set key true := by
  have h0 : ∀ q, (ver.set key (ver.getD key 0 + 1)).getD q 0 = if key = q then ver.getD key 0 + 1 else ver.getD q 0 := fun q => getD_set _ _ _ _ (by omega)
  unfold staleRow
  rw [h0, h0, h0]
  match key, hk, h with
  | 0, _, h => generalize ver.getD 0 0 = a0 at h ⊢; generalize beg.getD 0 0 = b0 at h ⊢; simp; omega
  | 1, _, h => generalize ver.getD 1 0 = a0 at h ⊢; generalize beg.getD 1 0 = b0 at h ⊢; simp; omega
  | 2, _, h => generalize ver.getD 2 0 = a0 at h ⊢; generalize beg.getD 2 0 = b0 at h ⊢; simp; omega
def seenOf (S : Sn) (i : Nat) : Option (List Int) := if (opsOf S.ts i).length = 0 then none else some (S.kept.getD i [])
def staleOf (S : Sn) (i : Nat) : Option (List Bool) := if (opsOf S.ts i).length = 0 then none else some (staleRow S.ver (S.began.getD i []))
end Go.Proofs.YtcfkemchekmjbaaGreatDoor
