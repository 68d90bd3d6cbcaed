/- Where the reference's run with locks stands in memory. -/
import Derived.Test.YtfcfhgophpoibaaDoorLockM
import Derived.Test.YtfcfhgophpoibaaDoorLwS2
namespace Go.Proofs.YtfcfhgophpoibaaDoor
open Go.RowKit

/-- The history, the store, the owners. -/
structure Sk (w0 : World) (gs n : Nat) (v : Value) (ts : List Tx) (st ow : List Int) (es : List El) (wr : World) : Prop where
  own : OT wr w0.heap.size v n es
  says : SaysT es ts
  store : Blk wr gs 3 (storeC st)
  owner : Blk wr (gs + 1) 3 (storeC ow)
  bel : Below w0.heap.size w0 wr
  le : w0.heap.size ≤ gs
section
variable {w0 wr w' : World} {gs n : Nat} {v : Value} {ts : List Tx} {st ow : List Int} {es : List El}
theorem Sk.ne_store (h : Sk w0 gs n v ts st ow es wr) : ¬ OT.S v es gs := h.own.notS h.store (by decide) (by decide)
theorem Sk.ne_owner (h : Sk w0 gs n v ts st ow es wr) : ¬ OT.S v es (gs + 1) := h.own.notS h.owner (by decide) (by decide)
theorem Sk.chg {S : Nat → Prop} (h : Sk w0 gs n v ts st ow es wr) (hc : Chg S wr w') (h0 : ∀ k, S k → w0.heap.size ≤ k) (h1 : ¬ S gs) (h2 : ¬ S (gs + 1)) (h3 : ∀ k, OT.S v es k → ¬ S k) : Sk w0 gs n v ts st ow es w' :=
  ⟨h.own.chg hc h3, h.says, h.store.chg hc h1, h.owner.chg hc h2, Chg.below h.bel hc h0, h.le⟩
theorem Sk.below (h : Sk w0 gs n v ts st ow es wr) (hb : Below wr.heap.size wr w') : Sk w0 gs n v ts st ow es w' :=
  h.chg (S := fun _ => False) (Chg.of_below hb) (fun _ e => e.elim) id id (fun _ _ => id)
theorem Sk.alloc (h : Sk w0 gs n v ts st ow es wr) (o : Obj) : Sk w0 gs n v ts st ow es (wr.alloc o) := h.below ((Below.refl _ _).alloc (Nat.le_refl _) _)
theorem Sk.drew (h : Sk w0 gs n v ts st ow es wr) : Sk w0 gs n v ts st ow es wr.drew := h.below (Below.refl _ _).drew
theorem Sk.putS (h : Sk w0 gs n v ts st ow es wr) (i : Nat) (x : Int) : Sk w0 gs n v ts (st.set i x) ow es (wr.setCell ⟨gs, i, none⟩ (.int .i64 x)) := by
  have hle := h.le
  have hc := Chg.setCell (w := wr) (S := fun k => k = gs) (p := ⟨gs, i, none⟩) rfl (.int .i64 x)
  have K := h.store.set_ i (.int .i64 x)
  rw [storeC_set] at K
  exact ⟨h.own.chg hc (fun k hk e => h.ne_store (e ▸ hk)), h.says, K, h.owner.chg hc (by omega), Chg.below h.bel hc (fun k hk => by omega), h.le⟩
theorem Sk.putO (h : Sk w0 gs n v ts st ow es wr) (i : Nat) (x : Int) : Sk w0 gs n v ts st (ow.set i x) es (wr.setCell ⟨gs + 1, i, none⟩ (.int .i64 x)) := by
  have hle := h.le
  have hc := Chg.setCell (w := wr) (S := fun k => k = gs + 1) (p := ⟨gs + 1, i, none⟩) rfl (.int .i64 x)
  have K := h.owner.set_ i (.int .i64 x)
  rw [storeC_set] at K
  exact ⟨h.own.chg hc (fun k hk e => h.ne_owner (e ▸ hk)), h.says, h.store.chg hc (by omega), K, Chg.below h.bel hc (fun k hk => by omega), h.le⟩
/-- One more operation. -/
theorem Sk.add {g c : Nat} (h : Sk w0 gs n (.slice (some ⟨g, 0, none⟩) n c) ts st ow es wr) {j : Nat} {t : Tx} {u : Value} (he : es[j]? = some (t.1, (u, t.2.1.length, flat3 t.2.1), t.2.2))
    (hg : wr.grownBy w' u.ownBlock) {u' : Value} {o : T3} {L : Nat} (ho : O3 53 w' w0.heap.size u' L (t.2.1 ++ [o])) (hq : u'.ownBlock = u.ownBlock ∨ u'.ownBlock = some wr.heap.size) :
    Sk w0 gs n (.slice (some ⟨g, 0, none⟩) n c) (ts.set j (t.1, t.2.1 ++ [o], t.2.2)) st ow (es.set j (t.1, (u', L, flat3 (t.2.1 ++ [o])), t.2.2)) (w'.setCell ⟨g, j * 3 + 1, none⟩ u') := by
  have hjl := (List.getElem?_eq_some_iff.1 he).1
  have hlg := h.own.base
  have h1 : gs ≠ g := fun e => h.ne_store (.inl (by rw [e]; rfl))
  have h2 : gs + 1 ≠ g := fun e => h.ne_owner (.inl (by rw [e]; rfl))
  have D1 := h.own.append he hg (q := (u', L, flat3 (t.2.1 ++ [o]))) ho.of (hq.imp id (fun e k hk => by rw [e] at hk; injection hk with hk; omega))
  have hc := Chg.of_grown (S := fun k => u.ownBlock = some k) hg (fun k e => e)
  refine ⟨D1, h.says.set_ j (t.1, t.2.1 ++ [o], t.2.2) u' L, ?_, ?_, ?_, h.le⟩
  · exact (h.store.chg hc (fun e => h.ne_store (.inr ⟨j, _, he, e⟩))).far h1 _
  · exact (h.owner.chg hc (fun e => h.ne_owner (.inr ⟨j, _, he, e⟩))).far h2 _
  · exact (Chg.below h.bel hc (fun k hk => (h.own.range k (.inr ⟨j, _, he, hk⟩)).1)).setCell (p := ⟨g, j * 3 + 1, none⟩) hlg.1 _
/-- What the history's row shows at a place. -/
theorem Sk.look (h : Sk w0 gs n v ts st ow es wr) {n0 : Nat} {t : Tx} (hn : n0 < n) (ht : ts[n0]? = some t) :
    ∃ g cg Au cu, v = .slice (some ⟨g, 0, none⟩) n cg ∧ n ≤ cg ∧ w0.heap.size ≤ g ∧ g < wr.heap.size ∧ es[n0]? = some (t.1, (.slice Au t.2.1.length cu, t.2.1.length, flat3 t.2.1), t.2.2) ∧ t.2.1.length ≤ cu ∧
      wr.cell? ⟨g, n0 * 3, none⟩ = some (.int .i64 t.1) ∧ wr.cell? ⟨g, n0 * 3 + 1, none⟩ = some (.slice Au t.2.1.length cu) ∧ wr.cell? ⟨g, n0 * 3 + 2, none⟩ = some (.bool t.2.2) ∧ O3 53 wr w0.heap.size (.slice Au t.2.1.length cu) t.2.1.length t.2.1 := by
  obtain ⟨u, he, ho⟩ := h.says.ops h.own ht
  rcases h.own.shape with ⟨_, h0⟩ | ⟨g, cg, rfl, hlg, hgs, hnc, hcm, _⟩
  · omega
  obtain ⟨c0, c1, c2⟩ := h.own.cells he
  obtain ⟨Au, cu, rfl, huc, _, _⟩ := ho.form
  exact ⟨g, cg, Au, cu, rfl, hnc, hlg, hgs, he, huc, c0, c1, c2, ho⟩
/-- A transaction's mark set. -/
theorem Sk.done {g cg : Nat} (h : Sk w0 gs n (.slice (some ⟨g, 0, none⟩) n cg) ts st ow es wr) {n0 : Nat} {t : Tx} (hn : n0 < n) (ht : ts[n0]? = some t) (b : Bool) :
    ∃ es', Sk w0 gs n (.slice (some ⟨g, 0, none⟩) n cg) (ts.set n0 (t.1, t.2.1, b)) st ow es' (wr.setCell ⟨g, n0 * 3 + 2, none⟩ (.bool b)) := by
  obtain ⟨g', cg', Au, cu, hv, hnc, hlg, hgs, he, huc, c0, c1, c2, ho⟩ := h.look hn ht
  obtain ⟨rfl, rfl⟩ : g = g' ∧ cg = cg' := by simpa using hv
  have D12 := h.own.set2 he b
  have h1 : gs ≠ g := fun e => h.ne_store (.inl (by rw [e]; rfl))
  have h2 : gs + 1 ≠ g := fun e => h.ne_owner (.inl (by rw [e]; rfl))
  have hsy := h.says.set_ n0 (t.1, t.2.1, b) (.slice Au t.2.1.length cu) t.2.1.length
  exact ⟨_, D12, hsy, h.store.far (p := ⟨g, n0 * 3 + 2, none⟩) h1 (.bool b), h.owner.far (p := ⟨g, n0 * 3 + 2, none⟩) h2 (.bool b), h.bel.setCell (p := ⟨g, n0 * 3 + 2, none⟩) hlg (.bool b), h.le⟩
end

end Go.Proofs.YtfcfhgophpoibaaDoor
