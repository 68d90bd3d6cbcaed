/- Where a run with locks stands in memory. -/
import Derived.Test.YtfcfhgophpoibaaDoorHoldM
namespace Go.Proofs.YtfcfhgophpoibaaDoor
open Go.RowKit Go.Maps

/-- The machine, the store, the locks. -/
structure Lk (w0 : World) (sb : Nat) (A : Option Addr) (n c : Nat) (v : Value) (ts : List Tx) (st ow : List Int) (q : Nat) (es : List El) (wr : World) : Prop where
  mach : Mach wr (w0.heap.size + 1) w0.heap.size A n c v ts es
  store : Blk wr sb 51 (storeC st)
  hold : HoldM wr (sb + 1) q ow
  bel : Below w0.heap.size w0 wr
  le : w0.heap.size < sb
section
variable {w0 wr w' : World} {sb n c q : Nat} {A : Option Addr} {v : Value} {ts : List Tx} {st ow : List Int} {es : List El}
theorem Lk.ne_store (h : Lk w0 sb A n c v ts st ow q es wr) : ¬ OT.S v es sb := h.mach.own.notS h.store (by decide) (by decide)
theorem Lk.ne_hold (h : Lk w0 sb A n c v ts st ow q es wr) : ¬ OT.S v es (sb + 1) := HoldM.notT h.mach.own h.hold
theorem Lk.chg {S : Nat → Prop} (h : Lk w0 sb A n c v ts st ow q es wr) (hc : Chg S wr w') (h0 : ∀ k, S k → w0.heap.size < k) (h1 : ¬ S sb) (h2 : ¬ S (sb + 1)) (h3 : ∀ k, OT.S v es k → ¬ S k) : Lk w0 sb A n c v ts st ow q es w' :=
  ⟨h.mach.chg hc (fun hs => by have := h0 _ hs; omega) h3, h.store.chg hc h1, h.hold.chg hc h2, Chg.below h.bel hc (fun k hk => Nat.le_of_lt (h0 k hk)), h.le⟩
theorem Lk.below (h : Lk w0 sb A n c v ts st ow q es wr) (hb : Below wr.heap.size wr w') : Lk w0 sb A n c v ts st ow q es w' :=
  h.chg (S := fun _ => False) (Chg.of_below hb) (fun _ e => e.elim) id id (fun _ _ => id)
theorem Lk.alloc (h : Lk w0 sb A n c v ts st ow q es wr) (o : Obj) : Lk w0 sb A n c v ts st ow q es (wr.alloc o) := h.below ((Below.refl _ _).alloc (Nat.le_refl _) _)
theorem Lk.mono {q' : Nat} (h : Lk w0 sb A n c v ts st ow q es wr) (hq : q ≤ q') : Lk w0 sb A n c v ts st ow q' es wr := ⟨h.mach, h.store, h.hold.mono hq, h.bel, h.le⟩
/-- A store into a cell of another block. -/
theorem Lk.other {x : Nat} (h : Lk w0 sb A n c v ts st ow q es wr) (hx : sb + 1 < x) (ho : ∀ k, OT.S v es k → k < x) (i : Nat) (u : Value) : Lk w0 sb A n c v ts st ow q es (wr.setCell ⟨x, i, none⟩ u) := by
  have hle := h.le
  exact h.chg (Chg.setCell (S := fun k => k = x) (p := ⟨x, i, none⟩) rfl u) (fun k hk => by omega) (by omega) (by omega) (fun k hk e => by have := ho k hk; omega)
/-- Behind 'did'. -/
theorem Lk.did {ts' : List Tx} {es' : List El} (h : Lk w0 sb A n c v ts st ow q es wr) (M : Mach w' (w0.heap.size + 1) w0.heap.size A n c v ts' es') (hc : Chg (OT.S v es) wr w') : Lk w0 sb A n c v ts' st ow q es' w' :=
  ⟨M, h.store.chg hc h.ne_store, h.hold.chg hc h.ne_hold, Chg.below h.bel hc (fun k hk => by have := (h.mach.own.range k hk).1; omega), h.le⟩
/-- A number stored into the store. -/
theorem Lk.put (h : Lk w0 sb A n c v ts st ow q es wr) (i : Nat) (x : Int) : Lk w0 sb A n c v ts (st.set i x) ow q es (wr.setCell ⟨sb, i, none⟩ (.int .i64 x)) := by
  have hle := h.le
  have hc := Chg.setCell (w := wr) (S := fun k => k = sb) (p := ⟨sb, i, none⟩) rfl (.int .i64 x)
  have K := h.store.set_ i (.int .i64 x)
  rw [storeC_set] at K
  exact ⟨h.mach.chg hc (by omega) (fun k hk e => h.ne_store (e ▸ hk)), K, h.hold.chg hc (by omega), Chg.below h.bel hc (fun k hk => by omega), h.le⟩
/-- The map of the locks turned. -/
theorem Lk.turn {ow' : List Int} {q' : Nat} (h : Lk w0 sb A n c v ts st ow q es wr) (hg : wr.grownBy w' (some (sb + 1))) (hm : HoldM w' (sb + 1) q' ow') : Lk w0 sb A n c v ts st ow' q' es w' := by
  have hle := h.le
  have hc := Chg.of_grown (S := fun k => k = sb + 1) hg (fun k e => by injection e with e; exact e.symm)
  exact ⟨h.mach.chg hc (by omega) (fun k hk e => h.ne_hold (e ▸ hk)), h.store.chg hc (by omega), hm, Chg.below h.bel hc (fun k hk => by omega), h.le⟩
/-- A transaction's mark set. -/
theorem Lk.done {g cg : Nat} (h : Lk w0 sb A n c (.slice (some ⟨g, 0, none⟩) n cg) ts st ow q es wr) {n0 : Nat} {t : Tx} (hn : n0 < n) (ht : ts[n0]? = some t) :
    ∃ es', Lk w0 sb A n c (.slice (some ⟨g, 0, none⟩) n cg) (ts.set n0 (t.1, t.2.1, true)) st ow q es' (wr.setCell ⟨g, n0 * 3 + 2, none⟩ (.bool true)) := by
  obtain ⟨g', cg', Au, cu, hv, hnc, hlg, hgs, he, huc, c1, c2, ho⟩ := h.mach.look hn ht
  obtain ⟨rfl, rfl⟩ : g = g' ∧ cg = cg' := by simpa using hv
  have hle := h.le
  have D12 := h.mach.own.set2 he true
  have hgm : w0.heap.size ≠ g := by omega
  have hgs12 : sb ≠ g := fun e => h.ne_store (.inl (by rw [e]; rfl))
  have hgh12 : sb + 1 ≠ g := fun e => h.ne_hold (.inl (by rw [e]; rfl))
  have hsy := h.mach.says.set_ n0 (t.1, t.2.1, true) (.slice Au t.2.1.length cu) t.2.1.length
  exact ⟨_, ⟨h.mach.box.far (p := ⟨g, n0 * 3 + 2, none⟩) hgm (.bool true), D12, hsy, by omega⟩, h.store.far (p := ⟨g, n0 * 3 + 2, none⟩) hgs12 (.bool true),
    h.hold.chg (Chg.setCell (S := fun k => k = g) (p := ⟨g, n0 * 3 + 2, none⟩) rfl (.bool true)) hgh12, h.bel.setCell (p := ⟨g, n0 * 3 + 2, none⟩) (by show w0.heap.size ≤ g; omega) (.bool true), h.le⟩
end
theorem freeTo_len (n : Nat) (ow : List Int) (j : Nat) : (freeTo n ow j).length = ow.length := by unfold freeTo freeO; simp; omega
theorem commitTo_len (os : List T3) (st : List Int) (j : Nat) : (commitTo os st j).length = st.length := by
  unfold commitTo
  generalize (lastW os).take j = l
  induction l generalizing st with
  | nil => rfl
  | cons a l ih => rw [List.foldl_cons, ih]; simp
/-- What the map of locks says at a key, while they are given back. -/
theorem freeTo_hold {n : Nat} {ow : List Int} {j : Nat} {x : Int} (h : ow[j]? = some x) : holdB (freeTo n ow j) j = !decide (x = 0) ∧ holdV (freeTo n ow j) j = if x = 0 then 0 else x - 1 := by
  unfold holdB holdV
  have : (freeTo n ow j).getD j 0 = x := by rw [List.getD_eq_getElem?_getD, freeTo_at n h]; rfl
  rw [this]; exact ⟨rfl, rfl⟩
/-- A lock that may be taken: free, or one's own. -/
theorem lock_free {ow : List Int} {sy n0 : Nat} (h : ¬ (ow.getD sy 0 ≠ 0 ∧ ow.getD sy 0 ≠ (n0 : Int) + 1)) : (holdB ow sy = false ∧ holdV ow sy = 0) ∨ (holdB ow sy = true ∧ holdV ow sy = (n0 : Int)) := by
  unfold holdB holdV
  by_cases h0 : ow.getD sy 0 = 0
  · left; rw [h0]; exact ⟨by simp, by simp⟩
  · right
    have h1 : ow.getD sy 0 = (n0 : Int) + 1 := by omega
    rw [h1]; exact ⟨by simp; omega, by rw [if_neg (by omega)]; omega⟩

end Go.Proofs.YtfcfhgophpoibaaDoor
