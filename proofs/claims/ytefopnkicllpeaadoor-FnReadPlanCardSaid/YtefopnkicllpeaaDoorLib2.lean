/- More words for memory: stores, two cells. -/
import Derived.Test.YtefopnkicllpeaaDoorApp
import Derived.Test.YtefopnkicllpeaaDoorSmall
namespace Go.Proofs.YtefopnkicllpeaaDoor
open Go.RowKit

theorem OI.set_low {w : World} {B n : Nat} {v : Value} {xs : List Int} (h : OI w B v n xs) {p : Addr} (hp : p.block < B) (u : Value) : OI (w.setCell p u) B v n xs := ⟨ownsRow_setCell_below h.1 hp u, h.2⟩
theorem OI.set_far {w w0 : World} {B n : Nat} {v : Value} {xs : List Int} (h : OI w B v n xs) (h0 : OI w0 B v n xs) {p : Addr} (hp : w0.heap.size ≤ p.block) (u : Value) : OI (w.setCell p u) B v n xs :=
  h.grown (grown_setCell (World.grownBy.refl w (some p.block)) (.inl rfl) u) (by
    cases hv : v.ownBlock with
    | none => exact .inl rfl
    | some k => right; intro e; injection e with e; have := (World.ownsRow.lt h0.1 k hv).2; omega)
theorem OI.ne_blk {w : World} {B n g : Nat} {v : Value} {xs : List Int} {t : TypeId} {cs : Array Value} (h : OI w B v n xs) (hb : Blk w g t cs) (ht : t ≠ 3) : v.ownBlock ≠ some g := by
  rcases h.1.2 with ⟨rfl, _⟩ | ⟨g', cap, cur, rfl, _, hh, _⟩
  · simp [Value.ownBlock]
  · intro he
    have e : g' = g := by have h : some g' = some g := he; injection h
    subst e
    unfold Blk at hb; rw [hh] at hb; injection hb with hb; injection hb with _ h2; exact ht h2.symm
theorem Blk.chg2 {w w' : World} {g B n B' n' : Nat} {u v : Value} {xs ys : List Int} {t : TypeId} {cs : Array Value} (h : Blk w g t cs) (hc : Chg (Own2 u v) w w') (hu : OI w B u n xs) (hv : OI w B' v n' ys) (ht : t ≠ 3) : Blk w' g t cs :=
  h.chg hc (fun hs => hs.elim (fun e => hu.ne_blk h ht e) (fun e => hv.ne_blk h ht e))
theorem OI.chg2 {w w' : World} {B n : Nat} {u v x : Value} {xs : List Int} (h : OI w B x n xs) (hc : Chg (Own2 u v) w w') (a : Apart x u) (b : Apart x v) : OI w' B x n xs :=
  h.chg hc (fun _ hk hs => hs.elim (fun e => a.not hk e) (fun e => b.not hk e))
theorem below_chg2 {a w w' : World} {B n B' n' : Nat} {u v : Value} {xs ys : List Int} (h : Below a.heap.size a w) (hc : Chg (Own2 u v) w w') (hu : OI w B u n xs) (hv : OI w B' v n' ys) (h1 : a.heap.size ≤ B) (h2 : a.heap.size ≤ B') : Below a.heap.size a w' :=
  Chg.below h hc (fun _ hs => hs.elim (fun e => hu.grown_le h1 _ e) (fun e => hv.grown_le h2 _ e))
theorem alloc_swap {w : World} {o o' : Obj} {a : Addr} (h : a.block < w.heap.size) : (w.alloc o).cell? a = (w.alloc o').cell? a := (World.cell?_alloc_lt w o a h).trans (World.cell?_alloc_lt w o' a h).symm
theorem below_of_drew {w w' : World} (h : Below w.drew.heap.size w.drew w') : Below w.heap.size w w' := ((Below.refl _ _).drew).trans h
theorem SI.set_ne {w : World} {b off n c : Nat} {xs : List Int} (h : SI w (.slice (some ⟨b, off, none⟩) n c) n xs) {p : Addr} (hp : p.block ≠ b) (u : Value) : SI (w.setCell p u) (.slice (some ⟨b, off, none⟩) n c) n xs := by
  obtain ⟨A, c', h1, h2, h3, h4⟩ := h
  injection h1 with e1 e2 e3; subst e1; subst e3
  refine ⟨_, _, rfl, h2, h3, h4.1, fun hn => ?_⟩
  obtain ⟨b', o', e, hlt, hc⟩ := h4.2 hn
  injection e with e; injection e with e1 e2 _; subst e1; subst e2
  exact ⟨b, off, rfl, by simpa [World.setCell] using hlt, fun k x hx => (World.cell?_setCell_other w p ⟨b, off + k, none⟩ u (fun e => hp (by rw [e]))).trans (hc k x hx)⟩
/-- A slice that lies below block B is read as before behind a store from B on. -/
theorem SI.set_high {w a : World} {v : Value} {n : Nat} {xs : List Int} (h : SI a v n xs) (hb : Below a.heap.size a w) {p : Addr} (hp : a.heap.size ≤ p.block) (u : Value) : SI (w.setCell p u) v n xs := h.below (hb.setCell hp u)
theorem Blk.two {w : World} {g : Nat} {t : TypeId} {a b : Value} (h : Blk w g t #[a, b]) :
    w.cell? ⟨g, 0, none⟩ = some a ∧ w.cell? ⟨g, 1, none⟩ = some b ∧ w.frozen? ⟨g, 0, none⟩ = false ∧ w.frozen? ⟨g, 1, none⟩ = false := ⟨h.cell 0, h.cell 1, h.frozen 0, h.frozen 1⟩
theorem Blk.belowAll {w w' : World} {g : Nat} {t : TypeId} {cs : Array Value} (h : Blk w g t cs) (hb : Below w.heap.size w w') : Blk w' g t cs := h.below hb h.lt
theorem size_setCell (w : World) (p : Addr) (u : Value) : (w.setCell p u).heap.size = w.heap.size := by simp [World.setCell]
theorem below_setCell_self {a w : World} (h : Below a.heap.size a w) {p : Addr} (hp : a.heap.size ≤ p.block) (u : Value) : Below a.heap.size a (w.setCell p u) := h.setCell hp u
theorem cell_set2 {w : World} {g h o : Nat} (hne : h ≠ g) (x y : Value) : ((w.setCell ⟨h, 0, none⟩ x).setCell ⟨h, 1, none⟩ y).cell? ⟨g, o, none⟩ = w.cell? ⟨g, o, none⟩ :=
  (World.cell?_setCell_other _ _ _ _ (fun e => hne (by injection e))).trans (World.cell?_setCell_other _ _ _ _ (fun e => hne (by injection e)))
theorem SI.drew {w : World} {v : Value} {n : Nat} {xs : List Int} (h : SI w v n xs) : SI w.drew v n xs := h.below (Below.refl _ _).drew
theorem SI.of_args {w : World} {A : Option Addr} {n c : Nat} {xs : List Int} (hnc : n ≤ c) (hn : n ≤ 1048576) (h : RI w A n xs) : SI w (.slice A n c) n xs := ⟨A, c, rfl, hnc, hn, h⟩

end Go.Proofs.YtefopnkicllpeaaDoor
