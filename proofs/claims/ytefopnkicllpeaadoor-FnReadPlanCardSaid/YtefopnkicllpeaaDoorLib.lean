/- Words for memory, for the texts of this seat: a slice that reads as integers ('RI'), a slice of the call's own ('OI'), a block that is known whole ('Blk'). -/
import Derived.Test.YtefopnkicllpeaaDoorRows
import Derived.WalkKit
import Derived.WalkSpells
import Derived.WalkLawsBesides
import Derived.Lib.Hide
import Derived.Deep.Draws
namespace Go.Proofs.YtefopnkicllpeaaDoor
open Go.RowKit

theorem hide {p : Prop} (h : p) : Hid p := h

theorem bcell {W w1 : World} (hb : Below W.heap.size W w1) : (∀ b o, b < W.heap.size → w1.cell? ⟨b, o, none⟩ = W.cell? ⟨b, o, none⟩) ∧ (∀ b o, b < W.heap.size → w1.frozen? ⟨b, o, none⟩ = W.frozen? ⟨b, o, none⟩) :=
  ⟨fun b o h => hb.cell (p := ⟨b, o, none⟩) h, fun b o h => hb.frozen (p := ⟨b, o, none⟩) h⟩

theorem below_drewN {B : Nat} {a w : World} (h : Below B a w) (n : Nat) : Below B a (w.drewN n) := ⟨h.os, h.tape, h.output, h.size, h.block⟩
/-- Two steps, each of which leaves all that was there. -/
theorem below_step {a b c : World} (h : Below a.heap.size a b) (k : Below b.heap.size b c) : Below a.heap.size a c := h.trans (k.mono h.size)

/-- Block g is just the cells cs of element type t, none frozen. -/
def Blk (w : World) (g : Nat) (t : TypeId) (cs : Array Value) : Prop := w.heap[g]? = some (.cells cs t (0, 0))
section
variable {w w' : World} {g : Nat} {t : TypeId} {cs : Array Value}
theorem Blk.lt (h : Blk w g t cs) : g < w.heap.size := by
  rcases Nat.lt_or_ge g w.heap.size with hlt | hge
  · exact hlt
  · unfold Blk at h; rw [Array.getElem?_eq_none hge] at h; cases h
theorem Blk.cell (h : Blk w g t cs) (i : Nat) : w.cell? ⟨g, i, none⟩ = cs[i]? := cell_of_row w g i cs t (0, 0) h
theorem Blk.frozen (h : Blk w g t cs) (i : Nat) : w.frozen? ⟨g, i, none⟩ = false := by
  unfold Blk at h
  simp [World.frozen?, h]
theorem Blk.new (w : World) (t : TypeId) (cs : Array Value) : Blk (w.alloc (.cells cs t)) w.heap.size t cs := heap_alloc_new w _
theorem Blk.drew (h : Blk w g t cs) : Blk w.drew g t cs := h
theorem Blk.drewN (h : Blk w g t cs) (n : Nat) : Blk (w.drewN n) g t cs := h
theorem Blk.alloc (h : Blk w g t cs) (o : Obj) : Blk (w.alloc o) g t cs := (Below.heap_alloc w o g h.lt).trans h
theorem Blk.set_ (h : Blk w g t cs) (i : Nat) (u : Value) : Blk (w.setCell ⟨g, i, none⟩ u) g t (cs.setIfInBounds i u) := by
  unfold Blk at h ⊢
  simp [World.setCell, Array.getElem?_modify, h]
theorem Blk.far (h : Blk w g t cs) {p : Addr} (hp : g ≠ p.block) (u : Value) : Blk (w.setCell p u) g t cs := (Below.heap_setCell w p u g hp).trans h
theorem Blk.below {B : Nat} (h : Blk w g t cs) (hb : Below B w w') (hg : g < B) : Blk w' g t cs := (hb.block g hg).trans h
theorem Blk.grown {row : Option Nat} (h : Blk w g t cs) (hb : w.grownBy w' row) (hg : some g ≠ row) : Blk w' g t cs := (hb.block g h.lt hg).trans h
end

/-- Four cells that are known, and that they may be written. -/
theorem Blk.four {w : World} {g : Nat} {t : TypeId} {a b c d : Value} (h : Blk w g t #[a, b, c, d]) :
    (w.cell? ⟨g, 0, none⟩ = some a ∧ w.cell? ⟨g, 1, none⟩ = some b ∧ w.cell? ⟨g, 2, none⟩ = some c ∧ w.cell? ⟨g, 3, none⟩ = some d) ∧
    (w.frozen? ⟨g, 0, none⟩ = false ∧ w.frozen? ⟨g, 1, none⟩ = false ∧ w.frozen? ⟨g, 2, none⟩ = false ∧ w.frozen? ⟨g, 3, none⟩ = false) :=
  ⟨⟨h.cell 0, h.cell 1, h.cell 2, h.cell 3⟩, h.frozen 0, h.frozen 1, h.frozen 2, h.frozen 3⟩

theorem Blk.set4 {w : World} {g : Nat} {t : TypeId} {a b c d : Value} (h : Blk w g t #[a, b, c, d]) (x y z u : Value) :
    Blk ((((w.setCell ⟨g, 0, none⟩ x).setCell ⟨g, 1, none⟩ y).setCell ⟨g, 2, none⟩ z).setCell ⟨g, 3, none⟩ u) g t #[x, y, z, u] := (((h.set_ 0 x).set_ 1 y).set_ 2 z).set_ 3 u
theorem Blk.far4 {w : World} {g k : Nat} {t : TypeId} {cs : Array Value} (h : Blk w g t cs) (hne : g ≠ k) (x y z u : Value) :
    Blk ((((w.setCell ⟨k, 0, none⟩ x).setCell ⟨k, 1, none⟩ y).setCell ⟨k, 2, none⟩ z).setCell ⟨k, 3, none⟩ u) g t cs := (((h.far (p := ⟨k, 0, none⟩) hne x).far (p := ⟨k, 1, none⟩) hne y).far (p := ⟨k, 2, none⟩) hne z).far (p := ⟨k, 3, none⟩) hne u
theorem below_set4 {B : Nat} {a w : World} (h : Below B a w) {k : Nat} (hk : B ≤ k) (x y z u : Value) :
    Below B a ((((w.setCell ⟨k, 0, none⟩ x).setCell ⟨k, 1, none⟩ y).setCell ⟨k, 2, none⟩ z).setCell ⟨k, 3, none⟩ u) :=
  (((h.setCell (p := ⟨k, 0, none⟩) hk x).setCell (p := ⟨k, 1, none⟩) hk y).setCell (p := ⟨k, 2, none⟩) hk z).setCell (p := ⟨k, 3, none⟩) hk u

/-- The cells of a slice at address A, n elements: the integers xs. -/
def RI (w : World) (A : Option Addr) (n : Nat) (xs : List Int) : Prop :=
  xs.length = n ∧ (0 < n → ∃ b off, A = some ⟨b, off, none⟩ ∧ b < w.heap.size ∧ ∀ (k : Nat) (x : Int), xs[k]? = some x → w.cell? ⟨b, off + k, none⟩ = some (.int .i64 x))
theorem RI.len {w : World} {A : Option Addr} {n : Nat} {xs : List Int} (h : RI w A n xs) : xs.length = n := h.1
theorem RI.nil {w : World} {A : Option Addr} : RI w A 0 [] := ⟨rfl, fun h => absurd h (by omega)⟩
theorem RI.below {w w' : World} {A : Option Addr} {n : Nat} {xs : List Int} (h : RI w A n xs) (hb : Below w.heap.size w w') : RI w' A n xs :=
  ⟨h.1, fun hn => by
    obtain ⟨b, off, e, hlt, hc⟩ := h.2 hn
    exact ⟨b, off, e, Nat.lt_of_lt_of_le hlt hb.size, fun k x hx => (hb.cell (p := ⟨b, off + k, none⟩) hlt).trans (hc k x hx)⟩⟩
theorem RI.at_ {w : World} {A : Option Addr} {n : Nat} {xs : List Int} (h : RI w A n xs) {k : Nat} (hk : k < n) :
    ∃ b off x, A = some ⟨b, off, none⟩ ∧ b < w.heap.size ∧ xs[k]? = some x ∧ w.cell? ⟨b, off + k, none⟩ = some (.int .i64 x) := by
  obtain ⟨b, off, e, hlt, hc⟩ := h.2 (by omega)
  have hl : k < xs.length := by have := h.1; omega
  exact ⟨b, off, xs[k], e, hlt, List.getElem?_eq_getElem hl, hc k _ (List.getElem?_eq_getElem hl)⟩

theorem intInfo : (Tryd.prog.info? 3).map (fun i => (i.zero, i.size, i.bytes)) = some (some (.int .i64 0), 1, 8) := by kernel_rfl

/-- The value v is a slice of n integers that reads as xs. -/
def SI (w : World) (v : Value) (n : Nat) (xs : List Int) : Prop := ∃ A c, v = .slice A n c ∧ n ≤ c ∧ n ≤ 1048576 ∧ RI w A n xs
theorem SI.below {w w' : World} {v : Value} {n : Nat} {xs : List Int} (h : SI w v n xs) (hb : Below w.heap.size w w') : SI w' v n xs := by
  obtain ⟨A, c, h1, h2, h3, h4⟩ := h
  exact ⟨A, c, h1, h2, h3, h4.below hb⟩
theorem SI.len {w : World} {v : Value} {n : Nat} {xs : List Int} (h : SI w v n xs) : xs.length = n := by obtain ⟨A, c, h1, h2, h3, h4⟩ := h; exact h4.1
theorem SI.bd {w : World} {v : Value} {n : Nat} {xs : List Int} (h : SI w v n xs) : n ≤ 1048576 := by obtain ⟨A, c, h1, h2, h3, h4⟩ := h; exact h3

/-- A row whose first cells are known, as a slice that is read. -/
theorem SI.of_blk {w : World} {g n c : Nat} {t : TypeId} {cs : Array Value} {xs : List Int} (h : Blk w g t cs) (hx : ∀ (k : Nat) (x : Int), xs[k]? = some x → cs[k]? = some (.int .i64 x)) (hn : xs.length = n) (hnc : n ≤ c) (hm : n ≤ 1048576) :
    SI w (.slice (some ⟨g, 0, none⟩) n c) n xs :=
  ⟨_, _, rfl, hnc, hm, hn, fun _ => ⟨g, 0, rfl, h.lt, fun k x hk => by rw [Nat.zero_add, h.cell]; exact hx k x hk⟩⟩
theorem get_ints {xs : List Int} (k : Nat) (x : Int) (h : xs[k]? = some x) : (xs.map (Value.int .i64)).toArray[k]? = some (.int .i64 x) := by simp [h]

/-- The slice value v, n elements, is the call's own (nil, or a row from block B on), and reads as the integers xs. -/
def OI (w : World) (B : Nat) (v : Value) (n : Nat) (xs : List Int) : Prop := w.ownsRow B 3 1 v n (xs.map (Value.int .i64)) ∧ n ≤ 1048576

section
variable {w w' : World} {B B' : Nat} {v : Value} {n : Nat} {xs : List Int}
theorem OI.len (h : OI w B v n xs) : xs.length = n := by have := h.1.1; simpa using this
theorem OI.form (h : OI w B v n xs) :
    ∃ A c, v = .slice A n c ∧ n ≤ c ∧ c ≤ maxLen ∧ RI w A n xs ∧ (A = none → n = 0 ∧ c = 0) ∧ (∀ a, A = some a → ∃ g, a = ⟨g, 0, none⟩ ∧ B ≤ g ∧ g < w.heap.size) := by
  have hl := h.len
  obtain ⟨⟨h1, h2⟩, _⟩ := h
  rcases h2 with ⟨rfl, hn⟩ | ⟨g, cap, cur, rfl, hB, hg, hc, hm, hs, ht⟩
  · subst hn
    have hx : xs = [] := List.eq_nil_of_length_eq_zero hl
    subst hx
    exact ⟨none, 0, rfl, by simp, by simp [maxLen], RI.nil, fun _ => ⟨rfl, rfl⟩, fun a ha => by cases ha⟩
  · refine ⟨some ⟨g, 0, none⟩, cap, rfl, hc, hm, ⟨hl, fun _ => ⟨g, 0, rfl, Blk.lt hg, fun k x hx => ?_⟩⟩, (fun h => by cases h), fun a ha => ?_⟩
    · rw [Blk.cell (t := 3) (cs := cur) hg]
      have : (cur.toList.take (n * 1))[k]? = some (.int .i64 x) := by rw [ht]; simp [hx]
      rw [List.getElem?_take] at this
      split at this
      · simpa using this
      · cases this
    · injection ha with ha
      exact ⟨g, ha.symm, hB, Blk.lt hg⟩
theorem OI.si (h : OI w B v n xs) : SI w v n xs := by
  obtain ⟨A, c, h1, h2, _, h4, _⟩ := h.form
  exact ⟨A, c, h1, h2, h.2, h4⟩
theorem OI.below (h : OI w B v n xs) (hb : Below w.heap.size w w') : OI w' B v n xs :=
  ⟨h.1.kept (row := none) ⟨hb.os, hb.tape, hb.output, hb.size, fun k hk _ => hb.block k hk⟩ (by cases hv : v.ownBlock <;> simp), h.2⟩
theorem OI.grown {row : Option Nat} (h : OI w B v n xs) (hg : w.grownBy w' row) (hne : v.ownBlock = none ∨ v.ownBlock ≠ row) : OI w' B v n xs := ⟨h.1.kept hg hne, h.2⟩
theorem OI.mono (h : OI w B v n xs) (hB : B' ≤ B) : OI w B' v n xs := by
  obtain ⟨⟨h1, h2⟩, h3⟩ := h
  refine ⟨⟨h1, ?_⟩, h3⟩
  rcases h2 with h2 | ⟨g, cap, cur, hv, hb, r⟩
  · exact .inl h2
  · exact .inr ⟨g, cap, cur, hv, by omega, r⟩
theorem OI.drew (h : OI w B v n xs) : OI w.drew B v n xs := ⟨h.1.drew, h.2⟩
theorem OI.nil : OI w B (.slice none 0 0) 0 [] := ⟨World.ownsRow_nil _ _ _ _, by omega⟩
/-- A block that is known whole, as an owned slice. -/
theorem OI.of_blk {g : Nat} {cs : Array Value} (h : Blk w g 3 cs) (hB : B ≤ g) (hx : cs.toList = xs.map (Value.int .i64)) (hn : xs.length = n) (hm : n ≤ 1048576) :
    OI w B (.slice (some ⟨g, 0, none⟩) n n) n xs := by
  subst hn
  have hsz : cs.size = xs.length * 1 := by rw [← Array.length_toList, hx]; simp
  exact ⟨⟨by simp, .inr ⟨g, xs.length, cs, rfl, hB, h, Nat.le_refl _, by simp [maxLen]; omega, hsz, by rw [hx, List.take_of_length_le (by simp)]⟩⟩, hm⟩
theorem OI.block_ne {g : Nat} (h : OI w B v n xs) (hg : g < B) : v.ownBlock = none ∨ v.ownBlock ≠ some g := by
  cases hv : v.ownBlock with
  | none => exact .inl rfl
  | some k => right; intro e; injection e with e; have := (World.ownsRow.lt h.1 k hv).1; omega
theorem OI.store {g c : Nat} (h : OI w B (.slice (some ⟨g, 0, none⟩) n c) n xs) (j : Nat) (x : Int) :
    OI (w.setCell ⟨g, j, none⟩ (.int .i64 x)) B (.slice (some ⟨g, 0, none⟩) n c) n (xs.set j x) := by
  have := (World.ownsRow.stored h.1 j (.int .i64 x)).1
  exact ⟨by simpa [List.map_set] using this, h.2⟩
theorem OI.cell {g c : Nat} (h : OI w B (.slice (some ⟨g, 0, none⟩) n c) n xs) (j : Nat) (hj : j < n) : ∃ x, xs[j]? = some x ∧ w.cell? ⟨g, j, none⟩ = some (.int .i64 x) := by
  have h1 := World.ownsRow.cellAt h.1 j (by omega)
  have hl := h.len
  exact ⟨xs[j]'(by omega), List.getElem?_eq_getElem _, h1.trans (by simp [List.getElem?_eq_getElem (show j < xs.length by omega)])⟩
theorem OI.free {g c : Nat} (h : OI w B (.slice (some ⟨g, 0, none⟩) n c) n xs) (j : Nat) : w.frozen? ⟨g, j, none⟩ = false := World.ownsRow.frozenAt h.1 j
end

theorem OI.shape {w : World} {B n : Nat} {v : Value} {xs : List Int} (h : OI w B v n xs) : ∃ A c, v = .slice A n c := by obtain ⟨A, c, h1, _⟩ := h.form; exact ⟨A, c, h1⟩
theorem SI.shape {w : World} {n : Nat} {v : Value} {xs : List Int} (h : SI w v n xs) : ∃ A c, v = .slice A n c := by obtain ⟨A, c, h1, _⟩ := h; exact ⟨A, c, h1⟩

/-- From w to w' the blocks of S alone may have changed, and new ones have come. -/
structure Chg (S : Nat → Prop) (w w' : World) : Prop where
  os : w'.os = w.os
  tape : w'.tape = w.tape
  output : w'.output = w.output
  size : w.heap.size ≤ w'.heap.size
  block : ∀ k, k < w.heap.size → ¬ S k → w'.heap[k]? = w.heap[k]?
theorem Chg.of_below {S : Nat → Prop} {w w' : World} (h : Below w.heap.size w w') : Chg S w w' := ⟨h.os, h.tape, h.output, h.size, fun k hk _ => h.block k hk⟩
theorem Chg.of_grown {S : Nat → Prop} {w w' : World} {row : Option Nat} (h : w.grownBy w' row) (hS : ∀ k, row = some k → S k) : Chg S w w' :=
  ⟨h.os, h.tape, h.output, h.size, fun k hk hn => h.block k hk (fun e => hn (hS k e.symm))⟩
theorem Chg.trans {S : Nat → Prop} {a b c : World} (h : Chg S a b) (k : Chg S b c) : Chg S a c :=
  ⟨k.os.trans h.os, k.tape.trans h.tape, k.output.trans h.output, Nat.le_trans h.size k.size, fun i hi hn => (k.block i (Nat.lt_of_lt_of_le hi h.size) hn).trans (h.block i hi hn)⟩
theorem Chg.below {S : Nat → Prop} {a w w' : World} (h : Below a.heap.size a w) (hc : Chg S w w') (hS : ∀ k, S k → a.heap.size ≤ k) : Below a.heap.size a w' :=
  ⟨hc.os.trans h.os, hc.tape.trans h.tape, hc.output.trans h.output, Nat.le_trans h.size hc.size, fun k hk => (hc.block k (Nat.lt_of_lt_of_le hk h.size) (fun hs => by have := hS k hs; omega)).trans (h.block k hk)⟩
theorem OI.chg {S : Nat → Prop} {w w' : World} {B n : Nat} {v : Value} {xs : List Int} (h : OI w B v n xs) (hc : Chg S w w') (hS : ∀ k, v.ownBlock = some k → ¬ S k) : OI w' B v n xs := by
  refine ⟨⟨h.1.1, ?_⟩, h.2⟩
  rcases h.1.2 with hn | ⟨g, cap, cur, rfl, hb, hgg, rest⟩
  · exact .inl hn
  · exact .inr ⟨g, cap, cur, rfl, hb, (hc.block g (Blk.lt hgg) (hS g rfl)).trans hgg, rest⟩
theorem Blk.chg {S : Nat → Prop} {w w' : World} {g : Nat} {t : TypeId} {cs : Array Value} (h : Blk w g t cs) (hc : Chg S w w') (hS : ¬ S g) : Blk w' g t cs := (hc.block g h.lt hS).trans h
/-- The blocks of two slices. -/
def Own2 (u v : Value) (k : Nat) : Prop := u.ownBlock = some k ∨ v.ownBlock = some k

/-- The post of a function that returns a new slice: it reads as xs; nothing that was there has changed. -/
def RetI (w : World) (xs : List Int) (e : Ending) (w' : World) : Prop := ∃ r k, e = .returned r ∧ OI w' w.heap.size r k xs ∧ Below w.heap.size w w'

/-- Two slices of the call's own, the second made behind the first: they lie apart. -/
def Apart (u v : Value) : Prop := u.ownBlock = none ∨ u.ownBlock ≠ v.ownBlock
theorem Apart.symm {u v : Value} (h : Apart u v) : Apart v u := by
  unfold Apart at *
  cases hv : v.ownBlock with
  | none => exact .inl rfl
  | some k => right; rcases h with h | h <;> rw [hv] at * <;> simp_all; exact fun e => h e.symm
theorem Apart.not {u v : Value} (h : Apart u v) {k : Nat} (hu : u.ownBlock = some k) : v.ownBlock ≠ some k := by
  rcases h with h | h
  · rw [hu] at h; cases h
  · intro e; exact h (hu.trans e.symm)
theorem OI.apart {w w' : World} {B1 n1 n2 : Nat} {v1 v2 : Value} {x1 x2 : List Int} (h1 : OI w B1 v1 n1 x1) (h2 : OI w' w.heap.size v2 n2 x2) : Apart v1 v2 := by
  unfold Apart
  cases hv : v1.ownBlock with
  | none => exact .inl rfl
  | some k =>
    right; intro e
    have a := (World.ownsRow.lt h1.1 k hv).2
    have b := (World.ownsRow.lt h2.1 k e.symm).1
    omega
theorem OI.grown_le {w : World} {B n : Nat} {v : Value} {xs : List Int} (h : OI w B v n xs) {a : World} (ha : a.heap.size ≤ B) : ∀ k, v.ownBlock = some k → a.heap.size ≤ k := fun k hk => by have := (World.ownsRow.lt h.1 k hk).1; omega

/-- The post of a function that returns a struct of two new slices. -/
def RetP (w : World) (xs ys : List Int) (e : Ending) (w' : World) : Prop :=
  ∃ A n c B m d, e = .returned (.agg #[.slice A n c, .slice B m d]) ∧ OI w' w.heap.size (.slice A n c) n xs ∧ OI w' w.heap.size (.slice B m d) m ys ∧ Apart (.slice A n c) (.slice B m d) ∧ Below w.heap.size w w'

theorem grown_setCell {a w : World} {g : Nat} (h : a.grownBy w (some g)) {p : Addr} (hp : p.block = g ∨ a.heap.size ≤ p.block) (u : Value) : a.grownBy (w.setCell p u) (some g) :=
  ⟨h.os, h.tape, h.output, by simpa [World.setCell] using h.size, fun i hi hne => (Below.heap_setCell w p u i (by
    rintro rfl
    rcases hp with hp | hp
    · exact hne (by rw [hp])
    · omega)).trans (h.block i hi hne)⟩
theorem grown_of_below {a w : World} (h : Below a.heap.size a w) (row : Option Nat) : a.grownBy w row := ⟨h.os, h.tape, h.output, h.size, fun i hi _ => h.block i hi⟩
theorem below_of_grown {B : Nat} {a w w' : World} {row : Option Nat} (h : Below B a w) (hg : w.grownBy w' row) (hB : B ≤ w.heap.size) (hr : ∀ k, row = some k → B ≤ k) : Below B a w' := h.grown hg hB hr

/-- Behind a function that writes block g alone: what lies elsewhere stays. -/
theorem RI.grown {w w' : World} {A : Option Addr} {n : Nat} {xs : List Int} {row : Option Nat} (h : RI w A n xs) (hg : w.grownBy w' row) (hne : ∀ a, A = some a → some a.block ≠ row) : RI w' A n xs :=
  ⟨h.1, fun hn => by
    obtain ⟨b, off, e, hlt, hc⟩ := h.2 hn
    exact ⟨b, off, e, Nat.lt_of_lt_of_le hlt hg.size, fun k x hx => (World.cell?_of_block (hg.block b hlt (hne _ e))).trans (hc k x hx)⟩⟩

/-- The number of a Bool's numbers: the first n, ascending, from k on. -/
def upFrom (k : Int) : Nat → List Int
  | 0 => []
  | n + 1 => k :: upFrom (k + 1) n
theorem upFrom_length (n : Nat) : ∀ k : Int, (upFrom k n).length = n := by
  induction n with
  | zero => intro k; rfl
  | succ n ih => intro k; simp [upFrom, ih]
theorem upFrom_get (n : Nat) : ∀ (k : Int) (j : Nat), j < n → (upFrom k n)[j]? = some (k + j) := by
  induction n with
  | zero => intro k j h; omega
  | succ n ih =>
    intro k j h
    cases j with
    | zero => simp [upFrom]
    | succ j => simp only [upFrom, List.getElem?_cons_succ]; rw [ih (k + 1) j (by omega)]; congr 1; omega

end Go.Proofs.YtefopnkicllpeaaDoor
