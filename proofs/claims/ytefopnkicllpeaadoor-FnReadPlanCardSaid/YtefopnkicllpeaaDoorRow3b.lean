/- More on rows of structs of ints: owned rows, all cells flat (OF). -/
import Derived.Test.YtefopnkicllpeaaDoorRow3
namespace Go.Proofs.YtefopnkicllpeaaDoor
open Go.RowKit

/-- What is left of a purse of rooms. -/
def szN (left n : Int) : Int := if n ≤ left then left - n else -1
theorem toList_madeCells3' (z : Value) (n : Nat) : (madeCells #[z, z, z] (n * 3)).toList = List.replicate (n * 3) z := by
  unfold madeCells
  rw [Array.toList_map, List.eq_replicate_iff]
  refine ⟨by simp, fun x hx => ?_⟩
  obtain ⟨i, _, rfl⟩ := List.mem_map.1 hx
  have h3 : i % 3 < 3 := Nat.mod_lt _ (by omega)
  show (#[z, z, z] : Array Value)[i % 3]! = z
  rcases (show i % 3 = 0 ∨ i % 3 = 1 ∨ i % 3 = 2 by omega) with h | h | h <;> rw [h] <;> rfl

/-- The slice value v, n elements of type t of s cells that are all integers, is the call's own; xs: all cells. -/
def OF (t : TypeId) (s : Nat) (w : World) (B : Nat) (v : Value) (n : Nat) (xs : List Int) : Prop := w.ownsRow B t s v n (xs.map (Value.int .i64)) ∧ n ≤ 1048576
section
variable {t : TypeId} {s : Nat} {w w' : World} {B B' : Nat} {v : Value} {n : Nat} {xs : List Int} {ts : List T3}
theorem O3.grown {row : Option Nat} (h : O3 t w B v n ts) (hg : w.grownBy w' row) (hne : v.ownBlock = none ∨ v.ownBlock ≠ row) : O3 t w' B v n ts := ⟨h.1.kept hg hne, h.2⟩
theorem O3.of (h : O3 t w B v n ts) : OF t 3 w B v n (flat3 ts) := h
theorem OF.len (h : OF t s w B v n xs) : xs.length = n * s := by have := h.1.1; simpa using this
theorem OF.below (h : OF t s w B v n xs) (hb : Below w.heap.size w w') : OF t s w' B v n xs :=
  ⟨h.1.kept (row := none) ⟨hb.os, hb.tape, hb.output, hb.size, fun k hk _ => hb.block k hk⟩ (by cases hv : v.ownBlock <;> simp), h.2⟩
theorem OF.grown {row : Option Nat} (h : OF t s w B v n xs) (hg : w.grownBy w' row) (hne : v.ownBlock = none ∨ v.ownBlock ≠ row) : OF t s w' B v n xs := ⟨h.1.kept hg hne, h.2⟩
theorem OF.form (h : OF t s w B v n xs) :
    ∃ A c, v = .slice A n c ∧ n ≤ c ∧ c ≤ maxLen ∧ (A = none → n = 0 ∧ c = 0) ∧ (∀ a, A = some a → ∃ g, a = ⟨g, 0, none⟩ ∧ B ≤ g ∧ g < w.heap.size) := by
  obtain ⟨⟨h1, h2⟩, _⟩ := h
  rcases h2 with ⟨rfl, hn⟩ | ⟨g, cap, cur, rfl, hB, hg, hc, hm, hs, ht⟩
  · subst hn
    exact ⟨none, 0, rfl, by simp, by simp [maxLen], fun _ => ⟨rfl, rfl⟩, fun a ha => by cases ha⟩
  · refine ⟨some ⟨g, 0, none⟩, cap, rfl, hc, hm, (fun h => by cases h), fun a ha => ?_⟩
    injection ha with ha
    exact ⟨g, ha.symm, hB, Blk.lt hg⟩
theorem OF.store {g c : Nat} (h : OF t s w B (.slice (some ⟨g, 0, none⟩) n c) n xs) (j : Nat) (x : Int) :
    OF t s (w.setCell ⟨g, j, none⟩ (.int .i64 x)) B (.slice (some ⟨g, 0, none⟩) n c) n (xs.set j x) := by
  have := (World.ownsRow.stored h.1 j (.int .i64 x)).1
  exact ⟨by simpa [List.map_set] using this, h.2⟩
theorem OF.cell {g c : Nat} (h : OF t s w B (.slice (some ⟨g, 0, none⟩) n c) n xs) (j : Nat) (hj : j < n * s) : ∃ x, xs[j]? = some x ∧ w.cell? ⟨g, j, none⟩ = some (.int .i64 x) := by
  have h1 := World.ownsRow.cellAt h.1 j hj
  have hl := h.len
  exact ⟨xs[j]'(by omega), List.getElem?_eq_getElem _, h1.trans (by simp [List.getElem?_eq_getElem (show j < xs.length by omega)])⟩
theorem OF.free {g c : Nat} (h : OF t s w B (.slice (some ⟨g, 0, none⟩) n c) n xs) (j : Nat) : w.frozen? ⟨g, j, none⟩ = false := World.ownsRow.frozenAt h.1 j
/-- Two slices of the call's own, the second made behind the first: they lie apart. -/
theorem own_apart {w w' : World} {B1 n1 n2 s1 s2 : Nat} {t1 t2 : TypeId} {v1 v2 : Value} {x1 x2 : List Value} (h1 : w.ownsRow B1 t1 s1 v1 n1 x1) (h2 : w'.ownsRow w.heap.size t2 s2 v2 n2 x2) : Apart v1 v2 := by
  unfold Apart
  cases hv : v1.ownBlock with
  | none => exact .inl rfl
  | some k =>
    right; intro e
    have a := (World.ownsRow.lt h1 k hv).2
    have b := (World.ownsRow.lt h2 k e.symm).1
    omega
theorem O3.apartI {w w' : World} {B1 n1 n2 : Nat} {v1 v2 : Value} {x1 : List T3} {x2 : List Int} (h1 : O3 t w B1 v1 n1 x1) (h2 : OI w' w.heap.size v2 n2 x2) : Apart v1 v2 := own_apart h1.1 h2.1
theorem OI.apart3 {w w' : World} {B1 n1 n2 : Nat} {v1 v2 : Value} {x2 : List T3} {x1 : List Int} (h1 : OI w B1 v1 n1 x1) (h2 : O3 t w' w.heap.size v2 n2 x2) : Apart v1 v2 := own_apart h1.1 h2.1
theorem own_grown_le {s : Nat} {v : Value} {x : List Value} (h : w.ownsRow B t s v n x) {a : World} (ha : a.heap.size ≤ B) : ∀ k, v.ownBlock = some k → a.heap.size ≤ k := fun k hk => by have := (World.ownsRow.lt h k hk).1; omega
end
theorem S3.len {w : World} {v : Value} {n : Nat} {ts : List T3} (h : S3 w v n ts) : ts.length = n := by obtain ⟨A, c, h1, h2, h3, h4⟩ := h; exact h4.1
theorem S3.bd {w : World} {v : Value} {n : Nat} {ts : List T3} (h : S3 w v n ts) : n ≤ 1048576 := by obtain ⟨A, c, h1, h2, h3, h4⟩ := h; exact h3
theorem take_snoc_eq3 {α : Type} (xs ys : List α) (k : Nat) (x : α) (h : xs.take k = ys.take k) (hx : xs[k]? = some x) (hy : ys[k]? = some x) : xs.take (k + 1) = ys.take (k + 1) := by
  rw [List.take_add_one, List.take_add_one, h, hx, hy]
theorem mrk_step' (xs : List Int) (k : Int) (j : Nat) (x : Int) (h : j < xs.length) (hx : x = k + j) : (mrk xs k j).set j x = mrk xs k (j + 1) := by rw [hx]; exact mrk_step xs k j h

end Go.Proofs.YtefopnkicllpeaaDoor
