/- A row of structs with a slice each: the row is a block of the call's own, the slices are the call's own and lie apart. -/
import Derived.Test.YtefopnkicllpeaaDoorRow3b
namespace Go.Proofs.YtefopnkicllpeaaDoor
open Go.RowKit

section
variable {T ti : TypeId} {s : Nat} {w w' : World} {lo B n : Nat} {v : Value} {xs : List Int}
theorem OF.ne_blk {g : Nat} {t : TypeId} {cs : Array Value} (h : OF ti s w B v n xs) (hb : Blk w g t cs) (ht : t ≠ ti) : v.ownBlock ≠ some g := by
  rcases h.1.2 with ⟨rfl, _⟩ | ⟨g', cap, cur, rfl, _, hh, _⟩
  · simp [Value.ownBlock]
  · intro he
    have e : g' = g := by have h : some g' = some g := he; injection h
    subst e
    unfold Blk at hb; rw [hh] at hb; injection hb with hb; injection hb with _ h2; exact ht h2.symm
theorem OF.chg {S : Nat → Prop} (h : OF ti s w B v n xs) (hc : Chg S w w') (hS : ∀ k, v.ownBlock = some k → ¬ S k) : OF ti s w' B v n xs := by
  refine ⟨⟨h.1.1, ?_⟩, h.2⟩
  rcases h.1.2 with hn | ⟨g, cap, cur, rfl, hb, hgg, rest⟩
  · exact .inl hn
  · exact .inr ⟨g, cap, cur, rfl, hb, (hc.block g (Blk.lt hgg) (hS g rfl)).trans hgg, rest⟩
theorem OF.lt (h : OF ti s w B v n xs) : ∀ k, v.ownBlock = some k → B ≤ k ∧ k < w.heap.size := fun k hk => World.ownsRow.lt h.1 k hk
theorem OF.mono {B' : Nat} (h : OF ti s w B v n xs) (hB : B' ≤ B) : OF ti s w B' v n xs := by
  obtain ⟨⟨h1, h2⟩, h3⟩ := h
  refine ⟨⟨h1, ?_⟩, h3⟩
  rcases h2 with h2 | ⟨g, cap, cur, hv, hb, r⟩
  · exact .inl h2
  · exact .inr ⟨g, cap, cur, hv, by omega, r⟩
theorem Chg.refl {S : Nat → Prop} (w : World) : Chg S w w := ⟨rfl, rfl, rfl, Nat.le_refl _, fun _ _ _ => rfl⟩
theorem Chg.mono {S S' : Nat → Prop} (h : Chg S w w') (hS : ∀ k, S k → S' k) : Chg S' w w' := ⟨h.os, h.tape, h.output, h.size, fun k hk hn => h.block k hk (fun hs => hn (hS k hs))⟩
theorem Chg.setCell {S : Nat → Prop} {p : Addr} (hp : S p.block) (u : Value) : Chg S w (w.setCell p u) :=
  ⟨rfl, rfl, rfl, by simp [World.setCell], fun k _ hn => Below.heap_setCell w p u k (fun e => hn (e ▸ hp))⟩

abbrev In := Value × Nat × List Int
/-- The row lies in block g (cells cs); the slices are 'is'. -/
structure Dp (T ti : TypeId) (s : Nat) (w : World) (lo g : Nat) (cs : List Value) (is : List In) : Prop where
  blk : Blk w g T cs.toArray
  le : lo ≤ g
  ne : T ≠ ti
  own : ∀ (j : Nat) (q : In), is[j]? = some q → OF ti s w lo q.1 q.2.1 q.2.2
  apart : ∀ (i j : Nat) (p q : In), i ≠ j → is[i]? = some p → is[j]? = some q → Apart p.1 q.1

variable {g : Nat} {cs : List Value} {is : List In}
theorem Dp.chg {S : Nat → Prop} (h : Dp T ti s w lo g cs is) (hc : Chg S w w') (hg : ¬ S g) (hi : ∀ (j : Nat) (q : In) k, is[j]? = some q → q.1.ownBlock = some k → ¬ S k) : Dp T ti s w' lo g cs is :=
  ⟨h.blk.chg hc hg, h.le, h.ne, fun j q hj => (h.own j q hj).chg hc (fun k hk => hi j q k hj hk), h.apart⟩
theorem Dp.below (h : Dp T ti s w lo g cs is) (hb : Below w.heap.size w w') : Dp T ti s w' lo g cs is :=
  ⟨h.blk.belowAll hb, h.le, h.ne, fun j q hj => (h.own j q hj).below hb, h.apart⟩
theorem Dp.mono {lo' : Nat} (h : Dp T ti s w lo g cs is) (hl : lo' ≤ lo) : Dp T ti s w lo' g cs is :=
  ⟨h.blk, Nat.le_trans hl h.le, h.ne, fun j q hj => (h.own j q hj).mono hl, h.apart⟩
theorem Dp.cell (h : Dp T ti s w lo g cs is) (i : Nat) : w.cell? ⟨g, i, none⟩ = cs[i]? := (h.blk.cell i).trans (by simp)
theorem Dp.free (h : Dp T ti s w lo g cs is) (i : Nat) : w.frozen? ⟨g, i, none⟩ = false := h.blk.frozen i
/-- All of its blocks. -/
theorem Dp.range (h : Dp T ti s w lo g cs is) : (lo ≤ g ∧ g < w.heap.size) ∧ ∀ (j : Nat) (q : In) k, is[j]? = some q → q.1.ownBlock = some k → lo ≤ k ∧ k < w.heap.size :=
  ⟨⟨h.le, h.blk.lt⟩, fun j q k hj hk => (h.own j q hj).lt k hk⟩
theorem Dp.set_ (h : Dp T ti s w lo g cs is) (i : Nat) (u : Value) : Dp T ti s (w.setCell ⟨g, i, none⟩ u) lo g (cs.set i u) is :=
  ⟨by have := h.blk.set_ i u; simpa using this, h.le, h.ne,
   fun j q hj => (h.own j q hj).chg (Chg.setCell (S := fun k => k = g) (p := ⟨g, i, none⟩) rfl u) (fun k hk e => (h.own j q hj).ne_blk h.blk h.ne (by rw [hk, e])), h.apart⟩
/-- One slice is written, or made anew. -/
theorem Dp.upd (h : Dp T ti s w lo g cs is) {j : Nat} {q q' : In} (hj : is[j]? = some q) (hg : w.grownBy w' q.1.ownBlock) (ho : OF ti s w' lo q'.1 q'.2.1 q'.2.2)
    (hq : q'.1.ownBlock = q.1.ownBlock ∨ ∀ k, q'.1.ownBlock = some k → w.heap.size ≤ k) : Dp T ti s w' lo g cs (is.set j q') := by
  have hjl : j < is.length := (List.getElem?_eq_some_iff.1 hj).1
  have hap : ∀ (i : Nat) (p : In), i ≠ j → is[i]? = some p → Apart p.1 q'.1 := fun i p hij hi => by
    rcases hq with hq | hq
    · have := h.apart i j p q hij hi hj
      unfold Apart at *
      rw [hq]; exact this
    · unfold Apart
      cases hp : p.1.ownBlock with
      | none => exact .inl rfl
      | some k =>
        right; intro e
        have h1 := (h.own i p hi).lt k hp
        have h2 := hq k e.symm
        omega
  refine ⟨h.blk.grown hg (fun e => (h.own j q hj).ne_blk h.blk h.ne e.symm), h.le, h.ne, fun i p hi => ?_, fun i k p r hik hi hk => ?_⟩
  · by_cases e : j = i
    · subst e
      rw [List.getElem?_set_self hjl] at hi
      injection hi with hi; subst hi
      exact ho
    · rw [List.getElem?_set_ne e] at hi
      refine (h.own i p hi).grown hg ?_
      have := h.apart i j p q (Ne.symm e) hi hj
      exact this
  · by_cases e1 : j = i
    · subst e1
      rw [List.getElem?_set_self hjl] at hi
      rw [List.getElem?_set_ne hik] at hk
      injection hi with hi; subst hi
      exact (hap k r (Ne.symm hik) hk).symm
    · rw [List.getElem?_set_ne e1] at hi
      by_cases e2 : j = k
      · subst e2
        rw [List.getElem?_set_self hjl] at hk
        injection hk with hk; subst hk
        exact hap i p (Ne.symm e1) hi
      · rw [List.getElem?_set_ne e2] at hk
        exact h.apart i k p r hik hi hk
theorem Dp.push (h : Dp T ti s w lo g cs is) {q : In} (ho : OF ti s w lo q.1 q.2.1 q.2.2) (ha : ∀ (j : Nat) (p : In), is[j]? = some p → Apart p.1 q.1) : Dp T ti s w lo g cs (is ++ [q]) := by
  have key : ∀ (i : Nat) (p : In), (is ++ [q])[i]? = some p → (i < is.length ∧ is[i]? = some p) ∨ (i = is.length ∧ p = q) := fun i p hi => by
    by_cases e : i < is.length
    · rw [List.getElem?_append_left e] at hi; exact .inl ⟨e, hi⟩
    · have : i = is.length := by have := (List.getElem?_eq_some_iff.1 hi).1; simp at this; omega
      subst this
      simp at hi
      exact .inr ⟨rfl, hi.symm⟩
  refine ⟨h.blk, h.le, h.ne, fun i p hi => ?_, fun i k p r hik hi hk => ?_⟩
  · rcases key i p hi with ⟨_, hi⟩ | ⟨_, rfl⟩
    · exact h.own i p hi
    · exact ho
  · rcases key i p hi with ⟨_, hi2⟩ | ⟨e1, ei⟩
    · rcases key k r hk with ⟨_, hk2⟩ | ⟨_, ek⟩
      · exact h.apart i k p r hik hi2 hk2
      · exact ek ▸ ha i p hi2
    · rcases key k r hk with ⟨_, hk2⟩ | ⟨e2, _⟩
      · exact ei ▸ (ha k r hk2).symm
      · omega
theorem Dp.new (hb : Blk w g T cs.toArray) (hl : lo ≤ g) (hne : T ≠ ti) : Dp T ti s w lo g cs [] :=
  ⟨hb, hl, hne, fun j q h => by simp at h, fun i j p q _ h => by simp at h⟩
/-- A slice that was made behind all of them lies apart. -/
theorem Dp.fresh {q : In} {w2 : World} (h : Dp T ti s w lo g cs is) (ho : OF ti s w2 w.heap.size q.1 q.2.1 q.2.2) : ∀ (j : Nat) (p : In), is[j]? = some p → Apart p.1 q.1 := fun j p hj => own_apart (h.own j p hj).1 ho.1
end

end Go.Proofs.YtefopnkicllpeaaDoor
