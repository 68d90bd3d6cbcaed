/- Merged (what the law reaches): Deep, Tx, Run1, RunP, RunI1. -/
import Derived.Test.YtcfkemchekmjbaaGreatDoorVb
import Derived.Deep.RegionHeld3
namespace Go.Proofs.YtcfkemchekmjbaaGreatDoor
open Go.RowKit
section
variable {T ti : TypeId} {s : Nat} {w w' : World} {lo B n : Nat} {v : Value} {xs : List Int}
theorem OF.ne_blk {g : Nat} {t : TypeId} {cs : Array Value} (h : OF ti s w B v n xs) (hb : Blk w g t cs) (ht : t ≠ ti) : v.ownBlock ≠ some g := by
  rcases h.1.2 with ⟨rfl, _⟩ | ⟨g', cap, cur, rfl, _, hh, _⟩
  · simp [Value.ownBlock]
  · intro he
    have e : g' = g := by have h : some g' = some g := he; injection h
    subst e
    unfold Blk at hb; rw [hh] at hb; injection hb with hb; injection hb with _ h2; exact ht h2.symm
theorem OF.chg {S : Nat → Prop} (h : OF ti s w B v n xs) (hc : Chg S w w') (hS : ∀ k, v.ownBlock = some k → ¬ S k) : OF ti s w' B v n xs := by
  refine ⟨⟨h.1.1, ?_⟩, h.2⟩
  rcases h.1.2 with hn | ⟨g, cap, cur, rfl, hb, hgg, rest⟩
  · exact .inl hn
  · exact .inr ⟨g, cap, cur, rfl, hb, (hc.block g (Blk.lt hgg) (hS g rfl)).trans hgg, rest⟩
theorem OF.lt (h : OF ti s w B v n xs) : ∀ k, v.ownBlock = some k → B ≤ k ∧ k < w.heap.size := fun k hk => World.ownsRow.lt h.1 k hk
theorem OF.mono {B' : Nat} (h : OF ti s w B v n xs) (hB : B' ≤ B) : OF ti s w B' v n xs := by
  obtain ⟨⟨h1, h2⟩, h3⟩ := h
  refine ⟨⟨h1, ?_⟩, h3⟩
  rcases h2 with h2 | ⟨g, cap, cur, hv, hb, r⟩
  · exact .inl h2
  · exact .inr ⟨g, cap, cur, hv, by omega, r⟩
theorem Chg.refl {S : Nat → Prop} (w : World) : Chg S w w := ⟨rfl, rfl, rfl, Nat.le_refl _, fun _ _ _ => rfl⟩
theorem Chg.mono {S S' : Nat → Prop} (h : Chg S w w') (hS : ∀ k, S k → S' k) : Chg S' w w' := ⟨h.os, h.tape, h.output, h.size, fun k hk hn => h.block k hk (fun hs => hn (hS k hs))⟩
theorem Chg.setCell {S : Nat → Prop} {p : Addr} (hp : S p.block) (u : Value) : Chg S w (w.setCell p u) :=
  ⟨rfl, rfl, rfl, by simp [World.setCell], fun k _ hn => Below.heap_setCell w p u k (fun e => hn (e ▸ hp))⟩
abbrev In := Value × Nat × List Int
/-- The row lies in block g (cells cs); the slices are 'is'. -/
structure Dp (T ti : TypeId) (s : Nat) (w : World) (lo g : Nat) (cs : List Value) (is : List In) : Prop where
  blk : Blk w g T cs.toArray
  le : lo ≤ g
  ne : T ≠ ti
  own : ∀ (j : Nat) (q : In), is[j]? = some q → OF ti s w lo q.1 q.2.1 q.2.2
  apart : ∀ (i j : Nat) (p q : In), i ≠ j → is[i]? = some p → is[j]? = some q → Apart p.1 q.1
variable {g : Nat} {cs : List Value} {is : List In}
theorem Dp.chg {S : Nat → Prop} (h : Dp T ti s w lo g cs is) (hc : Chg S w w') (hg : ¬ S g) (hi : ∀ (j : Nat) (q : In) k, is[j]? = some q → q.1.ownBlock = some k → ¬ S k) : Dp T ti s w' lo g cs is :=
  ⟨h.blk.chg hc hg, h.le, h.ne, fun j q hj => (h.own j q hj).chg hc (fun k hk => hi j q k hj hk), h.apart⟩
theorem Dp.below (h : Dp T ti s w lo g cs is) (hb : Below w.heap.size w w') : Dp T ti s w' lo g cs is :=
  ⟨h.blk.belowAll hb, h.le, h.ne, fun j q hj => (h.own j q hj).below hb, h.apart⟩
theorem Dp.mono {lo' : Nat} (h : Dp T ti s w lo g cs is) (hl : lo' ≤ lo) : Dp T ti s w lo' g cs is :=
  ⟨h.blk, Nat.le_trans hl h.le, h.ne, fun j q hj => (h.own j q hj).mono hl, h.apart⟩
theorem Dp.cell (h : Dp T ti s w lo g cs is) (i : Nat) : w.cell? ⟨g, i, none⟩ = cs[i]? := (h.blk.cell i).trans (by simp)
theorem Dp.free (h : Dp T ti s w lo g cs is) (i : Nat) : w.frozen? ⟨g, i, none⟩ = false := h.blk.frozen i
/-- All of its blocks. -/
theorem Dp.range (h : Dp T ti s w lo g cs is) : (lo ≤ g ∧ g < w.heap.size) ∧ ∀ (j : Nat) (q : In) k, is[j]? = some q → q.1.ownBlock = some k → lo ≤ k ∧ k < w.heap.size :=
  ⟨⟨h.le, h.blk.lt⟩, fun j q k hj hk => (h.own j q hj).lt k hk⟩
theorem Dp.set_ (h : Dp T ti s w lo g cs is) (i : Nat) (u : Value) : Dp T ti s (w.setCell ⟨g, i, none⟩ u) lo g (cs.set i u) is :=
  ⟨by have := h.blk.set_ i u; simpa using this, h.le, h.ne,
   fun j q hj => (h.own j q hj).chg (Chg.setCell (S := fun k => k = g) (p := ⟨g, i, none⟩) rfl u) (fun k hk e => (h.own j q hj).ne_blk h.blk h.ne (by rw [hk, e])), h.apart⟩
/-- One slice is written, or made anew. -/
theorem Dp.upd (h : Dp T ti s w lo g cs is) {j : Nat} {q q' : In} (hj : is[j]? = some q) (hg : w.grownBy w' q.1.ownBlock) (ho : OF ti s w' lo q'.1 q'.2.1 q'.2.2)
    (hq : q'.1.ownBlock = q.1.ownBlock ∨ ∀ k, q'.1.ownBlock = some k → w.heap.size ≤ k) : Dp T ti s w' lo g cs (is.set j q') := by
  have hjl : j < is.length := (List.getElem?_eq_some_iff.1 hj).1
  have hap : ∀ (i : Nat) (p : In), i ≠ j → is[i]? = some p → Apart p.1 q'.1 := fun i p hij hi => by
    rcases hq with hq | hq
    · have := h.apart i j p q hij hi hj
      unfold Apart at *
      rw [hq]; exact this
    · unfold Apart
      cases hp : p.1.ownBlock with
      | none => exact .inl rfl
      | some k =>
        right; intro e
        have h1 := (h.own i p hi).lt k hp
        have h2 := hq k e.symm
        omega
  refine ⟨h.blk.grown hg (fun e => (h.own j q hj).ne_blk h.blk h.ne e.symm), h.le, h.ne, fun i p hi => ?_, fun i k p r hik hi hk => ?_⟩
  · by_cases e : j = i
    · subst e
      rw [List.getElem?_set_self hjl] at hi
      injection hi with hi; subst hi
      exact ho
    · rw [List.getElem?_set_ne e] at hi
      refine (h.own i p hi).grown hg ?_
      have := h.apart i j p q (Ne.symm e) hi hj
      exact this
  · by_cases e1 : j = i
    · subst e1
      rw [List.getElem?_set_self hjl] at hi
      rw [List.getElem?_set_ne hik] at hk
      injection hi with hi; subst hi
      exact (hap k r (Ne.symm hik) hk).symm
    · rw [List.getElem?_set_ne e1] at hi
      by_cases e2 : j = k
      · subst e2
        rw [List.getElem?_set_self hjl] at hk
        injection hk with hk; subst hk
        exact hap i p (Ne.symm e1) hi
      · rw [List.getElem?_set_ne e2] at hk
        exact h.apart i k p r hik hi hk
theorem Dp.push (h : Dp T ti s w lo g cs is) {q : In} (ho : OF ti s w lo q.1 q.2.1 q.2.2) (ha : ∀ (j : Nat) (p : In), is[j]? = some p → Apart p.1 q.1) : Dp T ti s w lo g cs (is ++ [q]) := by
  have key : ∀ (i : Nat) (p : In), (is ++ [q])[i]? = some p → (i < is.length ∧ is[i]? = some p) ∨ (i = is.length ∧ p = q) := fun i p hi => by
    by_cases e : i < is.length
    · rw [List.getElem?_append_left e] at hi; exact .inl ⟨e, hi⟩
    · have : i = is.length := by have := (List.getElem?_eq_some_iff.1 hi).1; simp at this; omega
      subst this
      simp at hi
      exact .inr ⟨rfl, hi.symm⟩
  refine ⟨h.blk, h.le, h.ne, fun i p hi => ?_, fun i k p r hik hi hk => ?_⟩
  · rcases key i p hi with ⟨_, hi⟩ | ⟨_, rfl⟩
    · exact h.own i p hi
    · exact ho
  · rcases key i p hi with ⟨_, hi2⟩ | ⟨e1, ei⟩
    · rcases key k r hk with ⟨_, hk2⟩ | ⟨_, ek⟩
      · exact h.apart i k p r hik hi2 hk2
      · exact ek ▸ ha i p hi2
    · rcases key k r hk with ⟨_, hk2⟩ | ⟨e2, _⟩
      · exact ei ▸ (ha k r hk2).symm
      · omega
theorem Dp.new (hb : Blk w g T cs.toArray) (hl : lo ≤ g) (hne : T ≠ ti) : Dp T ti s w lo g cs [] :=
  ⟨hb, hl, hne, fun j q h => by simp at h, fun i j p q _ h => by simp at h⟩
/-- A slice that was made behind all of them lies apart. -/
theorem Dp.fresh {q : In} {w2 : World} (h : Dp T ti s w lo g cs is) (ho : OF ti s w2 w.heap.size q.1 q.2.1 q.2.2) : ∀ (j : Nat) (p : In), is[j]? = some p → Apart p.1 q.1 := fun j p hj => own_apart (h.own j p hj).1 ho.1
end
end Go.Proofs.YtcfkemchekmjbaaGreatDoor

namespace Go.Proofs.YtcfkemchekmjbaaGreatDoor
open Go.RowKit
abbrev Tx := Int × List T3 × Bool
/-- A transaction at block b, offset off. -/
def ET (w : World) (b off : Nat) (t : Tx) : Prop :=
  ∃ (B : Option Addr) (k d : Nat), w.cell? ⟨b, off, none⟩ = some (.int .i64 t.1) ∧ w.cell? ⟨b, off + 1, none⟩ = some (.slice B k d) ∧ w.cell? ⟨b, off + 2, none⟩ = some (.bool t.2.2) ∧ k ≤ d ∧ d ≤ maxLen ∧ R3 w B k t.2.1
theorem ET.below {w w' : World} {b off : Nat} {t : Tx} (h : ET w b off t) (hb : Below w.heap.size w w') (hlt : b < w.heap.size) : ET w' b off t := by
  obtain ⟨B, k, d, h1, h2, h3, h4, h5, h6⟩ := h
  exact ⟨B, k, d, (hb.cell (p := ⟨b, off, none⟩) hlt).trans h1, (hb.cell (p := ⟨b, off + 1, none⟩) hlt).trans h2, (hb.cell (p := ⟨b, off + 2, none⟩) hlt).trans h3, h4, h5, h6.below hb⟩
def RTs (w : World) (A : Option Addr) (n : Nat) (ts : List Tx) : Prop :=
  ts.length = n ∧ (0 < n → ∃ b off, A = some ⟨b, off, none⟩ ∧ b < w.heap.size ∧ ∀ (k : Nat) (t : Tx), ts[k]? = some t → ET w b (off + k * 3) t)
theorem RTs.nil {w : World} {A : Option Addr} : RTs w A 0 [] := ⟨rfl, fun h => absurd h (by omega)⟩
theorem RTs.below {w w' : World} {A : Option Addr} {n : Nat} {ts : List Tx} (h : RTs w A n ts) (hb : Below w.heap.size w w') : RTs w' A n ts :=
  ⟨h.1, fun hn => by
    obtain ⟨b, off, e, hlt, hc⟩ := h.2 hn
    exact ⟨b, off, e, Nat.lt_of_lt_of_le hlt hb.size, fun k m hm => (hc k m hm).below hb hlt⟩⟩
theorem RTs.at_ {w : World} {A : Option Addr} {n : Nat} {ts : List Tx} (h : RTs w A n ts) {k : Nat} (hk : k < n) :
    ∃ b off f ys dn B kk d, A = some ⟨b, off, none⟩ ∧ b < w.heap.size ∧ ts[k]? = some (f, ys, dn) ∧ w.cell? ⟨b, off + k * 3, none⟩ = some (.int .i64 f) ∧ w.cell? ⟨b, off + k * 3 + 1, none⟩ = some (.slice B kk d) ∧ w.cell? ⟨b, off + k * 3 + 2, none⟩ = some (.bool dn) ∧ kk ≤ d ∧ d ≤ maxLen ∧ R3 w B kk ys := by
  obtain ⟨b, off, e, hlt, hc⟩ := h.2 (by omega)
  have hl : k < ts.length := by have := h.1; omega
  obtain ⟨⟨f, ys, dn⟩, hg⟩ : ∃ q, ts[k]? = some q := ⟨ts[k], List.getElem?_eq_getElem hl⟩
  obtain ⟨B, kk, d, h1, h2, h3, h4, h5, h6⟩ := hc k _ hg
  exact ⟨b, off, f, ys, dn, B, kk, d, e, hlt, hg, h1, h2, h3, h4, h5, h6⟩
def SmallT (ts : List Tx) : Prop := ∀ t ∈ ts, t.2.1.length ≤ 1048576
/-- A value that is a slice of n transactions. -/
def STs (w : World) (v : Value) (n : Nat) (ts : List Tx) : Prop := ∃ A c, v = .slice A n c ∧ n ≤ c ∧ n ≤ 1048576 ∧ RTs w A n ts
theorem STs.below {w w' : World} {v : Value} {n : Nat} {ts : List Tx} (h : STs w v n ts) (hb : Below w.heap.size w w') : STs w' v n ts := by
  obtain ⟨A, c, h1, h2, h3, h4⟩ := h; exact ⟨A, c, h1, h2, h3, h4.below hb⟩
/-- An element: its session, its operations (slice, how many, their cells), done. -/
abbrev El := Int × In × Bool
def cellsT : List El → List Value
  | [] => []
  | e :: es => .int .i64 e.1 :: e.2.1.1 :: .bool e.2.2 :: cellsT es
theorem cellsT_len : ∀ es : List El, (cellsT es).length = es.length * 3
  | [] => rfl
  | e :: es => by simp [cellsT, cellsT_len es]; omega
theorem cellsT_append : ∀ es fs : List El, cellsT (es ++ fs) = cellsT es ++ cellsT fs
  | [], fs => rfl
  | e :: es, fs => by simp [cellsT, cellsT_append es fs]
theorem cellsT_get : ∀ (es : List El) (k : Nat) (e : El), es[k]? = some e → (cellsT es)[k * 3]? = some (.int .i64 e.1) ∧ (cellsT es)[k * 3 + 1]? = some e.2.1.1 ∧ (cellsT es)[k * 3 + 2]? = some (.bool e.2.2)
  | [], k, e, h => by simp at h
  | a :: es, 0, e, h => by
    simp only [List.getElem?_cons_zero, Option.some.injEq] at h
    subst h; simp [cellsT]
  | a :: es, k + 1, e, h => by
    simp only [List.getElem?_cons_succ] at h
    have := cellsT_get es k e h
    simp only [cellsT, show (k + 1) * 3 = k * 3 + 1 + 1 + 1 by omega, List.getElem?_cons_succ]
    exact this
theorem cellsT_set0 : ∀ (es : List El) (k : Nat) (e : El) (x : Int), es[k]? = some e → (cellsT es).set (k * 3) (.int .i64 x) = cellsT (es.set k (x, e.2))
  | [], k, e, x, h => by simp at h
  | a :: es, 0, e, x, h => by
    simp only [List.getElem?_cons_zero, Option.some.injEq] at h
    subst h; simp [cellsT]
  | a :: es, k + 1, e, x, h => by
    simp only [List.getElem?_cons_succ] at h
    simp only [cellsT, show (k + 1) * 3 = k * 3 + 1 + 1 + 1 by omega, List.set_cons_succ, cellsT_set0 es k e x h]
theorem cellsT_set1 : ∀ (es : List El) (k : Nat) (e : El) (q : In), es[k]? = some e → (cellsT es).set (k * 3 + 1) q.1 = cellsT (es.set k (e.1, q, e.2.2))
  | [], k, e, x, h => by simp at h
  | a :: es, 0, e, x, h => by
    simp only [List.getElem?_cons_zero, Option.some.injEq] at h
    subst h; simp [cellsT]
  | a :: es, k + 1, e, x, h => by
    simp only [List.getElem?_cons_succ] at h
    simp only [cellsT, show (k + 1) * 3 + 1 = k * 3 + 1 + 1 + 1 + 1 by omega, List.set_cons_succ, cellsT_set1 es k e x h]
theorem cellsT_set2 : ∀ (es : List El) (k : Nat) (e : El) (x : Bool), es[k]? = some e → (cellsT es).set (k * 3 + 2) (.bool x) = cellsT (es.set k (e.1, e.2.1, x))
  | [], k, e, x, h => by simp at h
  | a :: es, 0, e, x, h => by
    simp only [List.getElem?_cons_zero, Option.some.injEq] at h
    subst h; simp [cellsT]
  | a :: es, k + 1, e, x, h => by
    simp only [List.getElem?_cons_succ] at h
    simp only [cellsT, show (k + 1) * 3 + 2 = k * 3 + 2 + 1 + 1 + 1 by omega, List.set_cons_succ, cellsT_set2 es k e x h]
/-- The slice of an element turns, its value stays: the row's cells stay. -/
theorem cellsT_same {es : List El} {k : Nat} {e : El} (h : es[k]? = some e) (q : In) (hq : q.1 = e.2.1.1) : cellsT (es.set k (e.1, q, e.2.2)) = cellsT es := by
  rw [← cellsT_set1 es k e q h, hq]
  have := (cellsT_get es k e h).2.1
  apply List.ext_getElem?
  intro i
  by_cases e1 : k * 3 + 1 = i
  · subst e1
    rw [List.getElem?_set_self (List.getElem?_eq_some_iff.1 this).1, this]
  · rw [List.getElem?_set_ne e1]
structure OT (w : World) (lo : Nat) (v : Value) (n : Nat) (es : List El) : Prop where
  row : w.ownsRow lo 66 3 v n (cellsT es)
  own : ∀ (j : Nat) (e : El), es[j]? = some e → OF 61 3 w lo e.2.1.1 e.2.1.2.1 e.2.1.2.2
  apart : ∀ (i j : Nat) (p q : El), i ≠ j → es[i]? = some p → es[j]? = some q → Apart p.2.1.1 q.2.1.1
  small : n ≤ 1048576
section
variable {w w' : World} {lo n : Nat} {v : Value} {es : List El}
theorem OT.len (h : OT w lo v n es) : es.length = n := by have := h.row.1; rw [cellsT_len] at this; omega
theorem OT.shape (h : OT w lo v n es) : v = .slice none 0 0 ∧ n = 0 ∨ ∃ g c, v = .slice (some ⟨g, 0, none⟩) n c ∧ lo ≤ g ∧ g < w.heap.size ∧ n ≤ c ∧ c ≤ maxLen ∧ ∃ cs, Blk w g 66 cs := by
  rcases h.row.2 with ⟨h1, h2⟩ | ⟨g, cap, cur, h1, hB, hg, hc, hm, hs, ht⟩
  · exact .inl ⟨h1, h2⟩
  · exact .inr ⟨g, cap, h1, hB, Blk.lt hg, hc, hm, cur, hg⟩
theorem OT.ne (h : OT w lo v n es) {j : Nat} {e : El} (hj : es[j]? = some e) {k : Nat} (hk : v.ownBlock = some k) : e.2.1.1.ownBlock ≠ some k := by
  rcases h.shape with ⟨rfl, _⟩ | ⟨g, c, rfl, _, _, _, _, cs, hb⟩
  · simp [Value.ownBlock] at hk
  · have e1 : g = k := by have h : some g = some k := hk; injection h
    subst e1
    exact (h.own j e hj).ne_blk hb (by decide)
/-- The blocks in which it lies. -/
def OT.S (v : Value) (es : List El) (k : Nat) : Prop := v.ownBlock = some k ∨ ∃ (j : Nat) (e : El), es[j]? = some e ∧ e.2.1.1.ownBlock = some k
theorem OT.range (h : OT w lo v n es) : ∀ k, OT.S v es k → lo ≤ k ∧ k < w.heap.size := fun k hk => by
  rcases hk with hk | ⟨j, e, hj, hk⟩
  · exact World.ownsRow.lt h.row k hk
  · exact (h.own j e hj).lt k hk
theorem own_chg {S : Nat → Prop} {B s : Nat} {t : TypeId} {xs : List Value} (h : w.ownsRow B t s v n xs) (hc : Chg S w w') (hS : ∀ k, v.ownBlock = some k → ¬ S k) : w'.ownsRow B t s v n xs := by
  refine ⟨h.1, ?_⟩
  rcases h.2 with hn | ⟨g, cap, cur, rfl, hb, hgg, rest⟩
  · exact .inl hn
  · exact .inr ⟨g, cap, cur, rfl, hb, (hc.block g (Blk.lt hgg) (hS g rfl)).trans hgg, rest⟩
theorem OT.chg {S : Nat → Prop} (h : OT w lo v n es) (hc : Chg S w w') (hS : ∀ k, OT.S v es k → ¬ S k) : OT w' lo v n es :=
  ⟨own_chg h.row hc (fun k hk => hS k (.inl hk)), fun j e hj => (h.own j e hj).chg hc (fun k hk => hS k (.inr ⟨j, e, hj, hk⟩)), h.apart, h.small⟩
theorem OT.below (h : OT w lo v n es) (hb : Below w.heap.size w w') : OT w' lo v n es := h.chg (S := fun _ => False) (Chg.of_below hb) (fun _ _ => id)
theorem OT.mono {lo' : Nat} (h : OT w lo v n es) (hl : lo' ≤ lo) : OT w lo' v n es := by
  refine ⟨⟨h.row.1, ?_⟩, fun j e hj => (h.own j e hj).mono hl, h.apart, h.small⟩
  rcases h.row.2 with h2 | ⟨g, cap, cur, hv, hb, r⟩
  · exact .inl h2
  · exact .inr ⟨g, cap, cur, hv, by omega, r⟩
theorem OT.alloc (h : OT w lo v n es) (o : Obj) : OT (w.alloc o) lo v n es := h.below ((Below.refl _ _).alloc (Nat.le_refl _) _)
theorem OT.drew (h : OT w lo v n es) : OT w.drew lo v n es := h.below (Below.refl _ _).drew
theorem OT.grown {row : Option Nat} (h : OT w lo v n es) (hg : w.grownBy w' row) (hne : ∀ k, row = some k → ¬ OT.S v es k) : OT w' lo v n es :=
  h.chg (S := fun k => row = some k) (Chg.of_grown hg (fun _ e => e)) (fun k hk hr => hne k hr hk)
theorem OT.cells {g c : Nat} (h : OT w lo (.slice (some ⟨g, 0, none⟩) n c) n es) {j : Nat} {e : El} (hj : es[j]? = some e) :
    w.cell? ⟨g, j * 3, none⟩ = some (.int .i64 e.1) ∧ w.cell? ⟨g, j * 3 + 1, none⟩ = some e.2.1.1 ∧ w.cell? ⟨g, j * 3 + 2, none⟩ = some (.bool e.2.2) := by
  have hjn : j < n := by rw [← h.len]; exact (List.getElem?_eq_some_iff.1 hj).1
  have hl := cellsT_len es
  rw [h.len] at hl
  obtain ⟨h0, h1, h2⟩ := cellsT_get es j e hj
  refine ⟨(World.ownsRow.cellAt h.row (j * 3) (by omega)).trans ?_, (World.ownsRow.cellAt h.row (j * 3 + 1) (by omega)).trans ?_, (World.ownsRow.cellAt h.row (j * 3 + 2) (by omega)).trans ?_⟩
  · rw [← h0, List.getElem?_eq_getElem (by omega)]
  · rw [← h1, List.getElem?_eq_getElem (by omega)]
  · rw [← h2, List.getElem?_eq_getElem (by omega)]
theorem OT.free {g c : Nat} (h : OT w lo (.slice (some ⟨g, 0, none⟩) n c) n es) (i : Nat) : w.frozen? ⟨g, i, none⟩ = false := World.ownsRow.frozenAt h.row i
theorem OT.base {g c : Nat} (h : OT w lo (.slice (some ⟨g, 0, none⟩) n c) n es) : lo ≤ g ∧ g < w.heap.size := World.ownsRow.lt h.row g rfl
/-- Of a turned list of elements: who has the same slices. -/
theorem OT.turn {es' : List El} (h : OT w lo v n es) (hr : w'.ownsRow lo 66 3 v n (cellsT es')) (hs : ∀ (j : Nat) (e' : El), es'[j]? = some e' → ∃ e, es[j]? = some e ∧ e'.2.1.1 = e.2.1.1 ∧ OF 61 3 w' lo e'.2.1.1 e'.2.1.2.1 e'.2.1.2.2) : OT w' lo v n es' :=
  ⟨hr, fun j e hj => by obtain ⟨_, _, _, h3⟩ := hs j e hj; exact h3, fun i j p q hij hp hq => by
    obtain ⟨p', h1, h2, _⟩ := hs i p hp
    obtain ⟨q', h3, h4, _⟩ := hs j q hq
    rw [h2, h4]; exact h.apart i j p' q' hij h1 h3, h.small⟩
theorem OF.set_row {g c : Nat} (h : OT w lo (.slice (some ⟨g, 0, none⟩) n c) n es) {j : Nat} {e : El} (hj : es[j]? = some e) (i : Nat) (u : Value) : OF 61 3 (w.setCell ⟨g, i, none⟩ u) lo e.2.1.1 e.2.1.2.1 e.2.1.2.2 :=
  (h.own j e hj).chg (Chg.setCell (S := fun k => k = g) (p := ⟨g, i, none⟩) rfl u) (fun k hk e1 => h.ne hj (k := g) rfl (by rw [hk, e1]))
theorem OT.set0 {g c : Nat} (h : OT w lo (.slice (some ⟨g, 0, none⟩) n c) n es) {j : Nat} {e : El} (hj : es[j]? = some e) (x : Int) :
    OT (w.setCell ⟨g, j * 3, none⟩ (.int .i64 x)) lo (.slice (some ⟨g, 0, none⟩) n c) n (es.set j (x, e.2)) := by
  refine h.turn ?_ (fun i e' hi => ?_)
  · rw [← cellsT_set0 es j e x hj]; exact (World.ownsRow.stored h.row (j * 3) (.int .i64 x)).1
  · by_cases e1 : j = i
    · subst e1
      rw [List.getElem?_set_self (List.getElem?_eq_some_iff.1 hj).1] at hi
      injection hi with hi; subst hi
      exact ⟨e, hj, rfl, OF.set_row h hj _ _⟩
    · rw [List.getElem?_set_ne e1] at hi
      exact ⟨e', hi, rfl, OF.set_row h hi _ _⟩
theorem OT.set2 {g c : Nat} (h : OT w lo (.slice (some ⟨g, 0, none⟩) n c) n es) {j : Nat} {e : El} (hj : es[j]? = some e) (x : Bool) :
    OT (w.setCell ⟨g, j * 3 + 2, none⟩ (.bool x)) lo (.slice (some ⟨g, 0, none⟩) n c) n (es.set j (e.1, e.2.1, x)) := by
  refine h.turn ?_ (fun i e' hi => ?_)
  · rw [← cellsT_set2 es j e x hj]; exact (World.ownsRow.stored h.row (j * 3 + 2) (.bool x)).1
  · by_cases e1 : j = i
    · subst e1
      rw [List.getElem?_set_self (List.getElem?_eq_some_iff.1 hj).1] at hi
      injection hi with hi; subst hi
      exact ⟨e, hj, rfl, OF.set_row h hj _ _⟩
    · rw [List.getElem?_set_ne e1] at hi
      exact ⟨e', hi, rfl, OF.set_row h hi _ _⟩
/-- One element's slice was written in place. -/
theorem OT.upd (h : OT w lo v n es) {j : Nat} {e : El} (hj : es[j]? = some e) (hg : w.grownBy w' e.2.1.1.ownBlock) {m : Nat} {xs : List Int} (ho : OF 61 3 w' lo e.2.1.1 m xs) : OT w' lo v n (es.set j (e.1, (e.2.1.1, m, xs), e.2.2)) := by
  refine h.turn ?_ (fun i e' hi => ?_)
  · rw [cellsT_same hj (e.2.1.1, m, xs) rfl]
    exact own_chg h.row (S := fun k => e.2.1.1.ownBlock = some k) (Chg.of_grown hg (fun _ e => e)) (fun k hk hr => h.ne hj hk hr)
  · by_cases e1 : j = i
    · subst e1
      rw [List.getElem?_set_self (List.getElem?_eq_some_iff.1 hj).1] at hi
      injection hi with hi; subst hi
      exact ⟨e, hj, rfl, ho⟩
    · rw [List.getElem?_set_ne e1] at hi
      exact ⟨e', hi, rfl, (h.own i e' hi).grown hg (h.apart i j e' e (Ne.symm e1) hi hj)⟩
/-- One element's slice was appended to, and stored back. -/
theorem OT.append {g c : Nat} (h : OT w lo (.slice (some ⟨g, 0, none⟩) n c) n es) {j : Nat} {e : El} (hj : es[j]? = some e) (hg : w.grownBy w' e.2.1.1.ownBlock) {q : In} (ho : OF 61 3 w' lo q.1 q.2.1 q.2.2)
    (hq : q.1.ownBlock = e.2.1.1.ownBlock ∨ ∀ k, q.1.ownBlock = some k → w.heap.size ≤ k) : OT (w'.setCell ⟨g, j * 3 + 1, none⟩ q.1) lo (.slice (some ⟨g, 0, none⟩) n c) n (es.set j (e.1, q, e.2.2)) := by
  have hjl := (List.getElem?_eq_some_iff.1 hj).1
  have hrow : w'.ownsRow lo 66 3 (.slice (some ⟨g, 0, none⟩) n c) n (cellsT es) := own_chg h.row (S := fun k => e.2.1.1.ownBlock = some k) (Chg.of_grown hg (fun _ e => e)) (fun k hk hr => h.ne hj hk hr)
  have hblk : ∃ cs, Blk w' g 66 cs := by
    rcases hrow.2 with ⟨h1, _⟩ | ⟨g', cap, cur, h1, _, hb, _⟩
    · cases h1
    · injection h1 with h1; injection h1 with h1; injection h1 with h1; subst h1; exact ⟨cur, hb⟩
  obtain ⟨cs, hblk⟩ := hblk
  have hset : ∀ {m : Nat} {u : Value} {xs : List Int}, OF 61 3 w' lo u m xs → OF 61 3 (w'.setCell ⟨g, j * 3 + 1, none⟩ q.1) lo u m xs := fun {m u xs} hu =>
    hu.chg (Chg.setCell (S := fun k => k = g) (p := ⟨g, j * 3 + 1, none⟩) rfl _) (fun k hk e1 => hu.ne_blk hblk (by decide) (by rw [hk, e1]))
  have hap : ∀ (i : Nat) (p : El), i ≠ j → es[i]? = some p → Apart p.2.1.1 q.1 := fun i p hij hi => by
    rcases hq with hq | hq
    · have := h.apart i j p e hij hi hj
      unfold Apart at *
      rw [hq]; exact this
    · unfold Apart
      cases hp : p.2.1.1.ownBlock with
      | none => exact .inl rfl
      | some k =>
        right; intro e1
        have h1 := (h.own i p hi).lt k hp
        have h2 := hq k e1.symm
        omega
  refine ⟨?_, fun i p hi => ?_, fun i k p r hik hi hk => ?_, h.small⟩
  · rw [← cellsT_set1 es j e q hj]; exact (World.ownsRow.stored hrow (j * 3 + 1) q.1).1
  · by_cases e1 : j = i
    · subst e1
      rw [List.getElem?_set_self hjl] at hi
      injection hi with hi; subst hi
      exact hset ho
    · rw [List.getElem?_set_ne e1] at hi
      exact hset ((h.own i p hi).grown hg (h.apart i j p e (Ne.symm e1) hi hj))
  · by_cases e1 : j = i
    · subst e1
      rw [List.getElem?_set_self hjl] at hi
      rw [List.getElem?_set_ne hik] at hk
      injection hi with hi; subst hi
      exact (hap k r (Ne.symm hik) hk).symm
    · rw [List.getElem?_set_ne e1] at hi
      by_cases e2 : j = k
      · subst e2
        rw [List.getElem?_set_self hjl] at hk
        injection hk with hk; subst hk
        exact hap i p (Ne.symm e1) hi
      · rw [List.getElem?_set_ne e2] at hk
        exact h.apart i k p r hik hi hk
/-- A further element behind all. -/
theorem OT.push {v' : Value} (h : OT w lo v n es) {e : El} (hr : w'.ownsRow lo 66 3 v' (n + 1) (cellsT (es ++ [e]))) (hg : w.grownBy w' v.ownBlock) (ho : OF 61 3 w' lo e.2.1.1 e.2.1.2.1 e.2.1.2.2)
    (ha : ∀ (j : Nat) (p : El), es[j]? = some p → Apart p.2.1.1 e.2.1.1) (hn : n + 1 ≤ 1048576) : OT w' lo v' (n + 1) (es ++ [e]) := by
  have key : ∀ (i : Nat) (p : El), (es ++ [e])[i]? = some p → (i < es.length ∧ es[i]? = some p) ∨ (i = es.length ∧ p = e) := fun i p hi => by
    by_cases e1 : i < es.length
    · rw [List.getElem?_append_left e1] at hi; exact .inl ⟨e1, hi⟩
    · have : i = es.length := by have := (List.getElem?_eq_some_iff.1 hi).1; simp at this; omega
      subst this
      simp at hi
      exact .inr ⟨rfl, hi.symm⟩
  refine ⟨hr, fun i p hi => ?_, fun i k p r hik hi hk => ?_, hn⟩
  · rcases key i p hi with ⟨_, hi2⟩ | ⟨_, rfl⟩
    · refine (h.own i p hi2).grown hg ?_
      cases hv : p.2.1.1.ownBlock with
      | none => exact .inl rfl
      | some k => right; intro e2; exact h.ne hi2 e2.symm hv
    · exact ho
  · rcases key i p hi with ⟨_, hi2⟩ | ⟨e1, ei⟩
    · rcases key k r hk with ⟨_, hk2⟩ | ⟨_, ek⟩
      · exact h.apart i k p r hik hi2 hk2
      · exact ek ▸ ha i p hi2
    · rcases key k r hk with ⟨_, hk2⟩ | ⟨e2, _⟩
      · exact ei ▸ (ha k r hk2).symm
      · omega
end
/-- What the elements say. -/
def SaysT (es : List El) (ts : List Tx) : Prop := es.map (fun e => (e.1, e.2.1.2.2, e.2.2)) = ts.map (fun t => (t.1, flat3 t.2.1, t.2.2))
theorem SaysT.at_ {es : List El} {ts : List Tx} (h : SaysT es ts) {k : Nat} {t : Tx} (hk : ts[k]? = some t) : ∃ e, es[k]? = some e ∧ e.1 = t.1 ∧ e.2.1.2.2 = flat3 t.2.1 ∧ e.2.2 = t.2.2 := by
  have h1 := congrArg (fun l => l[k]?) h
  simp only [List.getElem?_map, hk, Option.map_some] at h1
  cases he : es[k]? with
  | none => rw [he] at h1; cases h1
  | some e =>
    rw [he] at h1
    simp only [Option.map_some, Option.some.injEq, Prod.mk.injEq] at h1
    exact ⟨e, rfl, h1.1, h1.2.1, h1.2.2⟩
theorem SaysT.len {es : List El} {ts : List Tx} (h : SaysT es ts) : es.length = ts.length := by have := congrArg List.length h; simpa using this
theorem OT.sts {w : World} {lo n : Nat} {v : Value} {es : List El} {ts : List Tx} (h : OT w lo v n es) (hs : SaysT es ts) : STs w v n ts := by
  have hl := h.len
  have hl2 := hs.len
  rcases h.shape with ⟨rfl, rfl⟩ | ⟨g, c, rfl, _, hgs, hnc, hcm, _⟩
  · have : ts = [] := List.eq_nil_of_length_eq_zero (by omega)
    subst this
    exact ⟨none, 0, rfl, Nat.le_refl _, by omega, RTs.nil⟩
  · refine ⟨_, c, rfl, hnc, h.small, by omega, fun _ => ⟨g, 0, rfl, hgs, fun k t hk => ?_⟩⟩
    obtain ⟨e, he, e1, e2, e3⟩ := hs.at_ hk
    obtain ⟨c0, c1, c2⟩ := h.cells he
    have ho := h.own k e he
    rw [e2] at ho
    obtain ⟨A, c', h1, h2, h3, _⟩ := OF.form ho
    have ho3 : O3 61 w lo e.2.1.1 e.2.1.2.1 t.2.1 := ho
    obtain ⟨A', c'', h4, _, _, h5⟩ := ho3.s3
    rw [h1] at h4; injection h4 with e4 _ e5; subst e4; subst e5
    rw [h1] at c1
    refine ⟨A, e.2.1.2.1, c', ?_, ?_, ?_, h2, h3, h5⟩
    · rw [Nat.zero_add, ← e1]; exact c0
    · rw [Nat.zero_add]; exact c1
    · rw [Nat.zero_add, ← e3]; exact c2
end Go.Proofs.YtcfkemchekmjbaaGreatDoor

namespace Go.Proofs.YtcfkemchekmjbaaGreatDoor
open Go.RowKit
theorem infoOpz : (Tryz.prog.info? 61).map (fun i => (i.zero, i.size, i.bytes)) = some (some (.agg #[.int .i64 0, .int .i64 0, .int .i64 0]), 3, 24) := by kernel_rfl
theorem Rd.three {w : World} {g : Nat} {t : TypeId} {a b c : Value} (h : Blk w g t #[a, b, c]) : Rd w 3 (some ⟨g, 0, none⟩) 1 [a, b, c] :=
  ⟨rfl, fun _ => ⟨g, 0, rfl, h.lt, fun k u hu => by
    rw [Nat.zero_add, h.cell]
    match k, hu with
    | 0, hu => simpa using hu
    | 1, hu => simpa using hu
    | 2, hu => simpa using hu⟩⟩
theorem Rd.two {w : World} {g : Nat} {t : TypeId} {a b : Value} (h : Blk w g t #[a, b]) : Rd w 2 (some ⟨g, 0, none⟩) 1 [a, b] :=
  ⟨rfl, fun _ => ⟨g, 0, rfl, h.lt, fun k u hu => by
    rw [Nat.zero_add, h.cell]
    match k, hu with
    | 0, hu => simpa using hu
    | 1, hu => simpa using hu⟩⟩
/-- The cells of drafts. -/
def cellsD : List (Int × In) → List Value
  | [] => []
  | e :: es => .int .i64 e.1 :: e.2.1 :: cellsD es
theorem cellsD_append : ∀ es fs : List (Int × In), cellsD (es ++ fs) = cellsD es ++ cellsD fs
  | [], fs => rfl
  | e :: es, fs => by simp [cellsD, cellsD_append es fs]
/-- Drafts of the call's own. -/
structure OD (w : World) (lo : Nat) (v : Value) (n : Nat) (es : List (Int × In)) : Prop where
  row : w.ownsRow lo 77 2 v n (cellsD es)
  own : ∀ (j : Nat) (e : Int × In), es[j]? = some e → OF 61 3 w lo e.2.1 e.2.2.1 e.2.2.2
  len : es.length = n
  small : n ≤ 1048576
theorem OD.below {w w' : World} {lo n : Nat} {v : Value} {es : List (Int × In)} (h : OD w lo v n es) (hb : Below w.heap.size w w') : OD w' lo v n es :=
  ⟨own_chg h.row (S := fun _ => False) (Chg.of_below hb) (fun _ _ => id), fun j e hj => (h.own j e hj).below hb, h.len, h.small⟩
theorem OD.ne {w : World} {lo n : Nat} {v : Value} {es : List (Int × In)} (h : OD w lo v n es) {j : Nat} {e : Int × In} (hj : es[j]? = some e) {k : Nat} (hk : v.ownBlock = some k) : e.2.1.ownBlock ≠ some k := by
  rcases h.row.2 with ⟨rfl, _⟩ | ⟨g, cap, cur, rfl, _, hb, _⟩
  · simp [Value.ownBlock] at hk
  · have e1 : g = k := by have h : some g = some k := hk; injection h
    subst e1
    exact (h.own j e hj).ne_blk hb (by decide)
theorem OD.push {w w' : World} {lo n : Nat} {v v' : Value} {es : List (Int × In)} (h : OD w lo v n es) {e : Int × In} (hr : w'.ownsRow lo 77 2 v' (n + 1) (cellsD es ++ [.int .i64 e.1, e.2.1])) (hg : w.grownBy w' v.ownBlock) (ho : OF 61 3 w' lo e.2.1 e.2.2.1 e.2.2.2) (hn : n + 1 ≤ 1048576) : OD w' lo v' (n + 1) (es ++ [e]) := by
  refine ⟨by rw [cellsD_append]; exact hr, fun i p hi => ?_, by simp [h.len], hn⟩
  by_cases e1 : i < es.length
  · rw [List.getElem?_append_left e1] at hi
    refine (h.own i p hi).grown hg ?_
    cases hv : p.2.1.ownBlock with
    | none => exact .inl rfl
    | some k => right; intro e2; exact h.ne hi e2.symm hv
  · have : i = es.length := by have := (List.getElem?_eq_some_iff.1 hi).1; simp at this; omega
    subst this
    simp at hi
    subst hi; exact ho
def SaysD (es : List (Int × In)) (ds : Ds) : Prop := es.map (fun e => (e.1, e.2.2.2)) = ds.map (fun d => (d.1, flat3 d.2))
theorem SaysD.nil : SaysD [] [] := rfl
theorem SaysD.push {es : List (Int × In)} {ds : Ds} {k : Nat} {f : Int} {ys : List T3} {v : Value} {n : Nat} (h : SaysD es (ds.take k)) (hx : ds[k]? = some (f, ys)) : SaysD (es ++ [(f, (v, n, flat3 ys))]) (ds.take (k + 1)) := by
  unfold SaysD at *
  rw [List.map_append, h, List.take_add_one, hx, List.map_append]; rfl
def emptyT (ds : Ds) : List Tx := ds.map fun d => (d.1, [], false)
theorem SaysT.push {es : List El} {ds : Ds} {k : Nat} {f : Int} {ys : List T3} {v : Value} (h : SaysT es (emptyT (ds.take k))) (hx : ds[k]? = some (f, ys)) : SaysT (es ++ [(f, (v, 0, []), false)]) (emptyT (ds.take (k + 1))) := by
  unfold SaysT emptyT at *
  rw [List.map_append, h, List.take_add_one, hx]; simp [flat3]
theorem OT.zero {w : World} {lo : Nat} (hlo : lo ≤ w.heap.size) : OT (w.alloc (.cells #[] 66)) lo (.slice (some ⟨w.heap.size, 0, none⟩) 0 0) 0 [] :=
  ⟨⟨rfl, .inr ⟨w.heap.size, 0, #[], rfl, hlo, Blk.new w _ _, Nat.le_refl _, by simp [maxLen], rfl, rfl⟩⟩, fun j e h => by simp at h, fun i j p q _ h => by simp at h, by omega⟩
theorem OT.none_ {w : World} {lo : Nat} : OT w lo (.slice none 0 0) 0 [] := ⟨⟨rfl, .inl ⟨rfl, rfl⟩⟩, fun j e h => by simp at h, fun i j p q _ h => by simp at h, by omega⟩
end Go.Proofs.YtcfkemchekmjbaaGreatDoor

namespace Go.Proofs.YtcfkemchekmjbaaGreatDoor
/-- The steps of a draft; the operations that a transaction has. -/
def stepsOf (ds : Ds) (n : Nat) : List T3 := (ds.getD n (0, [])).2
def opsOf (ts : List Tx) (n : Nat) : List T3 := (ts.getD n (0, [], false)).2.1
def sesOf (ts : List Tx) (n : Nat) : Int := (ts.getD n (0, [], false)).1
abbrev RunSt := List Tx × List Int
/-- A state that goes with the plan: each transaction has at most the steps of its draft, and is done if it has all. -/
def Fits (ds : Ds) (ts : List Tx) : Prop := ts.length = ds.length ∧ ∀ (n : Nat) (d : Int × List T3) (t : Tx), ds[n]? = some d → ts[n]? = some t → t.1 = d.1 ∧ t.2.1.length ≤ d.2.length ∧ t.2.2 = decide (t.2.1.length = d.2.length)
def Vals (st : List Int) : Prop := st.length = 3 ∧ ∀ v ∈ st, 0 ≤ v ∧ v ≤ 99
theorem draftB_parts {d : Int × List T3} (h : draftB d = true) : 1 ≤ d.2.length ∧ d.2.length ≤ 4 ∧ (0 ≤ d.1 ∧ d.1 ≤ 3) ∧ ∀ s ∈ d.2, (s.1 = 1 ∨ s.1 = 2) ∧ (0 ≤ s.2.1 ∧ s.2.1 ≤ 2) ∧ s.2.2 = 0 := by
  unfold draftB at h
  simp only [Bool.and_eq_true, List.all_eq_true] at h
  obtain ⟨h1, h2, h3⟩ := h
  have h1 := (inB_iff _ _ _).1 h1
  have h2 := (inB_iff _ _ _).1 h2
  refine ⟨by omega, by omega, h1, fun s hs => ?_⟩
  have := h3 s hs
  unfold stepB at this
  simp only [Bool.and_eq_true, beq_iff_eq] at this
  obtain ⟨a, b, c⟩ := this
  have a := (inB_iff _ _ _).1 a
  have b := (inB_iff _ _ _).1 b
  exact ⟨by omega, b, c⟩
theorem Fits.empty {ds : Ds} (h : ∀ d ∈ ds, draftB d = true) : Fits ds (emptyT ds) := by
  refine ⟨by simp [emptyT], fun n d t hd ht => ?_⟩
  have hl := (draftB_parts (h d (List.mem_of_getElem? hd))).1
  unfold emptyT at ht
  rw [List.getElem?_map, hd] at ht
  injection ht with ht; subst ht
  refine ⟨rfl, by simp, ?_⟩
  simp; omega
theorem Vals.zero : Vals [0, 0, 0] := ⟨rfl, fun v h => by simp at h; omega⟩
theorem Fits.at_ {ds : Ds} {ts : List Tx} (h : Fits ds ts) {n : Nat} (hn : n < ds.length) : ∃ d t, ds[n]? = some d ∧ ts[n]? = some t ∧ stepsOf ds n = d.2 ∧ opsOf ts n = t.2.1 ∧ sesOf ts n = t.1 ∧ t.2.1.length ≤ d.2.length ∧ t.2.2 = decide (t.2.1.length = d.2.length) := by
  have h1 : ds[n]? = some (ds[n]'hn) := List.getElem?_eq_getElem hn
  have hn2 : n < ts.length := by rw [h.1]; exact hn
  have h2 : ts[n]? = some (ts[n]'hn2) := List.getElem?_eq_getElem hn2
  obtain ⟨a, b, c⟩ := h.2 n _ _ h1 h2
  exact ⟨_, _, h1, h2, by simp [stepsOf, List.getD, h1], by simp [opsOf, List.getD, h2], by simp [sesOf, List.getD, h2], b, c⟩
/-- One more operation. -/
theorem Fits.step {ds : Ds} {ts : List Tx} (h : Fits ds ts) {n : Nat} {d : Int × List T3} {t : Tx} (hd : ds[n]? = some d) (ht : ts[n]? = some t) (hl : t.2.1.length < d.2.length) (o : T3) : Fits ds (ts.set n (t.1, t.2.1 ++ [o], decide (t.2.1.length + 1 = d.2.length))) := by
  refine ⟨by simp [h.1], fun i d' t' hd' ht' => ?_⟩
  by_cases e : n = i
  · subst e
    rw [List.getElem?_set_self (List.getElem?_eq_some_iff.1 ht).1] at ht'
    injection ht' with ht'; subst ht'
    have := hd.symm.trans hd'
    injection this with this; subst this
    refine ⟨(h.2 n d t hd ht).1, by simp; omega, by simp⟩
  · rw [List.getElem?_set_ne e] at ht'
    exact h.2 i d' t' hd' ht'
theorem Vals.set_ {st : List Int} (h : Vals st) (i : Nat) {v : Int} (hv : 0 ≤ v ∧ v ≤ 99) : Vals (st.set i v) :=
  ⟨by simp [h.1], fun x hx => by
    rcases List.mem_or_eq_of_mem_set hx with hx | rfl
    · exact h.2 x hx
    · exact hv⟩
end Go.Proofs.YtcfkemchekmjbaaGreatDoor

namespace Go.Proofs.YtcfkemchekmjbaaGreatDoor
open Go.RowKit
set_option maxHeartbeats 400000 in
theorem writes_c {x y z : Int} {w : World} : Calls Tryz.prog 94 #[.agg #[.int .i64 x, .int .i64 y, .int .i64 z]] w fun e w' => e = .returned (.bool (x == 2)) ∧ Below w.heap.size w w' := by
  go_enter Tryz.func94, Tryz.ntmps94
  go_wp2_with fail
  go_ret
  exact ⟨rfl, (Below.refl _ _).alloc (Nat.le_refl _) _⟩
/-- The machine at block gm: the plan, the history. -/
structure Mach (w : World) (lo gm : Nat) (A : Option Addr) (n c : Nat) (v : Value) (ts : List Tx) (es : List El) : Prop where
  box : Blk w gm 68 #[.slice A n c, v]
  own : OT w lo v n es
  says : SaysT es ts
  lt : gm < lo
theorem Mach.below {w w' : World} {lo gm n c : Nat} {A : Option Addr} {v : Value} {ts : List Tx} {es : List El} (h : Mach w lo gm A n c v ts es) (hb : Below w.heap.size w w') : Mach w' lo gm A n c v ts es :=
  ⟨h.box.belowAll hb, h.own.below hb, h.says, h.lt⟩
theorem O3.made {w : World} (k : Nat) (hk : k ≤ 1048576) : O3 61 (w.alloc (.cells ((List.replicate (k * 3) (Value.int .i64 0)).toArray) 61)) w.heap.size (.slice (some ⟨w.heap.size, 0, none⟩) 0 k) 0 [] :=
  ⟨⟨rfl, .inr ⟨w.heap.size, k, _, rfl, Nat.le_refl _, Blk.new w _ _, Nat.zero_le _, by simp [maxLen]; omega, by simp, by simp [flat3]⟩⟩, by omega⟩
theorem run_make_Opc (k : Nat) (hk : k ≤ 1048576) (w : World) :
    (Instr.makeSlice 64 (.int .i64 0) (.int .i64 (k : Int))).run Tryz.prog w = .ok (.slice (some ⟨w.heap.size, 0, none⟩) 0 k) (w.alloc (.cells ((List.replicate (k * 3) (Value.int .i64 0)).toArray) 61)) := by
  obtain ⟨i, hi, hz, hs, hb⟩ := info_parts infoOpz
  have := run_make_rowN 64 61 i (.agg #[.int .i64 0, .int .i64 0, .int .i64 0]) Tryz.underlying64 hi hz .i64 .i64 0 k (Nat.zero_le _) (by rw [hb]; omega) (by omega) w
  have e1 : madeCells (Value.agg #[.int .i64 0, .int .i64 0, .int .i64 0]).cells (k * i.size) = (List.replicate (k * 3) (Value.int .i64 0)).toArray := by
    rw [hs, ← Array.toArray_toList (xs := madeCells _ _)]
    rw [show (Value.agg #[.int .i64 0, .int .i64 0, .int .i64 0]).cells = #[Value.int .i64 0, Value.int .i64 0, Value.int .i64 0] from rfl, toList_madeCells3']
  rw [e1] at this
  exact this
end Go.Proofs.YtcfkemchekmjbaaGreatDoor
