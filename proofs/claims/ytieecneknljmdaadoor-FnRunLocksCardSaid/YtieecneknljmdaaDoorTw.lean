/- Transactions of the call's own whose slices may be clipped: OV; mark, held. Printed from XTx, XTx2, XOpS. -/
import Derived.Test.YtieecneknljmdaaDoorOw
namespace Go.Proofs.YtieecneknljmdaaDoor
open Go.RowKit



structure OV (w : World) (lo : Nat) (v : Value) (n : Nat) (es : List El) : Prop where
  row : w.ownsRow lo 58 3 v n (cellsT es)
  own : ∀ (j : Nat) (e : El), es[j]? = some e → OW 51 3 w lo e.2.1.1 e.2.1.2.1 e.2.1.2.2
  apart : ∀ (i j : Nat) (p q : El), i ≠ j → es[i]? = some p → es[j]? = some q → Apart p.2.1.1 q.2.1.1
  small : n ≤ 1048576
section
variable {w w' : World} {lo n : Nat} {v : Value} {es : List El}
theorem OV.len (h : OV w lo v n es) : es.length = n := by have := h.row.1; rw [cellsT_len] at this; omega
theorem OV.shape (h : OV w lo v n es) : v = .slice none 0 0 ∧ n = 0 ∨ ∃ g c, v = .slice (some ⟨g, 0, none⟩) n c ∧ lo ≤ g ∧ g < w.heap.size ∧ n ≤ c ∧ c ≤ maxLen ∧ ∃ cs, Blk w g 58 cs := by
  rcases h.row.2 with ⟨h1, h2⟩ | ⟨g, cap, cur, h1, hB, hg, hc, hm, hs, ht⟩
  · exact .inl ⟨h1, h2⟩
  · exact .inr ⟨g, cap, h1, hB, Blk.lt hg, hc, hm, cur, hg⟩
theorem OV.ne (h : OV w lo v n es) {j : Nat} {e : El} (hj : es[j]? = some e) {k : Nat} (hk : v.ownBlock = some k) : e.2.1.1.ownBlock ≠ some k := by
  rcases h.shape with ⟨rfl, _⟩ | ⟨g, c, rfl, _, _, _, _, cs, hb⟩
  · simp [Value.ownBlock] at hk
  · have e1 : g = k := by have h : some g = some k := hk; injection h
    subst e1
    exact (h.own j e hj).ne_blk hb (by decide)
/-- The blocks in which it lies. -/
def OV.S (v : Value) (es : List El) (k : Nat) : Prop := v.ownBlock = some k ∨ ∃ (j : Nat) (e : El), es[j]? = some e ∧ e.2.1.1.ownBlock = some k
theorem OV.range (h : OV w lo v n es) : ∀ k, OV.S v es k → lo ≤ k ∧ k < w.heap.size := fun k hk => by
  rcases hk with hk | ⟨j, e, hj, hk⟩
  · exact World.ownsRow.lt h.row k hk
  · exact (h.own j e hj).lt k hk
theorem OV.chg {S : Nat → Prop} (h : OV w lo v n es) (hc : Chg S w w') (hS : ∀ k, OV.S v es k → ¬ S k) : OV w' lo v n es :=
  ⟨own_chg h.row hc (fun k hk => hS k (.inl hk)), fun j e hj => (h.own j e hj).chg hc (fun k hk => hS k (.inr ⟨j, e, hj, hk⟩)), h.apart, h.small⟩
theorem OV.below (h : OV w lo v n es) (hb : Below w.heap.size w w') : OV w' lo v n es := h.chg (S := fun _ => False) (Chg.of_below hb) (fun _ _ => id)
theorem OV.mono {lo' : Nat} (h : OV w lo v n es) (hl : lo' ≤ lo) : OV w lo' v n es := by
  refine ⟨⟨h.row.1, ?_⟩, fun j e hj => (h.own j e hj).mono hl, h.apart, h.small⟩
  rcases h.row.2 with h2 | ⟨g, cap, cur, hv, hb, r⟩
  · exact .inl h2
  · exact .inr ⟨g, cap, cur, hv, by omega, r⟩
theorem OV.alloc (h : OV w lo v n es) (o : Obj) : OV (w.alloc o) lo v n es := h.below ((Below.refl _ _).alloc (Nat.le_refl _) _)
theorem OV.drew (h : OV w lo v n es) : OV w.drew lo v n es := h.below (Below.refl _ _).drew
theorem OV.grown {row : Option Nat} (h : OV w lo v n es) (hg : w.grownBy w' row) (hne : ∀ k, row = some k → ¬ OV.S v es k) : OV w' lo v n es :=
  h.chg (S := fun k => row = some k) (Chg.of_grown hg (fun _ e => e)) (fun k hk hr => hne k hr hk)
theorem OV.cells {g c : Nat} (h : OV w lo (.slice (some ⟨g, 0, none⟩) n c) n es) {j : Nat} {e : El} (hj : es[j]? = some e) :
    w.cell? ⟨g, j * 3, none⟩ = some (.int .i64 e.1) ∧ w.cell? ⟨g, j * 3 + 1, none⟩ = some e.2.1.1 ∧ w.cell? ⟨g, j * 3 + 2, none⟩ = some (.bool e.2.2) := by
  have hjn : j < n := by rw [← h.len]; exact (List.getElem?_eq_some_iff.1 hj).1
  have hl := cellsT_len es
  rw [h.len] at hl
  obtain ⟨h0, h1, h2⟩ := cellsT_get es j e hj
  refine ⟨(World.ownsRow.cellAt h.row (j * 3) (by omega)).trans ?_, (World.ownsRow.cellAt h.row (j * 3 + 1) (by omega)).trans ?_, (World.ownsRow.cellAt h.row (j * 3 + 2) (by omega)).trans ?_⟩
  · rw [← h0, List.getElem?_eq_getElem (by omega)]
  · rw [← h1, List.getElem?_eq_getElem (by omega)]
  · rw [← h2, List.getElem?_eq_getElem (by omega)]
theorem OV.free {g c : Nat} (h : OV w lo (.slice (some ⟨g, 0, none⟩) n c) n es) (i : Nat) : w.frozen? ⟨g, i, none⟩ = false := World.ownsRow.frozenAt h.row i
theorem OV.base {g c : Nat} (h : OV w lo (.slice (some ⟨g, 0, none⟩) n c) n es) : lo ≤ g ∧ g < w.heap.size := World.ownsRow.lt h.row g rfl
/-- Of a turned list of elements: who has the same slices. -/
theorem OV.turn {es' : List El} (h : OV w lo v n es) (hr : w'.ownsRow lo 58 3 v n (cellsT es')) (hs : ∀ (j : Nat) (e' : El), es'[j]? = some e' → ∃ e, es[j]? = some e ∧ e'.2.1.1 = e.2.1.1 ∧ OW 51 3 w' lo e'.2.1.1 e'.2.1.2.1 e'.2.1.2.2) : OV w' lo v n es' :=
  ⟨hr, fun j e hj => by obtain ⟨_, _, _, h3⟩ := hs j e hj; exact h3, fun i j p q hij hp hq => by
    obtain ⟨p', h1, h2, _⟩ := hs i p hp
    obtain ⟨q', h3, h4, _⟩ := hs j q hq
    rw [h2, h4]; exact h.apart i j p' q' hij h1 h3, h.small⟩
theorem OW.set_row {g c : Nat} (h : OV w lo (.slice (some ⟨g, 0, none⟩) n c) n es) {j : Nat} {e : El} (hj : es[j]? = some e) (i : Nat) (u : Value) : OW 51 3 (w.setCell ⟨g, i, none⟩ u) lo e.2.1.1 e.2.1.2.1 e.2.1.2.2 :=
  (h.own j e hj).chg (Chg.setCell (S := fun k => k = g) (p := ⟨g, i, none⟩) rfl u) (fun k hk e1 => h.ne hj (k := g) rfl (by rw [hk, e1]))
theorem OV.set0 {g c : Nat} (h : OV w lo (.slice (some ⟨g, 0, none⟩) n c) n es) {j : Nat} {e : El} (hj : es[j]? = some e) (x : Int) :
    OV (w.setCell ⟨g, j * 3, none⟩ (.int .i64 x)) lo (.slice (some ⟨g, 0, none⟩) n c) n (es.set j (x, e.2)) := by
  refine h.turn ?_ (fun i e' hi => ?_)
  · rw [← cellsT_set0 es j e x hj]; exact (World.ownsRow.stored h.row (j * 3) (.int .i64 x)).1
  · by_cases e1 : j = i
    · subst e1
      rw [List.getElem?_set_self (List.getElem?_eq_some_iff.1 hj).1] at hi
      injection hi with hi; subst hi
      exact ⟨e, hj, rfl, OW.set_row h hj _ _⟩
    · rw [List.getElem?_set_ne e1] at hi
      exact ⟨e', hi, rfl, OW.set_row h hi _ _⟩
theorem OV.set2 {g c : Nat} (h : OV w lo (.slice (some ⟨g, 0, none⟩) n c) n es) {j : Nat} {e : El} (hj : es[j]? = some e) (x : Bool) :
    OV (w.setCell ⟨g, j * 3 + 2, none⟩ (.bool x)) lo (.slice (some ⟨g, 0, none⟩) n c) n (es.set j (e.1, e.2.1, x)) := by
  refine h.turn ?_ (fun i e' hi => ?_)
  · rw [← cellsT_set2 es j e x hj]; exact (World.ownsRow.stored h.row (j * 3 + 2) (.bool x)).1
  · by_cases e1 : j = i
    · subst e1
      rw [List.getElem?_set_self (List.getElem?_eq_some_iff.1 hj).1] at hi
      injection hi with hi; subst hi
      exact ⟨e, hj, rfl, OW.set_row h hj _ _⟩
    · rw [List.getElem?_set_ne e1] at hi
      exact ⟨e', hi, rfl, OW.set_row h hi _ _⟩
/-- One element's slice was written in place. -/
theorem OV.upd (h : OV w lo v n es) {j : Nat} {e : El} (hj : es[j]? = some e) (hg : w.grownBy w' e.2.1.1.ownBlock) {m : Nat} {xs : List Int} (ho : OW 51 3 w' lo e.2.1.1 m xs) : OV w' lo v n (es.set j (e.1, (e.2.1.1, m, xs), e.2.2)) := by
  refine h.turn ?_ (fun i e' hi => ?_)
  · rw [cellsT_same hj (e.2.1.1, m, xs) rfl]
    exact own_chg h.row (S := fun k => e.2.1.1.ownBlock = some k) (Chg.of_grown hg (fun _ e => e)) (fun k hk hr => h.ne hj hk hr)
  · by_cases e1 : j = i
    · subst e1
      rw [List.getElem?_set_self (List.getElem?_eq_some_iff.1 hj).1] at hi
      injection hi with hi; subst hi
      exact ⟨e, hj, rfl, ho⟩
    · rw [List.getElem?_set_ne e1] at hi
      exact ⟨e', hi, rfl, (h.own i e' hi).grown hg (h.apart i j e' e (Ne.symm e1) hi hj)⟩
/-- One element's slice was appended to, and stored back. -/
theorem OV.append {g c : Nat} (h : OV w lo (.slice (some ⟨g, 0, none⟩) n c) n es) {j : Nat} {e : El} (hj : es[j]? = some e) (hg : w.grownBy w' e.2.1.1.ownBlock) {q : In} (ho : OW 51 3 w' lo q.1 q.2.1 q.2.2)
    (hq : q.1.ownBlock = e.2.1.1.ownBlock ∨ ∀ k, q.1.ownBlock = some k → w.heap.size ≤ k) : OV (w'.setCell ⟨g, j * 3 + 1, none⟩ q.1) lo (.slice (some ⟨g, 0, none⟩) n c) n (es.set j (e.1, q, e.2.2)) := by
  have hjl := (List.getElem?_eq_some_iff.1 hj).1
  have hrow : w'.ownsRow lo 58 3 (.slice (some ⟨g, 0, none⟩) n c) n (cellsT es) := own_chg h.row (S := fun k => e.2.1.1.ownBlock = some k) (Chg.of_grown hg (fun _ e => e)) (fun k hk hr => h.ne hj hk hr)
  have hblk : ∃ cs, Blk w' g 58 cs := by
    rcases hrow.2 with ⟨h1, _⟩ | ⟨g', cap, cur, h1, _, hb, _⟩
    · cases h1
    · injection h1 with h1; injection h1 with h1; injection h1 with h1; subst h1; exact ⟨cur, hb⟩
  obtain ⟨cs, hblk⟩ := hblk
  have hset : ∀ {m : Nat} {u : Value} {xs : List Int}, OW 51 3 w' lo u m xs → OW 51 3 (w'.setCell ⟨g, j * 3 + 1, none⟩ q.1) lo u m xs := fun {m u xs} hu =>
    hu.chg (Chg.setCell (S := fun k => k = g) (p := ⟨g, j * 3 + 1, none⟩) rfl _) (fun k hk e1 => hu.ne_blk hblk (by decide) (by rw [hk, e1]))
  have hap : ∀ (i : Nat) (p : El), i ≠ j → es[i]? = some p → Apart p.2.1.1 q.1 := fun i p hij hi => by
    rcases hq with hq | hq
    · have := h.apart i j p e hij hi hj
      unfold Apart at *
      rw [hq]; exact this
    · unfold Apart
      cases hp : p.2.1.1.ownBlock with
      | none => exact .inl rfl
      | some k =>
        right; intro e1
        have h1 := (h.own i p hi).lt k hp
        have h2 := hq k e1.symm
        omega
  refine ⟨?_, fun i p hi => ?_, fun i k p r hik hi hk => ?_, h.small⟩
  · rw [← cellsT_set1 es j e q hj]; exact (World.ownsRow.stored hrow (j * 3 + 1) q.1).1
  · by_cases e1 : j = i
    · subst e1
      rw [List.getElem?_set_self hjl] at hi
      injection hi with hi; subst hi
      exact hset ho
    · rw [List.getElem?_set_ne e1] at hi
      exact hset ((h.own i p hi).grown hg (h.apart i j p e (Ne.symm e1) hi hj))
  · by_cases e1 : j = i
    · subst e1
      rw [List.getElem?_set_self hjl] at hi
      rw [List.getElem?_set_ne hik] at hk
      injection hi with hi; subst hi
      exact (hap k r (Ne.symm hik) hk).symm
    · rw [List.getElem?_set_ne e1] at hi
      by_cases e2 : j = k
      · subst e2
        rw [List.getElem?_set_self hjl] at hk
        injection hk with hk; subst hk
        exact hap i p (Ne.symm e1) hi
      · rw [List.getElem?_set_ne e2] at hk
        exact h.apart i k p r hik hi hk
/-- A further element behind all. -/
theorem OV.push {v' : Value} (h : OV w lo v n es) {e : El} (hr : w'.ownsRow lo 58 3 v' (n + 1) (cellsT (es ++ [e]))) (hg : w.grownBy w' v.ownBlock) (ho : OW 51 3 w' lo e.2.1.1 e.2.1.2.1 e.2.1.2.2)
    (ha : ∀ (j : Nat) (p : El), es[j]? = some p → Apart p.2.1.1 e.2.1.1) (hn : n + 1 ≤ 1048576) : OV w' lo v' (n + 1) (es ++ [e]) := by
  have key : ∀ (i : Nat) (p : El), (es ++ [e])[i]? = some p → (i < es.length ∧ es[i]? = some p) ∨ (i = es.length ∧ p = e) := fun i p hi => by
    by_cases e1 : i < es.length
    · rw [List.getElem?_append_left e1] at hi; exact .inl ⟨e1, hi⟩
    · have : i = es.length := by have := (List.getElem?_eq_some_iff.1 hi).1; simp at this; omega
      subst this
      simp at hi
      exact .inr ⟨rfl, hi.symm⟩
  refine ⟨hr, fun i p hi => ?_, fun i k p r hik hi hk => ?_, hn⟩
  · rcases key i p hi with ⟨_, hi2⟩ | ⟨_, rfl⟩
    · refine (h.own i p hi2).grown hg ?_
      cases hv : p.2.1.1.ownBlock with
      | none => exact .inl rfl
      | some k => right; intro e2; exact h.ne hi2 e2.symm hv
    · exact ho
  · rcases key i p hi with ⟨_, hi2⟩ | ⟨e1, ei⟩
    · rcases key k r hk with ⟨_, hk2⟩ | ⟨_, ek⟩
      · exact h.apart i k p r hik hi2 hk2
      · exact ek ▸ ha i p hi2
    · rcases key k r hk with ⟨_, hk2⟩ | ⟨e2, _⟩
      · exact ei ▸ (ha k r hk2).symm
      · omega
end
theorem OV.sts {w : World} {lo n : Nat} {v : Value} {es : List El} {ts : List Tx} (h : OV w lo v n es) (hs : SaysT es ts) : STs w v n ts := by
  have hl := h.len
  have hl2 := hs.len
  rcases h.shape with ⟨rfl, rfl⟩ | ⟨g, c, rfl, _, hgs, hnc, hcm, _⟩
  · have : ts = [] := List.eq_nil_of_length_eq_zero (by omega)
    subst this
    exact ⟨none, 0, rfl, Nat.le_refl _, by omega, RTs.nil⟩
  · refine ⟨_, c, rfl, hnc, h.small, by omega, fun _ => ⟨g, 0, rfl, hgs, fun k t hk => ?_⟩⟩
    obtain ⟨e, he, e1, e2, e3⟩ := hs.at_ hk
    obtain ⟨c0, c1, c2⟩ := h.cells he
    have ho := h.own k e he
    rw [e2] at ho
    obtain ⟨A, c', h1, h2, h3, _⟩ := OW.form ho
    obtain ⟨A', c'', h4, _, _, h5⟩ := ho.s3
    rw [h1] at h4; injection h4 with e4 _ e5; subst e4; subst e5
    rw [h1] at c1
    refine ⟨A, e.2.1.2.1, c', ?_, ?_, ?_, h2, h3, h5⟩
    · rw [Nat.zero_add, ← e1]; exact c0
    · rw [Nat.zero_add]; exact c1
    · rw [Nat.zero_add, ← e3]; exact c2





end Go.Proofs.YtieecneknljmdaaDoor
