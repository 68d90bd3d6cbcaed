/- Drafts of the call's own whose steps are appended to. -/
import Derived.Test.YtefopnkicllpeaaDoorSpO
import Derived.Test.YtefopnkicllpeaaDoorSpQ
import Derived.Test.YtefopnkicllpeaaDoorSpV
namespace Go.Proofs.YtefopnkicllpeaaDoor
open Go.RowKit

theorem cellsD_set1 : ∀ (es : List (Int × In)) (k : Nat) (e : Int × In) (q : In), es[k]? = some e → (cellsD es).set (k * 2 + 1) q.1 = cellsD (es.set k (e.1, q))
  | [], k, e, x, h => by simp at h
  | a :: es, 0, e, x, h => by
    simp only [List.getElem?_cons_zero, Option.some.injEq] at h
    subst h; simp [cellsD]
  | a :: es, k + 1, e, x, h => by
    simp only [List.getElem?_cons_succ] at h
    simp only [cellsD, show (k + 1) * 2 + 1 = k * 2 + 1 + 1 + 1 by omega, List.set_cons_succ, cellsD_set1 es k e x h]
structure OA (w : World) (lo : Nat) (v : Value) (es : List (Int × In)) : Prop where
  row : w.ownsRow lo 37 2 v es.length (cellsD es)
  own : ∀ (j : Nat) (e : Int × In), es[j]? = some e → OF 42 3 w lo e.2.1 e.2.2.1 e.2.2.2
  apart : ∀ (i j : Nat) (p q : Int × In), i ≠ j → es[i]? = some p → es[j]? = some q → Apart p.2.1 q.2.1
  small : es.length ≤ 1048576
theorem OA.ow2 {w : World} {lo : Nat} {v : Value} {es : List (Int × In)} (h : OA w lo v es) : OW2 w lo v es.length es := ⟨h.row, fun j e hj => (h.own j e hj).ow, h.apart, rfl, h.small⟩
theorem OA.below {w w' : World} {lo : Nat} {v : Value} {es : List (Int × In)} (h : OA w lo v es) (hb : Below w.heap.size w w') : OA w' lo v es :=
  ⟨own_chg h.row (S := fun _ => False) (Chg.of_below hb) (fun _ _ => id), fun j e hj => (h.own j e hj).below hb, h.apart, h.small⟩
theorem OA.zero {w : World} : OA (w.alloc (.cells #[] 37)) w.heap.size (.slice (some ⟨w.heap.size, 0, none⟩) 0 0) [] :=
  ⟨⟨rfl, .inr ⟨w.heap.size, 0, #[], rfl, Nat.le_refl _, Blk.new w _ _, Nat.le_refl _, by simp [maxLen], by simp, by simp [cellsD]⟩⟩, fun j e h => by simp at h, fun i j p q _ h => by simp at h, by simp⟩
theorem OA.push {w w' : World} {lo : Nat} {v v' : Value} {es : List (Int × In)} (h : OA w lo v es) {f : Int} (hr : w'.ownsRow lo 37 2 v' (es.length + 1) (cellsD es ++ [.int .i64 f, .slice none 0 0])) (hg : w.grownBy w' v.ownBlock) (hn : es.length + 1 ≤ 1048576) : OA w' lo v' (es ++ [(f, (.slice none 0 0, 0, []))]) := by
  have hx : ∀ (i : Nat) (p : Int × In), (es ++ [(f, ((.slice none 0 0 : Value), 0, []))])[i]? = some p → (i < es.length ∧ es[i]? = some p) ∨ (i = es.length ∧ p = (f, ((.slice none 0 0 : Value), 0, []))) := fun i p hi => by
    by_cases e1 : i < es.length
    · rw [List.getElem?_append_left e1] at hi; exact .inl ⟨e1, hi⟩
    · have : i = es.length := by have := (List.getElem?_eq_some_iff.1 hi).1; simp at this; omega
      subst this
      simp at hi
      exact .inr ⟨rfl, hi.symm⟩
  refine ⟨by rw [cellsD_append, List.length_append]; exact hr, fun i p hi => ?_, fun i j p q hij hi hj => ?_, by simpa using hn⟩
  · rcases hx i p hi with ⟨_, hi⟩ | ⟨_, rfl⟩
    · refine (h.own i p hi).grown hg ?_
      cases hv : p.2.1.ownBlock with
      | none => exact .inl rfl
      | some k => right; intro e2; exact h.ow2.ne hi e2.symm hv
    · exact ⟨World.ownsRow_nil _ _ _ _, by simp⟩
  · rcases hx i p hi with ⟨_, hi'⟩ | ⟨h1, rfl⟩
    · rcases hx j q hj with ⟨_, hj'⟩ | ⟨h2, rfl⟩
      · exact h.apart i j p q hij hi' hj'
      · unfold Apart
        cases hp : p.2.1.ownBlock with
        | none => exact .inl rfl
        | some k => right; simp [Value.ownBlock]
    · exact .inl rfl
theorem OA.last {w : World} {lo : Nat} {v : Value} {E : List (Int × In)} {e : Int × In} (h : OA w lo v (E ++ [e])) :
    ∃ g c, v = .slice (some ⟨g, 0, none⟩) (E.length + 1) c ∧ E.length + 1 ≤ c ∧ lo ≤ g ∧ g < w.heap.size ∧ w.cell? ⟨g, E.length * 2 + 1, none⟩ = some e.2.1 ∧ w.frozen? ⟨g, E.length * 2 + 1, none⟩ = false := by
  have hl : (E ++ [e]).length = E.length + 1 := by simp
  have hrow := h.row
  rw [hl] at hrow
  have hr := hrow.2
  rcases hr with ⟨_, h0⟩ | ⟨g, cap, cur, e1, hB, hg, hc, _⟩
  · omega
  · subst e1
    refine ⟨g, cap, rfl, hc, hB, Blk.lt (t := 37) (cs := cur) hg, ?_, World.ownsRow.frozenAt hrow _⟩
    rw [World.ownsRow.cellAt hrow (E.length * 2 + 1) (by omega)]
    exact (cellsD_get (E ++ [e]) E.length e (by simp)).2
theorem OA.upd {w w' : World} {lo g c : Nat} {E : List (Int × In)} {e : Int × In} (h : OA w lo (.slice (some ⟨g, 0, none⟩) (E.length + 1) c) (E ++ [e])) {q : In} (hg : w.grownBy w' e.2.1.ownBlock) (ho : OF 42 3 w' lo q.1 q.2.1 q.2.2)
    (hq : q.1.ownBlock = e.2.1.ownBlock ∨ q.1.ownBlock = some w.heap.size) :
    w'.cell? ⟨g, E.length * 2 + 1, none⟩ = some e.2.1 ∧ w'.frozen? ⟨g, E.length * 2 + 1, none⟩ = false ∧ OA (w'.setCell ⟨g, E.length * 2 + 1, none⟩ q.1) lo (.slice (some ⟨g, 0, none⟩) (E.length + 1) c) (E ++ [(e.1, q)]) := by
  have hl : (E ++ [e]).length = E.length + 1 := by simp
  have hej : (E ++ [e])[E.length]? = some e := by simp
  have hrow := h.row
  rw [hl] at hrow
  have hne : e.2.1.ownBlock ≠ some g := h.ow2.ne hej rfl
  have hrow' : w'.ownsRow lo 37 2 (.slice (some ⟨g, 0, none⟩) (E.length + 1) c) (E.length + 1) (cellsD (E ++ [e])) := hrow.kept hg (.inr (fun e' => hne e'.symm))
  have hset : cellsD (E ++ [(e.1, q)]) = (cellsD (E ++ [e])).set (E.length * 2 + 1) q.1 := by
    rw [cellsD_set1 (E ++ [e]) E.length e q hej]; simp
  obtain ⟨cur, hgb⟩ : ∃ cur, Blk w' g 37 cur := by
    rcases hrow'.2 with ⟨h1, _⟩ | ⟨g', cap, cur, h1, _, hh, _⟩
    · cases h1
    · injection h1 with h1; injection h1 with h1; injection h1 with h1; subst h1; exact ⟨cur, hh⟩
  have hsetg : ∀ (u : Value) (m : Nat) (ys : List Int), OF 42 3 w' lo u m ys → OF 42 3 (w'.setCell ⟨g, E.length * 2 + 1, none⟩ q.1) lo u m ys := fun u m ys hu =>
    hu.chg (S := fun k => k = g) (Chg.setCell (S := fun k => k = g) (p := ⟨g, E.length * 2 + 1, none⟩) rfl _) (fun k hk e1 => hu.ne_blk hgb (by decide) (by rw [hk, e1]))
  have hx : ∀ (i : Nat) (p : Int × In), (E ++ [(e.1, q)])[i]? = some p → (i < E.length ∧ (E ++ [e])[i]? = some p) ∨ (i = E.length ∧ p = (e.1, q)) := fun i p hi => by
    by_cases e1 : i < E.length
    · rw [List.getElem?_append_left e1] at hi; exact .inl ⟨e1, by rw [List.getElem?_append_left e1]; exact hi⟩
    · have : i = E.length := by have := (List.getElem?_eq_some_iff.1 hi).1; simp at this; omega
      subst this
      simp at hi
      exact .inr ⟨rfl, hi.symm⟩
  have hap : ∀ (i : Nat) (p : Int × In), i < E.length → (E ++ [e])[i]? = some p → Apart p.2.1 q.1 := fun i p hi hp => by
    have h1 := h.apart i E.length p e (by omega) hp hej
    rcases hq with hq | hq
    · unfold Apart at *; rw [hq]; exact h1
    · unfold Apart
      cases hb : p.2.1.ownBlock with
      | none => exact .inl rfl
      | some k =>
        refine .inr (fun e2 => ?_)
        have h2 := (h.own i p hp).lt k hb
        rw [hq] at e2; injection e2 with e2; omega
  refine ⟨?_, World.ownsRow.frozenAt hrow' _, ?_, fun i p hi => ?_, fun i j p r hij hi hj => ?_, by have := h.small; simpa using this⟩
  · rw [World.ownsRow.cellAt hrow' (E.length * 2 + 1) (by omega)]
    exact (cellsD_get (E ++ [e]) E.length e hej).2
  · have := (World.ownsRow.stored hrow' (E.length * 2 + 1) q.1).1
    rw [hset]
    simpa using this
  · rcases hx i p hi with ⟨hil, hi'⟩ | ⟨_, rfl⟩
    · refine hsetg _ _ _ ((h.own i p hi').grown hg ?_)
      exact h.apart i E.length p e (by omega) hi' hej
    · exact hsetg _ _ _ ho
  · rcases hx i p hi with ⟨hil, hi'⟩ | ⟨h1, rfl⟩
    · rcases hx j r hj with ⟨_, hj'⟩ | ⟨h2, rfl⟩
      · exact h.apart i j p r hij hi' hj'
      · exact hap i p hil hi'
    · rcases hx j r hj with ⟨hjl, hj'⟩ | ⟨h2, rfl⟩
      · exact (hap j r hjl hj').symm
      · omega
/-- Plain: what has been read. -/
theorem rdTo_len {ws : List (List UInt8)} : ∀ (k : Nat) (ds : Ds) (fr : Bool), k ≤ ws.length → rdTo ws k = some (ds, fr) → (∀ d ∈ ds, d.2.length + 1 ≤ k) ∧ (fr = false → ds ≠ []) ∧ ds.length ≤ 5
  | 0, ds, fr, _, h => by
    have h : some ((([] : Ds), true)) = some (ds, fr) := h
    injection h with h; injection h with h1 h2
    subst h1; subst h2
    simp
  | k + 1, ds, fr, hk, h => by
    have hw : ws[k]? = some (ws[k]'(by omega)) := List.getElem?_eq_getElem _
    rw [rdTo_succ hw] at h
    cases hr : rdTo ws k with
    | none => rw [hr] at h; cases h
    | some st =>
      obtain ⟨d0, f0⟩ := st
      obtain ⟨h1, h2, h3⟩ := rdTo_len k d0 f0 (by omega) hr
      rw [hr] at h
      have h : rdStep (d0, f0) (ws[k]'(by omega)) = some (ds, fr) := h
      unfold rdStep at h
      split at h
      · rename_i a b _
        split at h
        · cases h
        · rename_i hn
          dsimp only at hn
          split at h
          · injection h with h; injection h with e1 e2
            subst e1
            refine ⟨fun d hd => ?_, fun _ => by simp, by simp; omega⟩
            rcases List.mem_append.1 hd with hd | hd
            · have := h1 d hd; omega
            · simp at hd; subst hd; simp
          · split at h
            · rename_i hf
              injection h with h; injection h with e1 e2
              have hne : d0 ≠ [] := h2 (by simp at hf; exact hf.1)
              subst e1
              obtain ⟨E, d, rfl⟩ : ∃ E d, d0 = E ++ [d] := ⟨d0.dropLast, d0.getLast hne, (List.dropLast_concat_getLast hne).symm⟩
              have hadd : ∀ o, addStep (E ++ [d]) o = E ++ [(d.1, d.2 ++ [o])] := fun o => by unfold addStep; simp
              rw [hadd]
              refine ⟨fun d' hd => ?_, fun _ => by simp, by simp at h3 ⊢; omega⟩
              rcases List.mem_append.1 hd with hd | hd
              · have := h1 d' (by simp [hd]); omega
              · simp at hd; subst hd
                have := h1 d (by simp)
                simp; omega
            · cases h
      · cases h

end Go.Proofs.YtefopnkicllpeaaDoor
