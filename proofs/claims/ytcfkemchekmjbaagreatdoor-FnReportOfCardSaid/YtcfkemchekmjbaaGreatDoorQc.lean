/- Merged (what the law reaches): Tx, DrawB. -/
import Derived.Test.YtcfkemchekmjbaaGreatDoorQb
namespace Go.Proofs.YtcfkemchekmjbaaGreatDoor
open Go.RowKit
abbrev Tx := Int × List T3 × Bool
/-- A transaction at block b, offset off. -/
def ET (w : World) (b off : Nat) (t : Tx) : Prop :=
  ∃ (B : Option Addr) (k d : Nat), w.cell? ⟨b, off, none⟩ = some (.int .i64 t.1) ∧ w.cell? ⟨b, off + 1, none⟩ = some (.slice B k d) ∧ w.cell? ⟨b, off + 2, none⟩ = some (.bool t.2.2) ∧ k ≤ d ∧ d ≤ maxLen ∧ R3 w B k t.2.1
theorem ET.below {w w' : World} {b off : Nat} {t : Tx} (h : ET w b off t) (hb : Below w.heap.size w w') (hlt : b < w.heap.size) : ET w' b off t := by
  obtain ⟨B, k, d, h1, h2, h3, h4, h5, h6⟩ := h
  exact ⟨B, k, d, (hb.cell (p := ⟨b, off, none⟩) hlt).trans h1, (hb.cell (p := ⟨b, off + 1, none⟩) hlt).trans h2, (hb.cell (p := ⟨b, off + 2, none⟩) hlt).trans h3, h4, h5, h6.below hb⟩
def RTs (w : World) (A : Option Addr) (n : Nat) (ts : List Tx) : Prop :=
  ts.length = n ∧ (0 < n → ∃ b off, A = some ⟨b, off, none⟩ ∧ b < w.heap.size ∧ ∀ (k : Nat) (t : Tx), ts[k]? = some t → ET w b (off + k * 3) t)
theorem RTs.nil {w : World} {A : Option Addr} : RTs w A 0 [] := ⟨rfl, fun h => absurd h (by omega)⟩
theorem RTs.below {w w' : World} {A : Option Addr} {n : Nat} {ts : List Tx} (h : RTs w A n ts) (hb : Below w.heap.size w w') : RTs w' A n ts :=
  ⟨h.1, fun hn => by
    obtain ⟨b, off, e, hlt, hc⟩ := h.2 hn
    exact ⟨b, off, e, Nat.lt_of_lt_of_le hlt hb.size, fun k m hm => (hc k m hm).below hb hlt⟩⟩
theorem RTs.at_ {w : World} {A : Option Addr} {n : Nat} {ts : List Tx} (h : RTs w A n ts) {k : Nat} (hk : k < n) :
    ∃ b off f ys dn B kk d, A = some ⟨b, off, none⟩ ∧ b < w.heap.size ∧ ts[k]? = some (f, ys, dn) ∧ w.cell? ⟨b, off + k * 3, none⟩ = some (.int .i64 f) ∧ w.cell? ⟨b, off + k * 3 + 1, none⟩ = some (.slice B kk d) ∧ w.cell? ⟨b, off + k * 3 + 2, none⟩ = some (.bool dn) ∧ kk ≤ d ∧ d ≤ maxLen ∧ R3 w B kk ys := by
  obtain ⟨b, off, e, hlt, hc⟩ := h.2 (by omega)
  have hl : k < ts.length := by have := h.1; omega
  obtain ⟨⟨f, ys, dn⟩, hg⟩ : ∃ q, ts[k]? = some q := ⟨ts[k], List.getElem?_eq_getElem hl⟩
  obtain ⟨B, kk, d, h1, h2, h3, h4, h5, h6⟩ := hc k _ hg
  exact ⟨b, off, f, ys, dn, B, kk, d, e, hlt, hg, h1, h2, h3, h4, h5, h6⟩
def SmallT (ts : List Tx) : Prop := ∀ t ∈ ts, t.2.1.length ≤ 1048576
/-- A value that is a slice of n transactions. -/
def STs (w : World) (v : Value) (n : Nat) (ts : List Tx) : Prop := ∃ A c, v = .slice A n c ∧ n ≤ c ∧ n ≤ 1048576 ∧ RTs w A n ts
theorem STs.below {w w' : World} {v : Value} {n : Nat} {ts : List Tx} (h : STs w v n ts) (hb : Below w.heap.size w w') : STs w' v n ts := by
  obtain ⟨A, c, h1, h2, h3, h4⟩ := h; exact ⟨A, c, h1, h2, h3, h4.below hb⟩
/-- An element: its session, its operations (slice, how many, their cells), done. -/
abbrev El := Int × In × Bool
def cellsT : List El → List Value
  | [] => []
  | e :: es => .int .i64 e.1 :: e.2.1.1 :: .bool e.2.2 :: cellsT es
theorem cellsT_len : ∀ es : List El, (cellsT es).length = es.length * 3
  | [] => rfl
  | e :: es => by simp [cellsT, cellsT_len es]; omega
theorem cellsT_get : ∀ (es : List El) (k : Nat) (e : El), es[k]? = some e → (cellsT es)[k * 3]? = some (.int .i64 e.1) ∧ (cellsT es)[k * 3 + 1]? = some e.2.1.1 ∧ (cellsT es)[k * 3 + 2]? = some (.bool e.2.2)
  | [], k, e, h => by simp at h
  | a :: es, 0, e, h => by
    simp only [List.getElem?_cons_zero, Option.some.injEq] at h
    subst h; simp [cellsT]
  | a :: es, k + 1, e, h => by
    simp only [List.getElem?_cons_succ] at h
    have := cellsT_get es k e h
    simp only [cellsT, show (k + 1) * 3 = k * 3 + 1 + 1 + 1 by omega, List.getElem?_cons_succ]
    exact this
theorem cellsT_set1 : ∀ (es : List El) (k : Nat) (e : El) (q : In), es[k]? = some e → (cellsT es).set (k * 3 + 1) q.1 = cellsT (es.set k (e.1, q, e.2.2))
  | [], k, e, x, h => by simp at h
  | a :: es, 0, e, x, h => by
    simp only [List.getElem?_cons_zero, Option.some.injEq] at h
    subst h; simp [cellsT]
  | a :: es, k + 1, e, x, h => by
    simp only [List.getElem?_cons_succ] at h
    simp only [cellsT, show (k + 1) * 3 + 1 = k * 3 + 1 + 1 + 1 + 1 by omega, List.set_cons_succ, cellsT_set1 es k e x h]
theorem cellsT_set2 : ∀ (es : List El) (k : Nat) (e : El) (x : Bool), es[k]? = some e → (cellsT es).set (k * 3 + 2) (.bool x) = cellsT (es.set k (e.1, e.2.1, x))
  | [], k, e, x, h => by simp at h
  | a :: es, 0, e, x, h => by
    simp only [List.getElem?_cons_zero, Option.some.injEq] at h
    subst h; simp [cellsT]
  | a :: es, k + 1, e, x, h => by
    simp only [List.getElem?_cons_succ] at h
    simp only [cellsT, show (k + 1) * 3 + 2 = k * 3 + 2 + 1 + 1 + 1 by omega, List.set_cons_succ, cellsT_set2 es k e x h]
structure OT (w : World) (lo : Nat) (v : Value) (n : Nat) (es : List El) : Prop where
  row : w.ownsRow lo 66 3 v n (cellsT es)
  own : ∀ (j : Nat) (e : El), es[j]? = some e → OF 61 3 w lo e.2.1.1 e.2.1.2.1 e.2.1.2.2
  apart : ∀ (i j : Nat) (p q : El), i ≠ j → es[i]? = some p → es[j]? = some q → Apart p.2.1.1 q.2.1.1
  small : n ≤ 1048576
section
variable {w w' : World} {lo n : Nat} {v : Value} {es : List El}
theorem OT.len (h : OT w lo v n es) : es.length = n := by have := h.row.1; rw [cellsT_len] at this; omega
theorem OT.shape (h : OT w lo v n es) : v = .slice none 0 0 ∧ n = 0 ∨ ∃ g c, v = .slice (some ⟨g, 0, none⟩) n c ∧ lo ≤ g ∧ g < w.heap.size ∧ n ≤ c ∧ c ≤ maxLen ∧ ∃ cs, Blk w g 66 cs := by
  rcases h.row.2 with ⟨h1, h2⟩ | ⟨g, cap, cur, h1, hB, hg, hc, hm, hs, ht⟩
  · exact .inl ⟨h1, h2⟩
  · exact .inr ⟨g, cap, h1, hB, Blk.lt hg, hc, hm, cur, hg⟩
theorem OT.ne (h : OT w lo v n es) {j : Nat} {e : El} (hj : es[j]? = some e) {k : Nat} (hk : v.ownBlock = some k) : e.2.1.1.ownBlock ≠ some k := by
  rcases h.shape with ⟨rfl, _⟩ | ⟨g, c, rfl, _, _, _, _, cs, hb⟩
  · simp [Value.ownBlock] at hk
  · have e1 : g = k := by have h : some g = some k := hk; injection h
    subst e1
    exact (h.own j e hj).ne_blk hb (by decide)
/-- The blocks in which it lies. -/
def OT.S (v : Value) (es : List El) (k : Nat) : Prop := v.ownBlock = some k ∨ ∃ (j : Nat) (e : El), es[j]? = some e ∧ e.2.1.1.ownBlock = some k
theorem OT.range (h : OT w lo v n es) : ∀ k, OT.S v es k → lo ≤ k ∧ k < w.heap.size := fun k hk => by
  rcases hk with hk | ⟨j, e, hj, hk⟩
  · exact World.ownsRow.lt h.row k hk
  · exact (h.own j e hj).lt k hk
theorem own_chg {S : Nat → Prop} {B s : Nat} {t : TypeId} {xs : List Value} (h : w.ownsRow B t s v n xs) (hc : Chg S w w') (hS : ∀ k, v.ownBlock = some k → ¬ S k) : w'.ownsRow B t s v n xs := by
  refine ⟨h.1, ?_⟩
  rcases h.2 with hn | ⟨g, cap, cur, rfl, hb, hgg, rest⟩
  · exact .inl hn
  · exact .inr ⟨g, cap, cur, rfl, hb, (hc.block g (Blk.lt hgg) (hS g rfl)).trans hgg, rest⟩
theorem OT.chg {S : Nat → Prop} (h : OT w lo v n es) (hc : Chg S w w') (hS : ∀ k, OT.S v es k → ¬ S k) : OT w' lo v n es :=
  ⟨own_chg h.row hc (fun k hk => hS k (.inl hk)), fun j e hj => (h.own j e hj).chg hc (fun k hk => hS k (.inr ⟨j, e, hj, hk⟩)), h.apart, h.small⟩
theorem OT.below (h : OT w lo v n es) (hb : Below w.heap.size w w') : OT w' lo v n es := h.chg (S := fun _ => False) (Chg.of_below hb) (fun _ _ => id)
theorem OT.mono {lo' : Nat} (h : OT w lo v n es) (hl : lo' ≤ lo) : OT w lo' v n es := by
  refine ⟨⟨h.row.1, ?_⟩, fun j e hj => (h.own j e hj).mono hl, h.apart, h.small⟩
  rcases h.row.2 with h2 | ⟨g, cap, cur, hv, hb, r⟩
  · exact .inl h2
  · exact .inr ⟨g, cap, cur, hv, by omega, r⟩
theorem OT.alloc (h : OT w lo v n es) (o : Obj) : OT (w.alloc o) lo v n es := h.below ((Below.refl _ _).alloc (Nat.le_refl _) _)
theorem OT.drew (h : OT w lo v n es) : OT w.drew lo v n es := h.below (Below.refl _ _).drew
theorem OT.grown {row : Option Nat} (h : OT w lo v n es) (hg : w.grownBy w' row) (hne : ∀ k, row = some k → ¬ OT.S v es k) : OT w' lo v n es :=
  h.chg (S := fun k => row = some k) (Chg.of_grown hg (fun _ e => e)) (fun k hk hr => hne k hr hk)
theorem OT.cells {g c : Nat} (h : OT w lo (.slice (some ⟨g, 0, none⟩) n c) n es) {j : Nat} {e : El} (hj : es[j]? = some e) :
    w.cell? ⟨g, j * 3, none⟩ = some (.int .i64 e.1) ∧ w.cell? ⟨g, j * 3 + 1, none⟩ = some e.2.1.1 ∧ w.cell? ⟨g, j * 3 + 2, none⟩ = some (.bool e.2.2) := by
  have hjn : j < n := by rw [← h.len]; exact (List.getElem?_eq_some_iff.1 hj).1
  have hl := cellsT_len es
  rw [h.len] at hl
  obtain ⟨h0, h1, h2⟩ := cellsT_get es j e hj
  refine ⟨(World.ownsRow.cellAt h.row (j * 3) (by omega)).trans ?_, (World.ownsRow.cellAt h.row (j * 3 + 1) (by omega)).trans ?_, (World.ownsRow.cellAt h.row (j * 3 + 2) (by omega)).trans ?_⟩
  · rw [← h0, List.getElem?_eq_getElem (by omega)]
  · rw [← h1, List.getElem?_eq_getElem (by omega)]
  · rw [← h2, List.getElem?_eq_getElem (by omega)]
theorem OT.free {g c : Nat} (h : OT w lo (.slice (some ⟨g, 0, none⟩) n c) n es) (i : Nat) : w.frozen? ⟨g, i, none⟩ = false := World.ownsRow.frozenAt h.row i
theorem OT.base {g c : Nat} (h : OT w lo (.slice (some ⟨g, 0, none⟩) n c) n es) : lo ≤ g ∧ g < w.heap.size := World.ownsRow.lt h.row g rfl
/-- Of a turned list of elements: who has the same slices. -/
theorem OT.turn {es' : List El} (h : OT w lo v n es) (hr : w'.ownsRow lo 66 3 v n (cellsT es')) (hs : ∀ (j : Nat) (e' : El), es'[j]? = some e' → ∃ e, es[j]? = some e ∧ e'.2.1.1 = e.2.1.1 ∧ OF 61 3 w' lo e'.2.1.1 e'.2.1.2.1 e'.2.1.2.2) : OT w' lo v n es' :=
  ⟨hr, fun j e hj => by obtain ⟨_, _, _, h3⟩ := hs j e hj; exact h3, fun i j p q hij hp hq => by
    obtain ⟨p', h1, h2, _⟩ := hs i p hp
    obtain ⟨q', h3, h4, _⟩ := hs j q hq
    rw [h2, h4]; exact h.apart i j p' q' hij h1 h3, h.small⟩
theorem OF.set_row {g c : Nat} (h : OT w lo (.slice (some ⟨g, 0, none⟩) n c) n es) {j : Nat} {e : El} (hj : es[j]? = some e) (i : Nat) (u : Value) : OF 61 3 (w.setCell ⟨g, i, none⟩ u) lo e.2.1.1 e.2.1.2.1 e.2.1.2.2 :=
  (h.own j e hj).chg (Chg.setCell (S := fun k => k = g) (p := ⟨g, i, none⟩) rfl u) (fun k hk e1 => h.ne hj (k := g) rfl (by rw [hk, e1]))
theorem OT.set2 {g c : Nat} (h : OT w lo (.slice (some ⟨g, 0, none⟩) n c) n es) {j : Nat} {e : El} (hj : es[j]? = some e) (x : Bool) :
    OT (w.setCell ⟨g, j * 3 + 2, none⟩ (.bool x)) lo (.slice (some ⟨g, 0, none⟩) n c) n (es.set j (e.1, e.2.1, x)) := by
  refine h.turn ?_ (fun i e' hi => ?_)
  · rw [← cellsT_set2 es j e x hj]; exact (World.ownsRow.stored h.row (j * 3 + 2) (.bool x)).1
  · by_cases e1 : j = i
    · subst e1
      rw [List.getElem?_set_self (List.getElem?_eq_some_iff.1 hj).1] at hi
      injection hi with hi; subst hi
      exact ⟨e, hj, rfl, OF.set_row h hj _ _⟩
    · rw [List.getElem?_set_ne e1] at hi
      exact ⟨e', hi, rfl, OF.set_row h hi _ _⟩
/-- One element's slice was appended to, and stored back. -/
theorem OT.append {g c : Nat} (h : OT w lo (.slice (some ⟨g, 0, none⟩) n c) n es) {j : Nat} {e : El} (hj : es[j]? = some e) (hg : w.grownBy w' e.2.1.1.ownBlock) {q : In} (ho : OF 61 3 w' lo q.1 q.2.1 q.2.2)
    (hq : q.1.ownBlock = e.2.1.1.ownBlock ∨ ∀ k, q.1.ownBlock = some k → w.heap.size ≤ k) : OT (w'.setCell ⟨g, j * 3 + 1, none⟩ q.1) lo (.slice (some ⟨g, 0, none⟩) n c) n (es.set j (e.1, q, e.2.2)) := by
  have hjl := (List.getElem?_eq_some_iff.1 hj).1
  have hrow : w'.ownsRow lo 66 3 (.slice (some ⟨g, 0, none⟩) n c) n (cellsT es) := own_chg h.row (S := fun k => e.2.1.1.ownBlock = some k) (Chg.of_grown hg (fun _ e => e)) (fun k hk hr => h.ne hj hk hr)
  have hblk : ∃ cs, Blk w' g 66 cs := by
    rcases hrow.2 with ⟨h1, _⟩ | ⟨g', cap, cur, h1, _, hb, _⟩
    · cases h1
    · injection h1 with h1; injection h1 with h1; injection h1 with h1; subst h1; exact ⟨cur, hb⟩
  obtain ⟨cs, hblk⟩ := hblk
  have hset : ∀ {m : Nat} {u : Value} {xs : List Int}, OF 61 3 w' lo u m xs → OF 61 3 (w'.setCell ⟨g, j * 3 + 1, none⟩ q.1) lo u m xs := fun {m u xs} hu =>
    hu.chg (Chg.setCell (S := fun k => k = g) (p := ⟨g, j * 3 + 1, none⟩) rfl _) (fun k hk e1 => hu.ne_blk hblk (by decide) (by rw [hk, e1]))
  have hap : ∀ (i : Nat) (p : El), i ≠ j → es[i]? = some p → Apart p.2.1.1 q.1 := fun i p hij hi => by
    rcases hq with hq | hq
    · have := h.apart i j p e hij hi hj
      unfold Apart at *
      rw [hq]; exact this
    · unfold Apart
      cases hp : p.2.1.1.ownBlock with
      | none => exact .inl rfl
      | some k =>
        right; intro e1
        have h1 := (h.own i p hi).lt k hp
        have h2 := hq k e1.symm
        omega
  refine ⟨?_, fun i p hi => ?_, fun i k p r hik hi hk => ?_, h.small⟩
  · rw [← cellsT_set1 es j e q hj]; exact (World.ownsRow.stored hrow (j * 3 + 1) q.1).1
  · by_cases e1 : j = i
    · subst e1
      rw [List.getElem?_set_self hjl] at hi
      injection hi with hi; subst hi
      exact hset ho
    · rw [List.getElem?_set_ne e1] at hi
      exact hset ((h.own i p hi).grown hg (h.apart i j p e (Ne.symm e1) hi hj))
  · by_cases e1 : j = i
    · subst e1
      rw [List.getElem?_set_self hjl] at hi
      rw [List.getElem?_set_ne hik] at hk
      injection hi with hi; subst hi
      exact (hap k r (Ne.symm hik) hk).symm
    · rw [List.getElem?_set_ne e1] at hi
      by_cases e2 : j = k
      · subst e2
        rw [List.getElem?_set_self hjl] at hk
        injection hk with hk; subst hk
        exact hap i p (Ne.symm e1) hi
      · rw [List.getElem?_set_ne e2] at hk
        exact h.apart i k p r hik hi hk
/-- A further element behind all. -/
theorem OT.push {v' : Value} (h : OT w lo v n es) {e : El} (hr : w'.ownsRow lo 66 3 v' (n + 1) (cellsT (es ++ [e]))) (hg : w.grownBy w' v.ownBlock) (ho : OF 61 3 w' lo e.2.1.1 e.2.1.2.1 e.2.1.2.2)
    (ha : ∀ (j : Nat) (p : El), es[j]? = some p → Apart p.2.1.1 e.2.1.1) (hn : n + 1 ≤ 1048576) : OT w' lo v' (n + 1) (es ++ [e]) := by
  have key : ∀ (i : Nat) (p : El), (es ++ [e])[i]? = some p → (i < es.length ∧ es[i]? = some p) ∨ (i = es.length ∧ p = e) := fun i p hi => by
    by_cases e1 : i < es.length
    · rw [List.getElem?_append_left e1] at hi; exact .inl ⟨e1, hi⟩
    · have : i = es.length := by have := (List.getElem?_eq_some_iff.1 hi).1; simp at this; omega
      subst this
      simp at hi
      exact .inr ⟨rfl, hi.symm⟩
  refine ⟨hr, fun i p hi => ?_, fun i k p r hik hi hk => ?_, hn⟩
  · rcases key i p hi with ⟨_, hi2⟩ | ⟨_, rfl⟩
    · refine (h.own i p hi2).grown hg ?_
      cases hv : p.2.1.1.ownBlock with
      | none => exact .inl rfl
      | some k => right; intro e2; exact h.ne hi2 e2.symm hv
    · exact ho
  · rcases key i p hi with ⟨_, hi2⟩ | ⟨e1, ei⟩
    · rcases key k r hk with ⟨_, hk2⟩ | ⟨_, ek⟩
      · exact h.apart i k p r hik hi2 hk2
      · exact ek ▸ ha i p hi2
    · rcases key k r hk with ⟨_, hk2⟩ | ⟨e2, _⟩
      · exact ei ▸ (ha k r hk2).symm
      · omega
end
/-- What the elements say. -/
def SaysT (es : List El) (ts : List Tx) : Prop := es.map (fun e => (e.1, e.2.1.2.2, e.2.2)) = ts.map (fun t => (t.1, flat3 t.2.1, t.2.2))
theorem SaysT.at_ {es : List El} {ts : List Tx} (h : SaysT es ts) {k : Nat} {t : Tx} (hk : ts[k]? = some t) : ∃ e, es[k]? = some e ∧ e.1 = t.1 ∧ e.2.1.2.2 = flat3 t.2.1 ∧ e.2.2 = t.2.2 := by
  have h1 := congrArg (fun l => l[k]?) h
  simp only [List.getElem?_map, hk, Option.map_some] at h1
  cases he : es[k]? with
  | none => rw [he] at h1; cases h1
  | some e =>
    rw [he] at h1
    simp only [Option.map_some, Option.some.injEq, Prod.mk.injEq] at h1
    exact ⟨e, rfl, h1.1, h1.2.1, h1.2.2⟩
theorem SaysT.len {es : List El} {ts : List Tx} (h : SaysT es ts) : es.length = ts.length := by have := congrArg List.length h; simpa using this
end Go.Proofs.YtcfkemchekmjbaaGreatDoor

namespace Go.Proofs.YtcfkemchekmjbaaGreatDoor
open Go.RowKit
theorem belowG {w a b : World} {g : Nat} (h : Below w.heap.size w a) (k : a.grownBy b (some g)) (hg : w.heap.size ≤ g) : Below w.heap.size w b :=
  h.grown k h.size (fun i hi => by injection hi with hi; omega)
theorem RD.setC {w : World} {g P : Nat} (h : RD w g P) {p : Addr} (hp : g < p.block) (u : Value) : RD (w.setCell p u) g P :=
  h.grown (grown_setCell (World.grownBy.refl w (some p.block)) (.inl rfl) u) (fun k hk => by injection hk with hk; omega)
theorem RD.drew {w : World} {g P : Nat} (h : RD w g P) : RD w.drew g P := h.below (Below.refl _ _).drew
end Go.Proofs.YtcfkemchekmjbaaGreatDoor
