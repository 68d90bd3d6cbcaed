/- Merged (what the law reaches): Tw, RunI4, PlanI, RunI5, Drs3, RunW, Lw, HistP, SerP, SerG, SerH. -/
import Derived.Test.YtcfkemchekmjbaaGreatDoorQf
import Derived.BigRegion
namespace Go.Proofs.YtcfkemchekmjbaaGreatDoor
open Go.RowKit
structure OV (w : World) (lo : Nat) (v : Value) (n : Nat) (es : List El) : Prop where
  row : w.ownsRow lo 66 3 v n (cellsT es)
  own : ∀ (j : Nat) (e : El), es[j]? = some e → OW 61 3 w lo e.2.1.1 e.2.1.2.1 e.2.1.2.2
  apart : ∀ (i j : Nat) (p q : El), i ≠ j → es[i]? = some p → es[j]? = some q → Apart p.2.1.1 q.2.1.1
  small : n ≤ 1048576
section
variable {w w' : World} {lo n : Nat} {v : Value} {es : List El}
theorem OV.len (h : OV w lo v n es) : es.length = n := by have := h.row.1; rw [cellsT_len] at this; omega
theorem OV.shape (h : OV w lo v n es) : v = .slice none 0 0 ∧ n = 0 ∨ ∃ g c, v = .slice (some ⟨g, 0, none⟩) n c ∧ lo ≤ g ∧ g < w.heap.size ∧ n ≤ c ∧ c ≤ maxLen ∧ ∃ cs, Blk w g 66 cs := by
  rcases h.row.2 with ⟨h1, h2⟩ | ⟨g, cap, cur, h1, hB, hg, hc, hm, hs, ht⟩
  · exact .inl ⟨h1, h2⟩
  · exact .inr ⟨g, cap, h1, hB, Blk.lt hg, hc, hm, cur, hg⟩
theorem OV.ne (h : OV w lo v n es) {j : Nat} {e : El} (hj : es[j]? = some e) {k : Nat} (hk : v.ownBlock = some k) : e.2.1.1.ownBlock ≠ some k := by
  rcases h.shape with ⟨rfl, _⟩ | ⟨g, c, rfl, _, _, _, _, cs, hb⟩
  · simp [Value.ownBlock] at hk
  · have e1 : g = k := by have h : some g = some k := hk; injection h
    subst e1
    exact (h.own j e hj).ne_blk hb (by decide)
/-- The blocks in which it lies. -/
def OV.S (v : Value) (es : List El) (k : Nat) : Prop := v.ownBlock = some k ∨ ∃ (j : Nat) (e : El), es[j]? = some e ∧ e.2.1.1.ownBlock = some k
theorem OV.range (h : OV w lo v n es) : ∀ k, OV.S v es k → lo ≤ k ∧ k < w.heap.size := fun k hk => by
  rcases hk with hk | ⟨j, e, hj, hk⟩
  · exact World.ownsRow.lt h.row k hk
  · exact (h.own j e hj).lt k hk
theorem OV.chg {S : Nat → Prop} (h : OV w lo v n es) (hc : Chg S w w') (hS : ∀ k, OV.S v es k → ¬ S k) : OV w' lo v n es :=
  ⟨own_chg h.row hc (fun k hk => hS k (.inl hk)), fun j e hj => (h.own j e hj).chg hc (fun k hk => hS k (.inr ⟨j, e, hj, hk⟩)), h.apart, h.small⟩
theorem OV.below (h : OV w lo v n es) (hb : Below w.heap.size w w') : OV w' lo v n es := h.chg (S := fun _ => False) (Chg.of_below hb) (fun _ _ => id)
theorem OV.mono {lo' : Nat} (h : OV w lo v n es) (hl : lo' ≤ lo) : OV w lo' v n es := by
  refine ⟨⟨h.row.1, ?_⟩, fun j e hj => (h.own j e hj).mono hl, h.apart, h.small⟩
  rcases h.row.2 with h2 | ⟨g, cap, cur, hv, hb, r⟩
  · exact .inl h2
  · exact .inr ⟨g, cap, cur, hv, by omega, r⟩
theorem OV.alloc (h : OV w lo v n es) (o : Obj) : OV (w.alloc o) lo v n es := h.below ((Below.refl _ _).alloc (Nat.le_refl _) _)
theorem OV.drew (h : OV w lo v n es) : OV w.drew lo v n es := h.below (Below.refl _ _).drew
theorem OV.grown {row : Option Nat} (h : OV w lo v n es) (hg : w.grownBy w' row) (hne : ∀ k, row = some k → ¬ OV.S v es k) : OV w' lo v n es :=
  h.chg (S := fun k => row = some k) (Chg.of_grown hg (fun _ e => e)) (fun k hk hr => hne k hr hk)
theorem OV.cells {g c : Nat} (h : OV w lo (.slice (some ⟨g, 0, none⟩) n c) n es) {j : Nat} {e : El} (hj : es[j]? = some e) :
    w.cell? ⟨g, j * 3, none⟩ = some (.int .i64 e.1) ∧ w.cell? ⟨g, j * 3 + 1, none⟩ = some e.2.1.1 ∧ w.cell? ⟨g, j * 3 + 2, none⟩ = some (.bool e.2.2) := by
  have hjn : j < n := by rw [← h.len]; exact (List.getElem?_eq_some_iff.1 hj).1
  have hl := cellsT_len es
  rw [h.len] at hl
  obtain ⟨h0, h1, h2⟩ := cellsT_get es j e hj
  refine ⟨(World.ownsRow.cellAt h.row (j * 3) (by omega)).trans ?_, (World.ownsRow.cellAt h.row (j * 3 + 1) (by omega)).trans ?_, (World.ownsRow.cellAt h.row (j * 3 + 2) (by omega)).trans ?_⟩
  · rw [← h0, List.getElem?_eq_getElem (by omega)]
  · rw [← h1, List.getElem?_eq_getElem (by omega)]
  · rw [← h2, List.getElem?_eq_getElem (by omega)]
theorem OV.free {g c : Nat} (h : OV w lo (.slice (some ⟨g, 0, none⟩) n c) n es) (i : Nat) : w.frozen? ⟨g, i, none⟩ = false := World.ownsRow.frozenAt h.row i
theorem OV.base {g c : Nat} (h : OV w lo (.slice (some ⟨g, 0, none⟩) n c) n es) : lo ≤ g ∧ g < w.heap.size := World.ownsRow.lt h.row g rfl
/-- Of a turned list of elements: who has the same slices. -/
theorem OV.turn {es' : List El} (h : OV w lo v n es) (hr : w'.ownsRow lo 66 3 v n (cellsT es')) (hs : ∀ (j : Nat) (e' : El), es'[j]? = some e' → ∃ e, es[j]? = some e ∧ e'.2.1.1 = e.2.1.1 ∧ OW 61 3 w' lo e'.2.1.1 e'.2.1.2.1 e'.2.1.2.2) : OV w' lo v n es' :=
  ⟨hr, fun j e hj => by obtain ⟨_, _, _, h3⟩ := hs j e hj; exact h3, fun i j p q hij hp hq => by
    obtain ⟨p', h1, h2, _⟩ := hs i p hp
    obtain ⟨q', h3, h4, _⟩ := hs j q hq
    rw [h2, h4]; exact h.apart i j p' q' hij h1 h3, h.small⟩
theorem OW.set_row {g c : Nat} (h : OV w lo (.slice (some ⟨g, 0, none⟩) n c) n es) {j : Nat} {e : El} (hj : es[j]? = some e) (i : Nat) (u : Value) : OW 61 3 (w.setCell ⟨g, i, none⟩ u) lo e.2.1.1 e.2.1.2.1 e.2.1.2.2 :=
  (h.own j e hj).chg (Chg.setCell (S := fun k => k = g) (p := ⟨g, i, none⟩) rfl u) (fun k hk e1 => h.ne hj (k := g) rfl (by rw [hk, e1]))
theorem OV.set2 {g c : Nat} (h : OV w lo (.slice (some ⟨g, 0, none⟩) n c) n es) {j : Nat} {e : El} (hj : es[j]? = some e) (x : Bool) :
    OV (w.setCell ⟨g, j * 3 + 2, none⟩ (.bool x)) lo (.slice (some ⟨g, 0, none⟩) n c) n (es.set j (e.1, e.2.1, x)) := by
  refine h.turn ?_ (fun i e' hi => ?_)
  · rw [← cellsT_set2 es j e x hj]; exact (World.ownsRow.stored h.row (j * 3 + 2) (.bool x)).1
  · by_cases e1 : j = i
    · subst e1
      rw [List.getElem?_set_self (List.getElem?_eq_some_iff.1 hj).1] at hi
      injection hi with hi; subst hi
      exact ⟨e, hj, rfl, OW.set_row h hj _ _⟩
    · rw [List.getElem?_set_ne e1] at hi
      exact ⟨e', hi, rfl, OW.set_row h hi _ _⟩
/-- One element's slice was appended to, and stored back. -/
theorem OV.append {g c : Nat} (h : OV w lo (.slice (some ⟨g, 0, none⟩) n c) n es) {j : Nat} {e : El} (hj : es[j]? = some e) (hg : w.grownBy w' e.2.1.1.ownBlock) {q : In} (ho : OW 61 3 w' lo q.1 q.2.1 q.2.2)
    (hq : q.1.ownBlock = e.2.1.1.ownBlock ∨ ∀ k, q.1.ownBlock = some k → w.heap.size ≤ k) : OV (w'.setCell ⟨g, j * 3 + 1, none⟩ q.1) lo (.slice (some ⟨g, 0, none⟩) n c) n (es.set j (e.1, q, e.2.2)) := by
  have hjl := (List.getElem?_eq_some_iff.1 hj).1
  have hrow : w'.ownsRow lo 66 3 (.slice (some ⟨g, 0, none⟩) n c) n (cellsT es) := own_chg h.row (S := fun k => e.2.1.1.ownBlock = some k) (Chg.of_grown hg (fun _ e => e)) (fun k hk hr => h.ne hj hk hr)
  have hblk : ∃ cs, Blk w' g 66 cs := by
    rcases hrow.2 with ⟨h1, _⟩ | ⟨g', cap, cur, h1, _, hb, _⟩
    · cases h1
    · injection h1 with h1; injection h1 with h1; injection h1 with h1; subst h1; exact ⟨cur, hb⟩
  obtain ⟨cs, hblk⟩ := hblk
  have hset : ∀ {m : Nat} {u : Value} {xs : List Int}, OW 61 3 w' lo u m xs → OW 61 3 (w'.setCell ⟨g, j * 3 + 1, none⟩ q.1) lo u m xs := fun {m u xs} hu =>
    hu.chg (Chg.setCell (S := fun k => k = g) (p := ⟨g, j * 3 + 1, none⟩) rfl _) (fun k hk e1 => hu.ne_blk hblk (by decide) (by rw [hk, e1]))
  have hap : ∀ (i : Nat) (p : El), i ≠ j → es[i]? = some p → Apart p.2.1.1 q.1 := fun i p hij hi => by
    rcases hq with hq | hq
    · have := h.apart i j p e hij hi hj
      unfold Apart at *
      rw [hq]; exact this
    · unfold Apart
      cases hp : p.2.1.1.ownBlock with
      | none => exact .inl rfl
      | some k =>
        right; intro e1
        have h1 := (h.own i p hi).lt k hp
        have h2 := hq k e1.symm
        omega
  refine ⟨?_, fun i p hi => ?_, fun i k p r hik hi hk => ?_, h.small⟩
  · rw [← cellsT_set1 es j e q hj]; exact (World.ownsRow.stored hrow (j * 3 + 1) q.1).1
  · by_cases e1 : j = i
    · subst e1
      rw [List.getElem?_set_self hjl] at hi
      injection hi with hi; subst hi
      exact hset ho
    · rw [List.getElem?_set_ne e1] at hi
      exact hset ((h.own i p hi).grown hg (h.apart i j p e (Ne.symm e1) hi hj))
  · by_cases e1 : j = i
    · subst e1
      rw [List.getElem?_set_self hjl] at hi
      rw [List.getElem?_set_ne hik] at hk
      injection hi with hi; subst hi
      exact (hap k r (Ne.symm hik) hk).symm
    · rw [List.getElem?_set_ne e1] at hi
      by_cases e2 : j = k
      · subst e2
        rw [List.getElem?_set_self hjl] at hk
        injection hk with hk; subst hk
        exact hap i p (Ne.symm e1) hi
      · rw [List.getElem?_set_ne e2] at hk
        exact h.apart i k p r hik hi hk
/-- A further element behind all. -/
theorem OV.push {v' : Value} (h : OV w lo v n es) {e : El} (hr : w'.ownsRow lo 66 3 v' (n + 1) (cellsT (es ++ [e]))) (hg : w.grownBy w' v.ownBlock) (ho : OW 61 3 w' lo e.2.1.1 e.2.1.2.1 e.2.1.2.2)
    (ha : ∀ (j : Nat) (p : El), es[j]? = some p → Apart p.2.1.1 e.2.1.1) (hn : n + 1 ≤ 1048576) : OV w' lo v' (n + 1) (es ++ [e]) := by
  have key : ∀ (i : Nat) (p : El), (es ++ [e])[i]? = some p → (i < es.length ∧ es[i]? = some p) ∨ (i = es.length ∧ p = e) := fun i p hi => by
    by_cases e1 : i < es.length
    · rw [List.getElem?_append_left e1] at hi; exact .inl ⟨e1, hi⟩
    · have : i = es.length := by have := (List.getElem?_eq_some_iff.1 hi).1; simp at this; omega
      subst this
      simp at hi
      exact .inr ⟨rfl, hi.symm⟩
  refine ⟨hr, fun i p hi => ?_, fun i k p r hik hi hk => ?_, hn⟩
  · rcases key i p hi with ⟨_, hi2⟩ | ⟨_, rfl⟩
    · refine (h.own i p hi2).grown hg ?_
      cases hv : p.2.1.1.ownBlock with
      | none => exact .inl rfl
      | some k => right; intro e2; exact h.ne hi2 e2.symm hv
    · exact ho
  · rcases key i p hi with ⟨_, hi2⟩ | ⟨e1, ei⟩
    · rcases key k r hk with ⟨_, hk2⟩ | ⟨_, ek⟩
      · exact h.apart i k p r hik hi2 hk2
      · exact ek ▸ ha i p hi2
    · rcases key k r hk with ⟨_, hk2⟩ | ⟨e2, _⟩
      · exact ei ▸ (ha k r hk2).symm
      · omega
end
end Go.Proofs.YtcfkemchekmjbaaGreatDoor

namespace Go.Proofs.YtcfkemchekmjbaaGreatDoor
open Go.RowKit
theorem OV.made {w : World} (k : Nat) (hk : k ≤ 1048576) : OV (w.alloc (.cells (madeCells #[.int .i64 0, .slice none 0 0, .bool false] (k * 3)) 66)) w.heap.size (.slice (some ⟨w.heap.size, 0, none⟩) 0 k) 0 [] :=
  ⟨⟨rfl, .inr ⟨w.heap.size, k, _, rfl, Nat.le_refl _, Blk.new w _ _, Nat.zero_le _, by simp [maxLen]; omega, by simp [size_madeCells], by simp [cellsT]⟩⟩, fun j e h => by simp at h, fun i j p q _ h => by simp at h, by omega⟩
end Go.Proofs.YtcfkemchekmjbaaGreatDoor

namespace Go.Proofs.YtcfkemchekmjbaaGreatDoor
open Go.RowKit
set_option maxHeartbeats 400000 in
theorem keyOk_c {n : Int} {w : World} : Calls Tryz.prog 150 #[.int .i64 n] w fun e w' => e = .returned (.bool (inB n 0 2)) ∧ w = w' := by
  go_enter Tryz.func150, Tryz.ntmps150
  go_wp2_with (go_at_call 56; refine (within_c).mono ?_; rintro e w' ⟨rfl, rfl⟩)
  go_ret
  exact ⟨rfl, rfl⟩
set_option maxHeartbeats 400000 in
theorem sessionOk_c {n : Int} {w : World} : Calls Tryz.prog 103 #[.int .i64 n] w fun e w' => e = .returned (.bool (inB n 0 3)) ∧ w = w' := by
  go_enter Tryz.func103, Tryz.ntmps103
  go_wp2_with (go_at_call 56; refine (within_c).mono ?_; rintro e w' ⟨rfl, rfl⟩)
  go_ret
  exact ⟨rfl, rfl⟩
end Go.Proofs.YtcfkemchekmjbaaGreatDoor

namespace Go.Proofs.YtcfkemchekmjbaaGreatDoor
open Go.RowKit
theorem Mach.chg {S : Nat → Prop} {w w' : World} {lo gm n c : Nat} {A : Option Addr} {v : Value} {ts : List Tx} {es : List El} (h : Mach w lo gm A n c v ts es) (hc : Chg S w w') (h1 : ¬ S gm) (h2 : ∀ k, OT.S v es k → ¬ S k) : Mach w' lo gm A n c v ts es :=
  ⟨h.box.chg hc h1, h.own.chg hc h2, h.says, h.lt⟩
theorem Fits.small {ds : Ds} {ts : List Tx} (h : Fits ds ts) (hd : ∀ d ∈ ds, draftB d = true) : SmallT ts := fun t ht => by
  obtain ⟨i, hi, he⟩ := List.mem_iff_getElem.1 ht
  have h1 : ts[i]? = some t := by rw [← he]; exact List.getElem?_eq_getElem hi
  obtain ⟨d, t', h2, h3, _, _, _, h4, _⟩ := h.at_ (n := i) (by rw [← h.1]; exact hi)
  rw [h1] at h3; injection h3 with h3; subst h3
  have := (draftB_parts (hd d (List.mem_of_getElem? h2))).2.1
  omega
end Go.Proofs.YtcfkemchekmjbaaGreatDoor

namespace Go.Proofs.YtcfkemchekmjbaaGreatDoor
open Go.RowKit
/-- The cells of n drafts; 'is': the steps of the first ones. -/
def csD (n : Nat) (cs : List Value) (is : List In) : Prop := cs.length = n * 2 ∧ ∀ (j : Nat) (q : In), is[j]? = some q → j < n ∧ cs[j * 2 + 1]? = some q.1 ∧ ∃ x, cs[j * 2]? = some (.int .i64 x)
theorem csD.push {n k : Nat} {cs : List Value} {is : List In} (h : csD n cs is) (hl : is.length = k) (hk : k < n) (f : Int) (q : In) : csD n ((cs.set (k * 2) (.int .i64 f)).set (k * 2 + 1) q.1) (is ++ [q]) := by
  obtain ⟨h1, h2⟩ := h
  refine ⟨by simp [h1], fun j p hj => ?_⟩
  by_cases e : j < is.length
  · rw [List.getElem?_append_left e] at hj
    obtain ⟨h3, h4, x, h5⟩ := h2 j p hj
    refine ⟨h3, ?_, x, ?_⟩
    · rw [List.getElem?_set_ne (by omega), List.getElem?_set_ne (by omega)]; exact h4
    · rw [List.getElem?_set_ne (by omega), List.getElem?_set_ne (by omega)]; exact h5
  · obtain rfl : j = is.length := by have := (List.getElem?_eq_some_iff.1 hj).1; simp at this; omega
    simp at hj
    subst hj; subst hl
    refine ⟨hk, ?_, f, ?_⟩
    · rw [List.getElem?_set_self (by simp; omega)]
    · rw [List.getElem?_set_ne (by omega), List.getElem?_set_self (by omega)]
theorem csD.int {n : Nat} {cs : List Value} {is : List In} (h : csD n cs is) (k : Nat) (f : Int) : csD n (cs.set (k * 2) (.int .i64 f)) is := by
  obtain ⟨h1, h2⟩ := h
  refine ⟨by simp [h1], fun j p hj => ?_⟩
  obtain ⟨h3, h4, x, h5⟩ := h2 j p hj
  refine ⟨h3, ?_, ?_⟩
  · rw [List.getElem?_set_ne (by omega)]; exact h4
  · by_cases e : k = j
    · subst e; exact ⟨f, List.getElem?_set_self (by omega)⟩
    · exact ⟨x, by rw [List.getElem?_set_ne (by omega)]; exact h5⟩
/-- The drafts 'ms', all the call's own, from block lo on. -/
def ODs (w : World) (lo g n : Nat) (ms : Ds) : Prop := ∃ cs is, Dp 77 61 3 w lo g cs is ∧ csD n cs is ∧ is.map (·.2.1) = ms.map (·.2.length)
theorem ODs.below {w w' : World} {lo g n : Nat} {ms : Ds} (h : ODs w lo g n ms) (hb : Below w.heap.size w w') : ODs w' lo g n ms := by
  obtain ⟨cs, is, h1, h2, h3⟩ := h; exact ⟨cs, is, h1.below hb, h2, h3⟩
end Go.Proofs.YtcfkemchekmjbaaGreatDoor

namespace Go.Proofs.YtcfkemchekmjbaaGreatDoor
/-- A history that may lie there: at most 4 transactions of at most 4 operations. -/
def Lean4 (ts : List Tx) : Prop := ts.length ≤ 4 ∧ ∀ t ∈ ts, t.2.1.length ≤ 4
theorem Lean4.nil : Lean4 [] := ⟨by simp, fun t h => by simp at h⟩
theorem Lean4.small {ts : List Tx} (h : Lean4 ts) : SmallT ts := fun t ht => by have := h.2 t ht; omega
theorem sumE_le (c : Nat) : ∀ (es : List El), (∀ e ∈ es, e.2.1.2.1 ≤ c) → sumE es ≤ es.length * (c * 3 + 2)
  | [], _ => by simp [sumE]
  | e :: es, h => by
    have h1 := sumE_le c es (fun x hx => h x (List.mem_cons_of_mem _ hx))
    have h2 := h e (List.mem_cons_self ..)
    have h3 : sumE (e :: es) = e.2.1.2.1 * 3 + 2 + sumE es := by simp [sumE]
    rw [h3, List.length_cons, Nat.add_mul]
    omega
theorem OV.sum {w : World} {lo n : Nat} {v : Value} {es : List El} {ts : List Tx} (D : OV w lo v n es) (hs : SaysT es ts) (h4 : Lean4 ts) : sumE es ≤ 56 := by
  have hl := hs.len
  have h1 := sumE_le 4 es (fun e he => by
    obtain ⟨i, hi, hg⟩ := List.mem_iff_getElem.1 he
    have he' : es[i]? = some e := by rw [← hg]; exact List.getElem?_eq_getElem hi
    have ht : ts[i]? = some (ts[i]'(by omega)) := List.getElem?_eq_getElem _
    obtain ⟨e', h2, _, h3, _⟩ := hs.at_ ht
    rw [he'] at h2; injection h2 with h2; subst h2
    have h5 := (D.own i e he').len
    rw [h3, flat3_len] at h5
    have := h4.2 _ (List.mem_of_getElem? ht)
    omega)
  have := h4.1
  have h6 : es.length * (4 * 3 + 2) ≤ 4 * 14 := Nat.mul_le_mul (by omega) (Nat.le_refl _)
  omega
end Go.Proofs.YtcfkemchekmjbaaGreatDoor

namespace Go.Proofs.YtcfkemchekmjbaaGreatDoor
open Go.RowKit
def opB (o : T3) : Bool := inB o.1 1 2 && (inB o.2.1 0 2 && (inB o.2.2 0 99 && ((o.1 == 1) || decide (0 < o.2.2))))
def txnB (t : Tx) : Bool := t.2.1.all opB && (inB t.1 0 3 && decide (t.2.1.length ≤ 6))
/-- The last write to a key. -/
def lastK (os : List T3) (key : Int) : Option T3 := os.reverse.find? fun o => decide (o.1 = 2) && decide (o.2.1 = key)
/-- The last operation on a key. -/
def lastO (os : List T3) (key : Int) : Option T3 := os.reverse.find? fun o => decide (o.2.1 = key)
def lastW (os : List T3) : List T3 := (lastK os 0).toList ++ ((lastK os 1).toList ++ (lastK os 2).toList)
def ownV (os : List T3) (key : Int) (other : Int) : Int := match lastO os key with | some o => o.2.2 | none => other
theorem snoc_ind {α : Type} {motive : List α → Prop} (nil : motive []) (append_singleton : ∀ l a, motive l → motive (l ++ [a])) (l : List α) : motive l := by
  have h : ∀ r : List α, motive r.reverse := by
    intro r
    induction r with
    | nil => exact nil
    | cons a r ih => rw [List.reverse_cons]; exact append_singleton _ _ ih
  have := h l.reverse
  rwa [List.reverse_reverse] at this
theorem lastK_some {os : List T3} {key : Int} {o : T3} (h : lastK os key = some o) : o ∈ os ∧ o.1 = 2 ∧ o.2.1 = key := by
  unfold lastK at h
  have h1 := List.find?_some h
  have h2 := List.mem_of_find?_eq_some h
  simp at h1 h2
  exact ⟨h2, h1⟩
theorem lastO_some {os : List T3} {key : Int} {o : T3} (h : lastO os key = some o) : o ∈ os ∧ o.2.1 = key := by
  unfold lastO at h
  have h1 := List.find?_some h
  have h2 := List.mem_of_find?_eq_some h
  simp at h1 h2
  exact ⟨h2, h1⟩
theorem lastK_snoc (os : List T3) (o : T3) (key : Int) : lastK (os ++ [o]) key = if o.1 = 2 ∧ o.2.1 = key then some o else lastK os key := by
  unfold lastK
  rw [List.reverse_append]
  simp only [List.reverse_singleton, List.singleton_append, List.find?_cons]
  by_cases h : o.1 = 2 ∧ o.2.1 = key
  · simp [h]
  · rw [if_neg h]
    have : (decide (o.1 = 2) && decide (o.2.1 = key)) = false := by simpa using h
    rw [this]
theorem lastO_snoc (os : List T3) (o : T3) (key : Int) : lastO (os ++ [o]) key = if o.2.1 = key then some o else lastO os key := by
  unfold lastO
  rw [List.reverse_append]
  simp only [List.reverse_singleton, List.singleton_append, List.find?_cons]
  by_cases h : o.2.1 = key
  · simp [h]
  · rw [if_neg h]
    have : decide (o.2.1 = key) = false := by simpa using h
    rw [this]
/-- From behind: nothing among the last ones, then it. -/
theorem lastK_at {os : List T3} {k : Nat} {o : T3} {key : Int} (hk : os[k]? = some o) (ho : o.1 = 2 ∧ o.2.1 = key) (hb : ∀ j p, k < j → os[j]? = some p → ¬ (p.1 = 2 ∧ p.2.1 = key)) : lastK os key = some o := by
  induction os using snoc_ind with
  | nil => simp at hk
  | append_singleton l a ih =>
    rw [lastK_snoc]
    by_cases e : k < l.length
    · have h1 := hb l.length a e (by simp)
      rw [if_neg h1]
      rw [List.getElem?_append_left e] at hk
      exact ih hk (fun j p hj hp => hb j p hj (by rw [List.getElem?_append_left (List.getElem?_eq_some_iff.1 hp).1]; exact hp))
    · have : k = l.length := by have := (List.getElem?_eq_some_iff.1 hk).1; simp at this; omega
      subst this
      simp at hk; subst hk
      rw [if_pos ho]
theorem lastK_none {os : List T3} {key : Int} (hb : ∀ (j : Nat) p, os[j]? = some p → ¬ (p.1 = 2 ∧ p.2.1 = key)) : lastK os key = none := by
  cases h : lastK os key with
  | none => rfl
  | some o =>
    obtain ⟨h1, h2⟩ := lastK_some h
    obtain ⟨j, hj, he⟩ := List.mem_iff_getElem.1 h1
    exact absurd h2 (hb j o (by rw [← he]; exact List.getElem?_eq_getElem hj))
theorem lastO_at {os : List T3} {k : Nat} {o : T3} {key : Int} (hk : os[k]? = some o) (ho : o.2.1 = key) (hb : ∀ j p, k < j → os[j]? = some p → ¬ p.2.1 = key) : lastO os key = some o := by
  induction os using snoc_ind with
  | nil => simp at hk
  | append_singleton l a ih =>
    rw [lastO_snoc]
    by_cases e : k < l.length
    · have h1 := hb l.length a e (by simp)
      rw [if_neg h1]
      rw [List.getElem?_append_left e] at hk
      exact ih hk (fun j p hj hp => hb j p hj (by rw [List.getElem?_append_left (List.getElem?_eq_some_iff.1 hp).1]; exact hp))
    · have : k = l.length := by have := (List.getElem?_eq_some_iff.1 hk).1; simp at this; omega
      subst this
      simp at hk; subst hk
      rw [if_pos ho]
theorem lastO_none {os : List T3} {key : Int} (hb : ∀ (j : Nat) p, os[j]? = some p → ¬ p.2.1 = key) : lastO os key = none := by
  cases h : lastO os key with
  | none => rfl
  | some o =>
    obtain ⟨h1, h2⟩ := lastO_some h
    obtain ⟨j, hj, he⟩ := List.mem_iff_getElem.1 h1
    exact absurd h2 (hb j o (by rw [← he]; exact List.getElem?_eq_getElem hj))
theorem lastW_mem {os : List T3} {o : T3} (h : o ∈ lastW os) : o ∈ os ∧ o.1 = 2 := by
  unfold lastW at h
  simp only [List.mem_append, Option.mem_toList] at h
  rcases h with h | h | h
  · exact ⟨(lastK_some h).1, (lastK_some h).2.1⟩
  · exact ⟨(lastK_some h).1, (lastK_some h).2.1⟩
  · exact ⟨(lastK_some h).1, (lastK_some h).2.1⟩
/-- The last writes of the keys below k. -/
def lastTo (os : List T3) (k : Nat) : List T3 := (List.range k).flatMap fun (j : Nat) => (lastK os (j : Int)).toList
theorem lastTo_succ (os : List T3) (k : Nat) : lastTo os (k + 1) = lastTo os k ++ (lastK os (k : Int)).toList := by
  unfold lastTo; rw [List.range_succ, List.flatMap_append]; simp
theorem lastTo_three (os : List T3) : lastTo os 3 = lastW os := by
  rw [lastTo_succ, lastTo_succ, lastTo_succ]
  simp [lastTo, lastW]
theorem lastTo_len (os : List T3) (k : Nat) : (lastTo os k).length ≤ k := by
  induction k with
  | zero => simp [lastTo]
  | succ k ih =>
    rw [lastTo_succ, List.length_append]
    have : (lastK os (k : Int)).toList.length ≤ 1 := by cases lastK os (k : Int) <;> simp
    omega
end Go.Proofs.YtcfkemchekmjbaaGreatDoor

namespace Go.Proofs.YtcfkemchekmjbaaGreatDoor
open Go.RowKit
def wOf (o : T3) : Option (Int × Int) := if o.1 = 2 then some (o.2.1, o.2.2) else none
def wl (os : List T3) : List (Int × Int) := os.filterMap wOf
def allOps (ts : List Tx) : List T3 := ts.flatMap (·.2.1)
/-- All operations before place j of transaction k. -/
def opsTo (ts : List Tx) (k j : Nat) : List T3 := allOps (ts.take k) ++ ((ts.getD k (0, [], false)).2.1).take j
def histB (ts : List Tx) : Bool := decide (ts.length ≤ 6) && (ts.all txnB && decide ((wl (allOps ts)).Nodup))
theorem wl_append (a b : List T3) : wl (a ++ b) = wl a ++ wl b := by simp [wl]
theorem wl_one_w {o : T3} (h : o.1 = 2) : wl [o] = [(o.2.1, o.2.2)] := by simp [wl, wOf, h]
theorem wl_one_r {o : T3} (h : o.1 ≠ 2) : wl [o] = [] := by simp [wl, wOf, h]
theorem allOps_append (a b : List Tx) : allOps (a ++ b) = allOps a ++ allOps b := by simp [allOps]
theorem opsTo_zero (ts : List Tx) : opsTo ts 0 0 = [] := by simp [opsTo, allOps]
theorem opsTo_op {ts : List Tx} {k j : Nat} {t : Tx} {o : T3} (ht : ts[k]? = some t) (ho : t.2.1[j]? = some o) : opsTo ts k (j + 1) = opsTo ts k j ++ [o] := by
  have e : ts.getD k (0, [], false) = t := by simp [List.getD, ht]
  unfold opsTo
  rw [e, List.take_add_one, ho]
  simp
theorem opsTo_next {ts : List Tx} {k j : Nat} {t : Tx} (ht : ts[k]? = some t) (hj : t.2.1.length ≤ j) : opsTo ts (k + 1) 0 = opsTo ts k j := by
  have e : ts.getD k (0, [], false) = t := by simp [List.getD, ht]
  unfold opsTo
  rw [e, List.take_add_one, ht, List.take_of_length_le hj, allOps_append]
  simp [allOps]
theorem opsTo_all {ts : List Tx} {k : Nat} (hk : ts.length ≤ k) : opsTo ts k 0 = allOps ts := by
  unfold opsTo
  rw [List.take_of_length_le hk]; simp
/-- What stands before a place, and what stands behind it. -/
theorem opsTo_split {ts : List Tx} {k : Nat} {t : Tx} (ht : ts[k]? = some t) (j : Nat) : ∃ r, allOps ts = opsTo ts k j ++ r := by
  have e : ts.getD k (0, [], false) = t := by simp [List.getD, ht]
  have h1 : ts = ts.take k ++ t :: ts.drop (k + 1) := by
    have hk := (List.getElem?_eq_some_iff.1 ht)
    obtain ⟨hk, hv⟩ := hk
    rw [← hv, List.getElem_cons_drop, List.take_append_drop]
  refine ⟨t.2.1.drop j ++ allOps (ts.drop (k + 1)), ?_⟩
  have h2 : allOps ts = allOps (ts.take k ++ t :: ts.drop (k + 1)) := congrArg allOps h1
  rw [h2, allOps_append]
  unfold opsTo
  rw [e]
  have h3 : allOps (t :: ts.drop (k + 1)) = t.2.1 ++ allOps (ts.drop (k + 1)) := by simp [allOps]
  rw [h3, List.append_assoc, ← List.append_assoc (t.2.1.take j), List.take_append_drop]
theorem wl_all_split {ts : List Tx} {k j : Nat} {t : Tx} {o : T3} (ht : ts[k]? = some t) (ho : t.2.1[j]? = some o) (hw : o.1 = 2) : ∃ r, wl (allOps ts) = wl (opsTo ts k j) ++ (o.2.1, o.2.2) :: r := by
  obtain ⟨r, hr⟩ := opsTo_split ht (j + 1)
  refine ⟨wl r, ?_⟩
  rw [hr, wl_append, opsTo_op ht ho, wl_append, wl_one_w hw]
  simp
/-- A value that was written before. -/
theorem histB_twice {ts : List Tx} {k j : Nat} {t : Tx} {o : T3} (ht : ts[k]? = some t) (ho : t.2.1[j]? = some o) (hw : o.1 = 2) (hm : (o.2.1, o.2.2) ∈ wl (opsTo ts k j)) : ¬ (wl (allOps ts)).Nodup := by
  obtain ⟨r, hr⟩ := wl_all_split ht ho hw
  rw [hr]
  intro h
  exact (List.nodup_append.1 h).2.2 _ hm _ (List.mem_cons_self ..) rfl
theorem wl_step_w {ts : List Tx} {k j : Nat} {t : Tx} {o : T3} (ht : ts[k]? = some t) (ho : t.2.1[j]? = some o) (hw : o.1 = 2) : wl (opsTo ts k (j + 1)) = wl (opsTo ts k j) ++ [(o.2.1, o.2.2)] := by
  rw [opsTo_op ht ho, wl_append, wl_one_w hw]
theorem wl_step_r {ts : List Tx} {k j : Nat} {t : Tx} {o : T3} (ht : ts[k]? = some t) (ho : t.2.1[j]? = some o) (hw : o.1 ≠ 2) : wl (opsTo ts k (j + 1)) = wl (opsTo ts k j) := by
  rw [opsTo_op ht ho, wl_append, wl_one_r hw]; simp
theorem nodup_snoc {α : Type} {l : List α} {a : α} (h : l.Nodup) (ha : a ∉ l) : (l ++ [a]).Nodup :=
  List.nodup_append.2 ⟨h, by simp, fun x hx y hy e => by simp at hy; subst hy; subst e; exact ha hx⟩
theorem histB_bad {ts : List Tx} {k : Nat} {t : Tx} (ht : ts[k]? = some t) (h : txnB t = false) : histB ts = false := by
  have h1 : ts.all txnB = false := by
    rw [List.all_eq_false]; exact ⟨t, List.mem_of_getElem? ht, by simp [h]⟩
  simp [histB, h1]
theorem histB_parts {ts : List Tx} (h : histB ts = true) : ts.length ≤ 6 ∧ (∀ t ∈ ts, txnB t = true) ∧ (wl (allOps ts)).Nodup := by
  unfold histB at h
  simp only [Bool.and_eq_true, decide_eq_true_eq, List.all_eq_true] at h
  exact h
/-- The numbers of the committed transactions among the first k. -/
def doneTo (ts : List Tx) : Nat → List Int
  | 0 => []
  | k + 1 => doneTo ts k ++ (if (ts.getD k (0, [], false)).2.2 then [(k : Int)] else [])
theorem doneTo_yes {ts : List Tx} {k : Nat} {t : Tx} (h : ts[k]? = some t) (hb : t.2.2 = true) : doneTo ts (k + 1) = doneTo ts k ++ [(k : Int)] := by
  simp [doneTo, List.getD, h, hb]
theorem doneTo_no {ts : List Tx} {k : Nat} {t : Tx} (h : ts[k]? = some t) (hb : t.2.2 = false) : doneTo ts (k + 1) = doneTo ts k := by
  simp [doneTo, List.getD, h, hb]
theorem doneTo_len (ts : List Tx) (k : Nat) : (doneTo ts k).length ≤ k := by
  induction k with
  | zero => simp [doneTo]
  | succ k ih => simp only [doneTo, List.length_append]; split <;> simp <;> omega
def doneL (ts : List Tx) : List Int := doneTo ts ts.length
theorem txnB_opH {f : Int} {dn : Bool} {ys : List T3} (h : txnB (f, ys, dn) = true) {k : Nat} {o : T3} (hk : ys[k]? = some o) : opB o = true := by
  unfold txnB at h
  simp only [Bool.and_eq_true] at h
  exact List.all_eq_true.1 h.1 o (List.mem_of_getElem? hk)
theorem txnB_lenH {f : Int} {dn : Bool} {ys : List T3} (h : txnB (f, ys, dn) = true) : ys.length ≤ 6 := by
  unfold txnB at h; simp at h; exact h.2.2
end Go.Proofs.YtcfkemchekmjbaaGreatDoor

namespace Go.Proofs.YtcfkemchekmjbaaGreatDoor
open Go.RowKit
/-- A store behind operations; none, if a read is not right. -/
def followL (s : List Int) : List T3 → Option (List Int)
  | [] => some s
  | o :: os => if o.1 = 2 then followL (s.set o.2.1.toNat o.2.2) os else if s.getD o.2.1.toNat 0 = o.2.2 then followL s os else none
/-- Does an order run, from a store on? -/
def runsF (ts : List Tx) : List Int → List Int → Bool
  | _, [] => true
  | s, n :: r => match followL s (opsOf ts n.toNat) with
    | none => false
    | some s' => runsF ts s' r
/-- All orders, those that begin with earlier ones first. -/
def permsF : Nat → List Int → List (List Int)
  | 0, _ => [[]]
  | f + 1, l => if l = [] then [[]] else (List.range l.length).flatMap fun k => (permsF f (l.eraseIdx k)).map (l.getD k 0 :: ·)
theorem permsF_len : ∀ (f : Nat) (l : List Int), l.length ≤ f → ∀ x ∈ permsF f l, x.length = l.length
  | 0, l, h, x, hx => by
    have : l.length = 0 := by omega
    simp [permsF] at hx; subst hx; simp [this]
  | f + 1, l, h, x, hx => by
    by_cases h0 : l = []
    · simp [permsF, h0] at hx; subst hx; simp [h0]
    · simp only [permsF, if_neg h0, List.mem_flatMap, List.mem_range, List.mem_map] at hx
      obtain ⟨k, hk, y, hy, rfl⟩ := hx
      have h1 : (l.eraseIdx k).length = l.length - 1 := by rw [List.length_eraseIdx_of_lt hk]
      have := permsF_len f (l.eraseIdx k) (by omega) y hy
      simp only [List.length_cons]
      omega
end Go.Proofs.YtcfkemchekmjbaaGreatDoor

namespace Go.Proofs.YtcfkemchekmjbaaGreatDoor
open Go.RowKit
def restOf (all used : List Int) : List Int := all.filter fun n => !used.contains n
theorem erase_at : ∀ {l : List Int} (_ : l.Nodup) (k : Nat) (hk : k < l.length), l.eraseIdx k = l.erase l[k]
  | [], _, k, hk => by simp at hk
  | a :: l, h, 0, hk => by simp
  | a :: l, h, k + 1, hk => by
    have h2 := List.nodup_cons.1 h
    have hk' : k < l.length := by simpa using hk
    have hne : a ≠ l[k] := fun e => h2.1 (e ▸ List.getElem_mem hk')
    rw [List.eraseIdx_cons_succ, List.getElem_cons_succ, List.erase_cons_tail (by simpa using hne), erase_at h2.2 k hk']
theorem restOf_snoc {all : List Int} (h : all.Nodup) (used : List Int) (n : Int) : restOf all (used ++ [n]) = (restOf all used).erase n := by
  have hn : (restOf all used).Nodup := List.Nodup.sublist List.filter_sublist h
  rw [List.Nodup.erase_eq_filter hn]
  unfold restOf
  rw [List.filter_filter]
  apply List.filter_congr
  intro x _
  by_cases h1 : x ∈ used <;> by_cases h2 : x = n <;> simp [h1, h2]
end Go.Proofs.YtcfkemchekmjbaaGreatDoor

namespace Go.Proofs.YtcfkemchekmjbaaGreatDoor
open Go.RowKit
section
variable {α : Type} (go : α → List Int → α × Bool) (ts : List Tx)
/-- One level of the search, over what is left of all. -/
def srchL (rec : Int → List Int → α → α × Bool) (used s : List Int) : List Int → α → α × Bool
  | [], a => (a, true)
  | n :: l, a => if used.contains n then srchL rec used s l a else match followL s (opsOf ts n.toNat) with
    | none => srchL rec used s l a
    | some s' => if (rec n s' a).2 then srchL rec used s l (rec n s' a).1 else ((rec n s' a).1, false)
def srch (all : List Int) : Nat → List Int → List Int → α → α × Bool
  | 0, _, used, a => go a used
  | f + 1, s, used, a => srchL ts (fun n s' a => srch all f s' (used ++ [n]) a) used s all a
theorem srchL_used {rec : Int → List Int → α → α × Bool} {used s : List Int} {n : Int} {l : List Int} {a : α} (h : used.contains n = true) : srchL ts rec used s (n :: l) a = srchL ts rec used s l a := by
  simp only [srchL]; rw [if_pos h]
theorem srchL_none {rec : Int → List Int → α → α × Bool} {used s : List Int} {n : Int} {l : List Int} {a : α} (h : used.contains n = false) (hf : followL s (opsOf ts n.toNat) = none) : srchL ts rec used s (n :: l) a = srchL ts rec used s l a := by
  simp only [srchL]; rw [if_neg (by rw [h]; decide), hf]
theorem srchL_on {rec : Int → List Int → α → α × Bool} {used s s' : List Int} {n : Int} {l : List Int} {a : α} (h : used.contains n = false) (hf : followL s (opsOf ts n.toNat) = some s') (hr : (rec n s' a).2 = true) : srchL ts rec used s (n :: l) a = srchL ts rec used s l (rec n s' a).1 := by
  simp only [srchL]; rw [if_neg (by rw [h]; decide), hf]; simp only; rw [if_pos hr]
theorem srchL_stop {rec : Int → List Int → α → α × Bool} {used s s' : List Int} {n : Int} {l : List Int} {a : α} (h : used.contains n = false) (hf : followL s (opsOf ts n.toNat) = some s') (hr : (rec n s' a).2 = false) : srchL ts rec used s (n :: l) a = ((rec n s' a).1, false) := by
  simp only [srchL]; rw [if_neg (by rw [h]; decide), hf]; simp only; rw [if_neg (by rw [hr]; decide)]
end
/-- The first one. -/
def goFst (_ : Option (List Int)) (u : List Int) : Option (List Int) × Bool := (some u, false)
end Go.Proofs.YtcfkemchekmjbaaGreatDoor
