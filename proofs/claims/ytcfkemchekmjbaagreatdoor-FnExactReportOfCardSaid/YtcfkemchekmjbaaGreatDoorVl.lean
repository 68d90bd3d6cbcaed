/- Merged (what the law reaches): LstP, Lq, AllP, Ccat. -/
import Derived.Test.YtcfkemchekmjbaaGreatDoorVk
import Derived.Lib.AppendZeros
namespace Go.Proofs.YtcfkemchekmjbaaGreatDoor
open Go.RowKit
abbrev Ls := List (List Int)
def EL (w : World) (b off : Nat) (xs : List Int) : Prop := ∃ (B : Option Addr) (k d : Nat), w.cell? ⟨b, off, none⟩ = some (.slice B k d) ∧ k ≤ d ∧ k ≤ 1048576 ∧ RI w B k xs
theorem EL.below {w w' : World} {b off : Nat} {xs : List Int} (h : EL w b off xs) (hb : Below w.heap.size w w') (hlt : b < w.heap.size) : EL w' b off xs := by
  obtain ⟨B, k, d, h1, h2, h3, h4⟩ := h
  exact ⟨B, k, d, (hb.cell (p := ⟨b, off, none⟩) hlt).trans h1, h2, h3, h4.below hb⟩
/-- n lists at A. -/
def RL (w : World) (A : Option Addr) (n : Nat) (ls : Ls) : Prop :=
  ls.length = n ∧ (0 < n → ∃ b off, A = some ⟨b, off, none⟩ ∧ b < w.heap.size ∧ ∀ (k : Nat) (xs : List Int), ls[k]? = some xs → EL w b (off + k) xs)
theorem RL.below {w w' : World} {A : Option Addr} {n : Nat} {ls : Ls} (h : RL w A n ls) (hb : Below w.heap.size w w') : RL w' A n ls :=
  ⟨h.1, fun hn => by
    obtain ⟨b, off, e, hlt, hc⟩ := h.2 hn
    exact ⟨b, off, e, Nat.lt_of_lt_of_le hlt hb.size, fun k m hm => (hc k m hm).below hb hlt⟩⟩
theorem RL.at_ {w : World} {A : Option Addr} {n : Nat} {ls : Ls} (h : RL w A n ls) {k : Nat} (hk : k < n) :
    ∃ b off xs B kk d, A = some ⟨b, off, none⟩ ∧ b < w.heap.size ∧ ls[k]? = some xs ∧ w.cell? ⟨b, off + k, none⟩ = some (.slice B kk d) ∧ kk ≤ d ∧ kk ≤ 1048576 ∧ RI w B kk xs := by
  obtain ⟨b, off, e, hlt, hc⟩ := h.2 (by omega)
  have hl : k < ls.length := by have := h.1; omega
  obtain ⟨xs, hg⟩ : ∃ q, ls[k]? = some q := ⟨ls[k], List.getElem?_eq_getElem hl⟩
  obtain ⟨B, kk, d, h1, h2, h3, h4⟩ := hc k xs hg
  exact ⟨b, off, xs, B, kk, d, e, hlt, hg, h1, h2, h3, h4⟩
def begB (a b : List Int) : Bool := decide (a.take (min a.length b.length) = b.take (min a.length b.length))
/-- All pairs before (k, j) agree. -/
def AgreeTo (ls : Ls) (k j : Nat) : Prop := ∀ (p q : Nat) (a b : List Int), p < q → (p < k ∨ (p = k ∧ q < j)) → ls[p]? = some a → ls[q]? = some b → begB a b = true
theorem AgreeTo.zero (ls : Ls) (j : Nat) (hj : j ≤ 1) : AgreeTo ls 0 j := fun p q a b h1 h2 _ _ => by omega
theorem AgreeTo.step {ls : Ls} {k j : Nat} {a b : List Int} (h : AgreeTo ls k j) (ha : ls[k]? = some a) (hb : ls[j]? = some b) (hab : begB a b = true) : AgreeTo ls k (j + 1) := fun p q a' b' h1 h2 h3 h4 => by
  by_cases e : p = k ∧ q = j
  · obtain ⟨rfl, rfl⟩ := e
    rw [ha] at h3; rw [hb] at h4
    injection h3 with h3; injection h4 with h4; subst h3; subst h4; exact hab
  · exact h p q a' b' h1 (by omega) h3 h4
theorem AgreeTo.next {ls : Ls} {k j : Nat} (h : AgreeTo ls k j) (hj : ls.length ≤ j) : AgreeTo ls (k + 1) (k + 2) := fun p q a b h1 h2 h3 h4 => by
  have hq := (List.getElem?_eq_some_iff.1 h4).1
  exact h p q a b h1 (by omega) h3 h4
end Go.Proofs.YtcfkemchekmjbaaGreatDoor

namespace Go.Proofs.YtcfkemchekmjbaaGreatDoor
open Go.RowKit
abbrev WI (w : World) (lo : Nat) (u : Value) (m : Nat) (xs : List Int) : Prop := OW 3 1 w lo u m xs
theorem OI.wi {w : World} {lo m : Nat} {u : Value} {xs : List Int} (h : OI w lo u m xs) : WI w lo u m xs := OF.ow (t := 3) (s := 1) h
theorem OW.ri {w : World} {lo m c : Nat} {A : Option Addr} {xs : List Int} (h : WI w lo (.slice A m c) m xs) : RI w A m xs ∧ m ≤ c := by
  have hl : xs.length = m := by have := h.len; omega
  rcases h.2.2 with ⟨h1, h2⟩ | ⟨g, cap, cur, h1, hB, hg, hc, hm, hs, ht⟩
  · injection h1 with h1 h3 h4
    subst h2; subst h4; subst h1
    exact ⟨⟨hl, fun h => absurd h (by omega)⟩, Nat.le_refl _⟩
  · injection h1 with h1 h3 h4
    subst h1; subst h4
    refine ⟨⟨hl, fun _ => ⟨g, 0, rfl, hg.lt, fun k x hx => ?_⟩⟩, hc⟩
    rw [Nat.zero_add, hg.cell k]
    have hk := (List.getElem?_eq_some_iff.1 hx).1
    have h2 : (cur.toList.take (m * 1))[k]? = some (.int .i64 x) := by rw [ht]; simp [hx]
    rw [List.getElem?_take] at h2
    split at h2
    · simpa using h2
    · cases h2
theorem OW.ne_own {w : World} {q v : Value} {lo lo' k n s : Nat} {xs : List Int} {cs : List Value} {t : TypeId} (h : WI w lo q k xs) (hv : w.ownsRow lo' t s v n cs) (ht : t ≠ 3) : q.ownBlock = none ∨ q.ownBlock ≠ v.ownBlock := by
  rcases hv.2 with ⟨rfl, _⟩ | ⟨g2, cap2, cur2, rfl, _, hh2, _⟩
  · rcases h.2.2 with ⟨rfl, _⟩ | ⟨g, c, cur, rfl, _⟩
    · left; rfl
    · right; simp [Value.ownBlock]
  · right; exact h.ne_blk hh2 ht
theorem own_ne_own {w : World} {q v : Value} {lo lo' k n s s' : Nat} {cs ds : List Value} {t t' : TypeId} (hq : w.ownsRow lo t' s' q k ds) (hv : w.ownsRow lo' t s v n cs) (ht : t ≠ t') : q.ownBlock = none ∨ q.ownBlock ≠ v.ownBlock := by
  rcases hq.2 with ⟨rfl, _⟩ | ⟨g1, cap, cur, rfl, _, hh, _⟩
  · left; rfl
  · right
    rcases hv.2 with ⟨rfl, _⟩ | ⟨g2, cap2, cur2, rfl, _, hh2, _⟩
    · simp [Value.ownBlock]
    · intro he
      have e : g1 = g2 := by have h : some g1 = some g2 := he; injection h
      subst e
      rw [hh] at hh2; injection hh2 with hh2; injection hh2 with _ h2; exact ht h2.symm
/-- The value v is a slice of lists of the call's own. -/
def LQ (w : World) (lo : Nat) (v : Value) (ls : Ls) : Prop := ∃ cs, w.ownsRow lo 24 1 v ls.length cs ∧ ∀ (k : Nat) (xs : List Int), ls[k]? = some xs → ∃ u m, cs[k]? = some u ∧ WI w lo u m xs
theorem LL.lq {w : World} {lo : Nat} {v : Value} {ls : Ls} (h : LL w lo v ls) : LQ w lo v ls := by
  obtain ⟨cs, h1, h2⟩ := h
  exact ⟨cs, h1, fun k xs hk => by obtain ⟨u, m, e, o⟩ := h2 k xs hk; exact ⟨u, m, e, o.wi⟩⟩
theorem LQ.empty (w : World) : LQ (w.alloc (.cells #[] 24)) w.heap.size (.slice (some ⟨w.heap.size, 0, none⟩) 0 0) [] := (LL.empty w).lq
theorem LQ.below {w w' : World} {lo : Nat} {v : Value} {ls : Ls} (h : LQ w lo v ls) (hb : Below w.heap.size w w') : LQ w' lo v ls := by
  obtain ⟨cs, h1, h2⟩ := h
  exact ⟨cs, h1.kept (row := none) ⟨hb.os, hb.tape, hb.output, hb.size, fun k hk _ => hb.block k hk⟩ (by cases hv : v.ownBlock <;> simp), fun k xs hk => by obtain ⟨u, m, e, o⟩ := h2 k xs hk; exact ⟨u, m, e, o.below hb⟩⟩
theorem LQ.mono {w : World} {lo lo' : Nat} {v : Value} {ls : Ls} (h : LQ w lo v ls) (hl : lo' ≤ lo) : LQ w lo' v ls := by
  obtain ⟨cs, ⟨h1, h2⟩, h3⟩ := h
  refine ⟨cs, ⟨h1, ?_⟩, fun k xs hk => by obtain ⟨u, m, e, o⟩ := h3 k xs hk; exact ⟨u, m, e, o.mono hl⟩⟩
  rcases h2 with h2 | ⟨g, cap, cur, hv, hb, r⟩
  · exact .inl h2
  · exact .inr ⟨g, cap, cur, hv, by omega, r⟩
theorem LQ.shape {w : World} {lo : Nat} {v : Value} {ls : Ls} (h : LQ w lo v ls) : ∃ A c, v = .slice A ls.length c := by
  obtain ⟨cs, h1, _⟩ := h
  rcases h1.2 with ⟨e, h0⟩ | ⟨g, cap, cur, e, _⟩
  · rw [h0]; exact ⟨none, 0, e⟩
  · exact ⟨_, _, e⟩
theorem LQ.grows {a w w' : World} {lo : Nat} {v : Value} {ls : Ls} (o : LQ w lo v ls) (h : Below a.heap.size a w) (hB : a.heap.size ≤ lo) (hg : w.grownBy w' v.ownBlock) : Below a.heap.size a w' := by
  obtain ⟨cs, o, _⟩ := o
  exact h.grown hg h.size (fun q hq => by have := (World.ownsRow.lt o q hq).1; omega)
/-- Something else grew. -/
theorem LQ.grown {w w' : World} {lo : Nat} {v : Value} {ls : Ls} {u : Value} {lo' n s : Nat} {cs : List Value} {t : TypeId} (h : LQ w lo v ls) (hu : w.ownsRow lo' t s u n cs) (hg : w.grownBy w' u.ownBlock) (h1 : t ≠ 3) (h2 : t ≠ 24) : LQ w' lo v ls := by
  obtain ⟨ds, a, b⟩ := h
  exact ⟨ds, a.kept hg (own_ne_own a hu h2), fun k xs hk => by obtain ⟨q, m, e, o⟩ := b k xs hk; exact ⟨q, m, e, o.grown hg (o.ne_own hu h1)⟩⟩
theorem LQ.rl {w : World} {lo c n : Nat} {A : Option Addr} {ls : Ls} (h : LQ w lo (.slice A n c) ls) : n = ls.length ∧ n ≤ c ∧ RL w A n ls := by
  obtain ⟨cs, h1, h2⟩ := h
  rcases h1.2 with ⟨e, h0⟩ | ⟨g, cap, cur, e, hB, hg, hc, hcm, hs, ht⟩
  · injection e with e e2 e3
    subst e2; subst e3
    exact ⟨h0.symm, Nat.le_refl _, h0, fun h => absurd h (by omega)⟩
  · injection e with e e2 e3
    subst e; subst e2; subst e3
    refine ⟨rfl, hc, rfl, fun _ => ⟨g, 0, rfl, Blk.lt (t := 24) (cs := cur) hg, fun k xs hk => ?_⟩⟩
    obtain ⟨u, m, hu, o⟩ := h2 k xs hk
    have hk' := (List.getElem?_eq_some_iff.1 hk).1
    obtain ⟨A', c', rfl, hmc, _⟩ := o.form
    exact ⟨A', m, c', by rw [Nat.zero_add, World.ownsRow.cellAt h1 k (by omega)]; exact hu, hmc, o.small, o.ri.1⟩
/-- 'append' of one list. -/
theorem LQ.run {w : World} {lo : Nat} {v : Value} {ls : Ls} (h : LQ w lo v ls) (ty : TypeId) {b m : Nat} {u : Value} {xs : List Int} (hK : Blk w b 24 #[u]) (hu : WI w lo u m xs) (hk : ls.length ≤ 1000) (hlo : lo ≤ w.heap.size) :
    ∃ v' w', (Builtin.append_ #[37, 37] ty #[v, .slice (some ⟨b, 0, none⟩) 1 1]).run Tryz.prog w = .ok v' w' ∧ LQ w' lo v' (ls ++ [xs]) ∧ w.grownBy w' v.ownBlock ∧ (v'.ownBlock = v.ownBlock ∨ v'.ownBlock = some w.heap.size) := by
  obtain ⟨i, hi, hz, hsz, hby⟩ := info_parts infoLi
  obtain ⟨cs, h1, h2⟩ := h
  have hcl := h1.1
  have hc1 : ∀ x ∈ [u], x.oneCell' = true := fun x hx => by
    obtain ⟨A, c, rfl, _⟩ := hu.form
    simp at hx; subst hx; rfl
  obtain ⟨v', w', hrun, hown, hg, hat⟩ := app_rd (P := Tryz.prog) (w := w) lo 37 ty 24 i (.slice none 0 0) 1 24 Tryz.underlying37 hi hz hsz hby rfl (by omega) v ls.length cs h1 _ 1 1 _ (Rd.one_ hK) hc1 (by simp only [maxLen]; omega) (by omega) hlo
  refine ⟨v', w', hrun, ⟨_, by rw [List.length_append, List.length_singleton]; exact hown, fun j ys hj => ?_⟩, hg, hat⟩
  by_cases e : j < ls.length
  · rw [List.getElem?_append_left e] at hj
    obtain ⟨x, m', e1, e2⟩ := h2 j ys hj
    exact ⟨x, m', by rw [List.getElem?_append_left (by omega)]; exact e1, e2.grown hg (e2.ne_own h1 (by decide))⟩
  · have : j = ls.length := by have := (List.getElem?_eq_some_iff.1 hj).1; simp at this; omega
    subst this
    simp at hj; subst hj
    exact ⟨u, m, by rw [List.getElem?_append_right (by omega), show ls.length - cs.length = 0 by omega]; rfl, hu.grown hg (hu.ne_own h1 (by decide))⟩
theorem infoLl : (Tryz.prog.info? 37).map (fun i => (i.zero, i.size, i.bytes)) = some (some (.slice none 0 0), 1, 24) := by kernel_rfl
/-- A slice of these. -/
def LLQ (w : World) (lo : Nat) (v : Value) (lss : List Ls) : Prop := ∃ cs, w.ownsRow lo 37 1 v lss.length cs ∧ ∀ (k : Nat) (os : Ls), lss[k]? = some os → ∃ u, cs[k]? = some u ∧ LQ w lo u os
theorem LLQ.empty (w : World) : LLQ (w.alloc (.cells #[] 37)) w.heap.size (.slice (some ⟨w.heap.size, 0, none⟩) 0 0) [] :=
  ⟨[], ⟨rfl, .inr ⟨w.heap.size, 0, #[], rfl, Nat.le_refl _, Blk.new w _ _, Nat.le_refl _, by simp [maxLen], rfl, rfl⟩⟩, fun k xs h => by simp at h⟩
theorem LLQ.below {w w' : World} {lo : Nat} {v : Value} {lss : List Ls} (h : LLQ w lo v lss) (hb : Below w.heap.size w w') : LLQ w' lo v lss := by
  obtain ⟨cs, h1, h2⟩ := h
  exact ⟨cs, h1.kept (row := none) ⟨hb.os, hb.tape, hb.output, hb.size, fun k hk _ => hb.block k hk⟩ (by cases hv : v.ownBlock <;> simp), fun k xs hk => by obtain ⟨u, e, o⟩ := h2 k xs hk; exact ⟨u, e, o.below hb⟩⟩
theorem LLQ.mono {w : World} {lo lo' : Nat} {v : Value} {lss : List Ls} (h : LLQ w lo v lss) (hl : lo' ≤ lo) : LLQ w lo' v lss := by
  obtain ⟨cs, ⟨h1, h2⟩, h3⟩ := h
  refine ⟨cs, ⟨h1, ?_⟩, fun k xs hk => by obtain ⟨u, e, o⟩ := h3 k xs hk; exact ⟨u, e, o.mono hl⟩⟩
  rcases h2 with h2 | ⟨g, cap, cur, hv, hb, r⟩
  · exact .inl h2
  · exact .inr ⟨g, cap, cur, hv, by omega, r⟩
theorem LLQ.shape {w : World} {lo : Nat} {v : Value} {lss : List Ls} (h : LLQ w lo v lss) : ∃ A c, v = .slice A lss.length c := by
  obtain ⟨cs, h1, _⟩ := h
  rcases h1.2 with ⟨e, h0⟩ | ⟨g, cap, cur, e, _⟩
  · rw [h0]; exact ⟨none, 0, e⟩
  · exact ⟨_, _, e⟩
theorem LLQ.grows {a w w' : World} {lo : Nat} {v : Value} {lss : List Ls} (o : LLQ w lo v lss) (h : Below a.heap.size a w) (hB : a.heap.size ≤ lo) (hg : w.grownBy w' v.ownBlock) : Below a.heap.size a w' := by
  obtain ⟨cs, o, _⟩ := o
  exact h.grown hg h.size (fun q hq => by have := (World.ownsRow.lt o q hq).1; omega)
theorem LLQ.run {w : World} {lo : Nat} {v : Value} {lss : List Ls} (h : LLQ w lo v lss) (ty : TypeId) {b : Nat} {u : Value} {os : Ls} (hK : Blk w b 37 #[u]) (hu : LQ w lo u os) (hk : lss.length ≤ 1000) (hlo : lo ≤ w.heap.size) :
    ∃ v' w', (Builtin.append_ #[50, 50] ty #[v, .slice (some ⟨b, 0, none⟩) 1 1]).run Tryz.prog w = .ok v' w' ∧ LLQ w' lo v' (lss ++ [os]) ∧ w.grownBy w' v.ownBlock ∧ (v'.ownBlock = v.ownBlock ∨ v'.ownBlock = some w.heap.size) := by
  obtain ⟨i, hi, hz, hsz, hby⟩ := info_parts infoLl
  obtain ⟨cs, h1, h2⟩ := h
  have hcl := h1.1
  have hc1 : ∀ x ∈ [u], x.oneCell' = true := fun x hx => by
    obtain ⟨A, c, rfl⟩ := hu.shape
    simp at hx; subst hx; rfl
  obtain ⟨v', w', hrun, hown, hg, hat⟩ := app_rd (P := Tryz.prog) (w := w) lo 50 ty 37 i (.slice none 0 0) 1 24 Tryz.underlying50 hi hz hsz hby rfl (by omega) v lss.length cs h1 _ 1 1 _ (Rd.one_ hK) hc1 (by simp only [maxLen]; omega) (by omega) hlo
  refine ⟨v', w', hrun, ⟨_, by rw [List.length_append, List.length_singleton]; exact hown, fun j ys hj => ?_⟩, hg, hat⟩
  by_cases e : j < lss.length
  · rw [List.getElem?_append_left e] at hj
    obtain ⟨x, e1, e2⟩ := h2 j ys hj
    exact ⟨x, by rw [List.getElem?_append_left (by omega)]; exact e1, e2.grown h1 hg (by decide) (by decide)⟩
  · have : j = lss.length := by have := (List.getElem?_eq_some_iff.1 hj).1; simp at this; omega
    subst this
    simp at hj; subst hj
    exact ⟨u, by rw [List.getElem?_append_right (by omega), show lss.length - cs.length = 0 by omega]; rfl, hu.grown h1 hg (by decide) (by decide)⟩
/-- n slices of lists at A. -/
def RLL (w : World) (A : Option Addr) (n : Nat) (lss : List Ls) : Prop :=
  lss.length = n ∧ (0 < n → ∃ b off, A = some ⟨b, off, none⟩ ∧ b < w.heap.size ∧ ∀ (k : Nat) (os : Ls), lss[k]? = some os → ∃ A' n' c', w.cell? ⟨b, off + k, none⟩ = some (.slice A' n' c') ∧ n' ≤ c' ∧ RL w A' n' os)
theorem RLL.below {w w' : World} {A : Option Addr} {n : Nat} {lss : List Ls} (h : RLL w A n lss) (hb : Below w.heap.size w w') : RLL w' A n lss :=
  ⟨h.1, fun hn => by
    obtain ⟨b, off, e, hlt, hc⟩ := h.2 hn
    exact ⟨b, off, e, Nat.lt_of_lt_of_le hlt hb.size, fun k os hk => by
      obtain ⟨A', n', c', h1, h2, h3⟩ := hc k os hk
      exact ⟨A', n', c', (hb.cell (p := ⟨b, off + k, none⟩) hlt).trans h1, h2, h3.below hb⟩⟩⟩
theorem RLL.at_ {w : World} {A : Option Addr} {n : Nat} {lss : List Ls} (h : RLL w A n lss) {k : Nat} (hk : k < n) :
    ∃ b off os A' n' c', A = some ⟨b, off, none⟩ ∧ b < w.heap.size ∧ lss[k]? = some os ∧ w.cell? ⟨b, off + k, none⟩ = some (.slice A' n' c') ∧ n' ≤ c' ∧ RL w A' n' os := by
  obtain ⟨b, off, e, hlt, hc⟩ := h.2 (by omega)
  have hl : k < lss.length := by have := h.1; omega
  obtain ⟨os, hg⟩ : ∃ q, lss[k]? = some q := ⟨lss[k], List.getElem?_eq_getElem hl⟩
  obtain ⟨A', n', c', h1, h2, h3⟩ := hc k os hg
  exact ⟨b, off, os, A', n', c', e, hlt, hg, h1, h2, h3⟩
theorem LLQ.rll {w : World} {lo c n : Nat} {A : Option Addr} {lss : List Ls} (h : LLQ w lo (.slice A n c) lss) : n = lss.length ∧ n ≤ c ∧ RLL w A n lss := by
  obtain ⟨cs, h1, h2⟩ := h
  rcases h1.2 with ⟨e, h0⟩ | ⟨g, cap, cur, e, hB, hg, hc, hcm, hs, ht⟩
  · injection e with e e2 e3
    subst e2; subst e3
    exact ⟨h0.symm, Nat.le_refl _, h0, fun h => absurd h (by omega)⟩
  · injection e with e e2 e3
    subst e; subst e2; subst e3
    refine ⟨rfl, hc, rfl, fun _ => ⟨g, 0, rfl, Blk.lt (t := 37) (cs := cur) hg, fun k os hk => ?_⟩⟩
    obtain ⟨u, hu, o⟩ := h2 k os hk
    have hk' := (List.getElem?_eq_some_iff.1 hk).1
    obtain ⟨A', c', rfl⟩ := o.shape
    obtain ⟨_, hn, hr⟩ := o.rl
    exact ⟨A', _, c', by rw [Nat.zero_add, World.ownsRow.cellAt h1 k (by omega)]; exact hu, hn, hr⟩
end Go.Proofs.YtcfkemchekmjbaaGreatDoor

namespace Go.Proofs.YtcfkemchekmjbaaGreatDoor
open Go.RowKit
abbrev prms (xs : List Int) : List (List Int) := permsF xs.length xs
def stepO (out : List Ls) (xs : List Int) : List Ls := out.flatMap fun b => (prms xs).map fun o => b ++ [o]
def outTo (ts : List Tx) : Nat → List Ls
  | 0 => [[]]
  | k + 1 => stepO (outTo ts k) (inst ts (k : Int))
def prodTo (ts : List Tx) : Nat → Nat
  | 0 => 1
  | k + 1 => prodTo ts k * facN (inst ts (k : Int)).length
def allV (ts : List Tx) : List Ls := if histB ts = true ∧ prodTo ts 3 ≤ 200 then outTo ts 3 else []
/-- In the middle of a step. -/
def stepU (out : List Ls) (xs : List Int) (k j : Nat) : List Ls := stepO (out.take k) xs ++ ((prms xs).take j).map fun o => out.getD k [] ++ [o]
theorem stepU_zero (out : List Ls) (xs : List Int) : stepU out xs 0 0 = [] := by simp [stepU, stepO]
theorem stepU_step {out : List Ls} {xs : List Int} {k j : Nat} {o : List Int} (h : (prms xs)[j]? = some o) : stepU out xs k (j + 1) = stepU out xs k j ++ [out.getD k [] ++ [o]] := by
  unfold stepU
  rw [List.take_add_one, h]
  simp
theorem stepU_next {out : List Ls} {xs : List Int} {k j : Nat} {b : Ls} (hk : out[k]? = some b) (hj : (prms xs).length ≤ j) : stepU out xs (k + 1) 0 = stepU out xs k j := by
  unfold stepU stepO
  rw [List.take_of_length_le hj, List.take_add_one, hk, List.flatMap_append]
  simp [List.getD_eq_getElem?_getD, hk]
theorem stepU_all {out : List Ls} {xs : List Int} {k : Nat} (h : out.length ≤ k) : stepU out xs k 0 = stepO out xs := by
  unfold stepU; rw [List.take_of_length_le h]; simp
theorem stepO_len (xs : List Int) : ∀ out : List Ls, (stepO out xs).length = out.length * (prms xs).length
  | [] => by simp [stepO]
  | b :: out => by
    have h := stepO_len xs out
    unfold stepO at *
    rw [List.flatMap_cons, List.length_append, h, List.length_map, List.length_cons, Nat.add_mul, Nat.one_mul, Nat.add_comm]
theorem facN_le {n : Nat} (h : n ≤ 6) : facN n ≤ 720 := by
  match n, h with
  | 0, _ => decide
  | 1, _ => decide
  | 2, _ => decide
  | 3, _ => decide
  | 4, _ => decide
  | 5, _ => decide
  | 6, _ => decide
theorem inst_le6 {ts : List Tx} (hh : histB ts = true) (key : Int) : (inst ts key).length ≤ 6 := Nat.le_trans (instTo_len ts key ts.length) (histB_parts hh).1
theorem prodTo_le {ts : List Tx} (k : Nat) : ∀ d, prodTo ts k ≤ prodTo ts (k + d)
  | 0 => Nat.le_refl _
  | d + 1 => Nat.le_trans (prodTo_le k d) (Nat.le_mul_of_pos_right _ (fac_pos _))
theorem prodTo_pw {ts : List Tx} (hh : histB ts = true) : ∀ k, prodTo ts k ≤ 720 ^ k
  | 0 => Nat.le_refl _
  | k + 1 => by rw [Nat.pow_succ]; exact Nat.mul_le_mul (prodTo_pw hh k) (facN_le (inst_le6 hh _))
theorem outTo_len {ts : List Tx} (hh : histB ts = true) : ∀ k, (outTo ts k).length ≤ prodTo ts k
  | 0 => Nat.le_refl _
  | k + 1 => by
    show (stepO _ _).length ≤ _
    rw [stepO_len]
    exact Nat.mul_le_mul (outTo_len hh k) (permsF_many _ _ (Nat.le_refl _) (inst_le6 hh _))
theorem stepU_len {out : List Ls} {xs : List Int} {k j : Nat} (hk : k < out.length) : (stepU out xs k j).length ≤ (stepO out xs).length := by
  unfold stepU
  rw [List.length_append, stepO_len, stepO_len, List.length_map]
  have h1 : ((prms xs).take j).length ≤ (prms xs).length := by rw [List.length_take]; exact Nat.min_le_right _ _
  have h2 : (out.take k).length = k := by rw [List.length_take]; omega
  rw [h2]
  have h3 : (k + 1) * (prms xs).length ≤ out.length * (prms xs).length := Nat.mul_le_mul_right _ (by omega)
  rw [Nat.add_mul, Nat.one_mul] at h3
  omega
theorem stepU_200 {ts : List Tx} (hh : histB ts = true) (hp : prodTo ts 3 ≤ 200) {q k j : Nat} (hq : q < 3) (hk : k < (outTo ts q).length) : (stepU (outTo ts q) (inst ts (q : Int)) k j).length ≤ 200 := by
  have h1 := stepU_len (xs := inst ts (q : Int)) (j := j) hk
  have h2 := outTo_len hh (q + 1)
  have h3 := prodTo_le (ts := ts) (q + 1) (2 - q)
  rw [show q + 1 + (2 - q) = 3 by omega] at h3
  have h4 : (stepO (outTo ts q) (inst ts (q : Int))).length ≤ prodTo ts (q + 1) := h2
  omega
theorem outTo_200 {ts : List Tx} (hh : histB ts = true) (hp : prodTo ts 3 ≤ 200) {q : Nat} (hq : q ≤ 3) : (outTo ts q).length ≤ 200 := by
  have h2 := outTo_len hh q
  have h3 := prodTo_le (ts := ts) q (3 - q)
  rw [show q + (3 - q) = 3 by omega] at h3
  omega
theorem prms_bd {ts : List Tx} (hh : histB ts = true) (key : Int) : (prms (inst ts key)).length ≤ 720 := Nat.le_trans (permsF_many _ _ (Nat.le_refl _) (inst_le6 hh key)) (facN_le (inst_le6 hh key))
theorem facN_succ (n : Nat) : facN (n + 1) = (n + 1) * facN n := rfl
/-- Something else of the same type grew. -/
theorem LLQ.grown {w w' : World} {lo : Nat} {v : Value} {lss : List Ls} {u : Value} {lo' n : Nat} {cs : List Value} (h : LLQ w lo v lss) (hu : w.ownsRow lo' 37 1 u n cs) (hg : w.grownBy w' u.ownBlock) (hne : v.ownBlock = none ∨ v.ownBlock ≠ u.ownBlock) : LLQ w' lo v lss := by
  obtain ⟨ds, a, b⟩ := h
  exact ⟨ds, a.kept hg hne, fun k xs hk => by obtain ⟨q, e, o⟩ := b k xs hk; exact ⟨q, e, o.grown hu hg (by decide) (by decide)⟩⟩
end Go.Proofs.YtcfkemchekmjbaaGreatDoor

namespace Go.Proofs.YtcfkemchekmjbaaGreatDoor
open Go.RowKit
theorem zeroCells_size (z : Array Value) (n : Nat) : (Builtin.zeroCells z n).size = n * z.size := by unfold Builtin.zeroCells; simp
theorem slice_zero (g n c : Nat) (hc : 0 < c) (w : World) : (Instr.slice 24 (.slice (some ⟨g, 0, none⟩) n c) none (some (.int .i64 0)) none).run Tryz.prog w = .ok (.slice (some ⟨g, 0, none⟩) 0 c) w := by
  obtain ⟨i, hi, hz, hsz, hb⟩ := info_parts intInfo
  have h0 : ¬ c = 0 := by omega
  simp [Instr.slice, Instr.sliceBounds, Instr.sliceBound, run_underlying Tryz.underlying24, sizeOf, typeInfo, hi, asIntOf, h0, addr_add]
set_option maxRecDepth 100000 in
set_option maxHeartbeats 1000000 in
theorem Grow_c {n : Nat} {w : World} (hn : n ≤ 1000) :
    Calls Tryz.prog 181 #[.slice none 0 0, .int .i64 (n : Int)] w (RetI w []) := by
  by_cases h0 : n = 0
  · subst h0
    go_enter Tryz.func181, Tryz.ntmps181
    go_wp2_with fail
    go_ret
    exact ⟨_, 0, rfl, OI.nil, Below.refl _ _⟩
  · obtain ⟨i, hi, hz, hsz, hby⟩ := info_parts intInfo
    have hn0 : 0 < n := by omega
    have hrun := fun (ty : TypeId) (w : World) => Lib.run_append_nil_zeros (P := Tryz.prog) w 24 3 ty 3 i (.int .i64 0) .i64 .i64 Tryz.underlying24 Tryz.underlying3 hi hz n hn0 (by omega) (by omega) (by rw [hby]; omega)
    have hge := grownCap_ge w n 0 3
    have hcm := grownCap_le_maxLen w n 0 3 (by simp only [maxLen]; omega)
    have hO : OI (w.drew.alloc (.cells (Builtin.zeroCells (Value.int .i64 0).cells n ++ Builtin.zeroCells (Value.int .i64 0).cells (grownCap w n 0 3 - n)) 3)) w.heap.size (.slice (some ⟨w.heap.size, 0, none⟩) 0 (grownCap w n 0 3)) 0 [] :=
      ⟨⟨rfl, .inr ⟨w.heap.size, _, _, rfl, Nat.le_refl _, Blk.new w.drew _ _, Nat.zero_le _, hcm, by rw [Array.size_append, zeroCells_size, zeroCells_size]; show n * 1 + (_ - n) * 1 = _ * 1; omega, rfl⟩⟩, by omega⟩
    have hB : Below w.heap.size w (w.drew.alloc (.cells (Builtin.zeroCells (Value.int .i64 0).cells n ++ Builtin.zeroCells (Value.int .i64 0).cells (grownCap w n 0 3 - n)) 3)) := (Below.refl _ _).drew.alloc (Nat.le_refl _) _
    have hsl := fun (w' : World) => slice_zero w.heap.size n (grownCap w n 0 3) (by omega) w'
    generalize hcap : grownCap w n 0 3 = cap at hrun hge hcm hO hB hsl
    have n0 : (0 : Int) < n := by omega
    have HO := hide hO; have HB := hide hB; have HR := hide hrun; have HCAP := hide hcap
    clear hO hB hrun hi hz hsz hby hcm hge hcap h0
    go_enter Tryz.func181, Tryz.ntmps181
    have hr1 := HR.out 24 w
    rw [HCAP.out] at hr1
    go_wp2_with (at_builtin; refine Lib.wpList_append_run _ rfl _ _ _ _ rfl _ _ rfl rfl _ _ hr1 ?_)
    go_ret
    exact ⟨_, 0, rfl, HO.out, HB.out⟩
theorem flat_take {ls : Ls} {k : Nat} {xs : List Int} (h : ls[k]? = some xs) : (ls.take (k + 1)).flatten = (ls.take k).flatten ++ xs := by
  rw [List.take_add_one, h]; simp
theorem flat_le {ls : Ls} (k : Nat) : (ls.take k).flatten.length ≤ ls.flatten.length := by
  have h : ls.flatten = (ls.take k).flatten ++ (ls.drop k).flatten := by rw [← List.flatten_append, List.take_append_drop]
  rw [h, List.length_append]; omega
def lenTo (ls : Ls) (k : Nat) : Nat := (ls.take k).flatten.length
theorem lenTo_succ {ls : Ls} {k : Nat} {xs : List Int} (h : ls[k]? = some xs) : lenTo ls (k + 1) = lenTo ls k + xs.length := by unfold lenTo; rw [flat_take h, List.length_append]
theorem lenTo_le (ls : Ls) (k : Nat) : lenTo ls k ≤ ls.flatten.length := flat_le k
set_option maxRecDepth 100000 in
set_option maxHeartbeats 2000000 in
theorem Concat_c {A : Option Addr} {n c : Nat} {ls : Ls} {w : World} (hr : RL w A n ls) (hn : n ≤ 1000) (hs : ls.flatten.length ≤ 1000) :
    Calls Tryz.prog 143 #[.slice A n c] w (RetI w ls.flatten) := by
  have hl := hide hr.1
  go_enter Tryz.func143, Tryz.ntmps143
  go_wp2_with fail
  go_loopw [3, 11] (fun q i W => ∃ k : Nat, i = .int .i64 k ∧ k ≤ n ∧ q = .int .i64 (lenTo ls k : Nat) ∧ W = w) (fun _ i _ => n - (intOf i).toNat)
  case atStart => exact ⟨0, rfl, Nat.zero_le _, rfl, rfl⟩
  case round =>
    obtain ⟨k, rfl, hk, rfl, rfl⟩ := hrel
    have hle := lenTo_le ls k
    by_cases hkn : k < n
    · obtain ⟨b, off, xs, B, kk, d, rfl, hbb, hx, hc, hkd, hkm, hri⟩ := hr.at_ hkn
      have hle2 := lenTo_le ls (k + 1)
      have hft := lenTo_succ hx
      rw [hri.len] at hft
      rw [hft] at hle2
      have HFT := hide hft
      have HS := hide hs
      generalize hq : ls.flatten.length = tot at hle hle2 hs
      generalize hq2 : lenTo ls k = q at hle hle2 HFT
      have k2 : (k : Int) < n := by omega
      have q0 : ¬ ((q : Int) + kk < 0) := by omega
      clear hx hri hft hq hq2
      go_wp2_with fail
      go_roundw
      case rel => exact ⟨k + 1, by go_num, by omega, by rw [HFT.out]; go_num, trivial⟩
      case measure => simp [intOf]; omega
    · obtain rfl : n = k := by omega
      have hle3 : lenTo ls n ≤ 1000 := by omega
      have HLE := hide hle3
      clear hle hle3
      go_wp2_with fail
      refine (Grow_c HLE.out).mono ?_
      rintro e w2 ⟨v2, k2, rfl, o2, b2⟩
      obtain rfl : k2 = 0 := by have := o2.len; simpa using this.symm
      have O2 := hide o2; have B2 := hide b2
      clear o2 b2
      go_wp2_with fail
      go_loopw [6, 27] (fun q i W => ∃ (k m : Nat), i = .int .i64 k ∧ k ≤ n ∧ OI W wr.heap.size q m (ls.take k).flatten ∧ Below wr.heap.size wr W) (fun _ i _ => n - (intOf i).toNat)
      case atStart => exact ⟨0, 0, rfl, Nat.zero_le _, O2.out, B2.out⟩
      case round =>
        clear O2 B2
        obtain ⟨k, m, rfl, hk, ho, bw⟩ := hrel
        rename World => w3
        have HO := hide ho; have BW := hide bw
        have hml := ho.len
        have hle := flat_le (ls := ls) k
        obtain ⟨Ao, co, rfl⟩ := ho.shape
        clear ho bw
        by_cases hkn : k < n
        · obtain ⟨b, off, xs, B, kk, d, rfl, hbb, hx, hc, hkd, hkm, hri⟩ := hr.at_ hkn
          have hle2 := flat_le (ls := ls) (k + 1)
          have hft := hide (flat_take hx)
          rw [hft.out, List.length_append, hri.len] at hle2
          have c1 := (BW.out.cell (p := ⟨b, off + k, none⟩) hbb).trans hc
          have s1 := (SI.of_args hkd hkm hri).below BW.out
          have k2 : (k : Int) < n := by omega
          have hz3 := BW.out.size
          clear hx hri hc
          go_wp2_with (at_builtin; refine wpList_appI rfl _ _ rfl rfl HO.out rfl s1 (by omega) hz3 ?_; intro v7 w7 o7 hg7 _)
          have B7 := below_app BW.out HO.out (Nat.le_refl _) hg7
          go_roundw
          case rel => exact ⟨k + 1, m + kk, by go_num, by omega, by rw [hft.out]; exact o7, B7⟩
          case measure => simp [intOf]; omega
        · obtain rfl : n = k := by omega
          have hfull := hide (show (ls.take n).flatten = ls.flatten by rw [List.take_of_length_le (by rw [hl.out]; exact Nat.le_refl _)])
          go_wp2_with fail
          go_ret
          exact ⟨_, m, rfl, by rw [← hfull.out]; exact HO.out, BW.out⟩
end Go.Proofs.YtcfkemchekmjbaaGreatDoor
