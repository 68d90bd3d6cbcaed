/- The frame's words for a slice of structs. -/
import Derived.Test.YtgjepagejongpaaDoorOpen
import Derived.Test.YtgjepagejongpaaDoorRow3
import Derived.Deep.Slices
import Derived.Deep.Fields
namespace Go.Proofs.YtgjepagejongpaaDoor
open Go.ChangeShapes Go.WideShapes Go.ChangeAt Go.RowKit Go.Deep

section
variable {H : Type} {enc : TypeId × Value → H} {P : Program} {W : World} {base : Nat} {sp : Nat → Bool} {hd : Bool} {b0 : Nat}
/-- A slice of structs of one-cell fields: nil, or every field of every element lies in its cell, and reads by itself. -/
theorem row_open {t e : TypeId} {fs : Array Field} {fuel : Nat} {u : Value} {x : DataW H × List MemPlace} (ht : P.underlying t = some (.slice e)) (he : P.underlying e = some (.struct fs))
    (hone : oneCellFields P fs = true) (hC : P.cellsOf e = fs.size) (h : DataW.trod enc P W b0 sp hd fuel t [u] = some x) :
    u = .slice none 0 0 ∨ ∃ (a : Addr) (n c : Nat), u = .slice (some a) n c ∧ n ≤ c ∧ c ≤ maxLen ∧ ∀ i, i < n → ∃ q : Nat, ∀ (j : Nat) (f : Field), fs[j]? = some f →
      ∃ (v : Value) (y : DataW H × List MemPlace), W.cell? (a.add (i * fs.size + j)) = some v ∧ DataW.trod enc P W b0 sp hd q f.type [v] = some y := by
  rcases Go.Deep.open_slice ht h with ⟨h0, _⟩ | ⟨a, n, c, m, q, D, Pl, hcs, _, hl, hm, hmm, _, hi⟩
  · left; injection h0
  right
  refine ⟨a, n, c, by injection hcs, hl, hm, fun i hin => ?_⟩
  have him : i < m := by rw [hmm]; split <;> omega
  obtain ⟨cs, hc, ht'⟩ := hi i him
  obtain ⟨ys, q', _, _, hlen, hyl, hf⟩ := DataW.trod_struct he ht'
  obtain ⟨_, hcl, hat⟩ := World.cells?_some hc
  rw [hC] at hat hcl
  refine ⟨q', fun j f hj => ?_⟩
  obtain ⟨ho, hk⟩ := Go.Deep.hone_of hone j f hj
  have hjl : j < fs.size := (Array.getElem?_eq_some_iff.1 hj).1
  have h1 := hf j f hj
  rw [ho, hk, List.drop_eq_getElem_cons (show j < cs.length by omega)] at h1
  have h2 := hat j hjl
  rw [Go.Deep.add_add, List.getElem?_eq_getElem (show j < cs.length by omega)] at h2
  exact ⟨cs[j]'(by omega), ys[j]'(by omega), h2, by rw [List.getElem?_eq_getElem (show j < ys.length by omega)] at h1; exact h1⟩
theorem plain_addr {a : Addr} {v : Value} (h : W.cell? (a.add 0) = some v) : ∃ b off, a = ⟨b, off, none⟩ := by
  obtain ⟨b, off, s⟩ := a
  cases s with
  | none => exact ⟨b, off, rfl⟩
  | some s =>
    exfalso
    simp only [Addr.add, World.cell?] at h
    split at h
    · simp at h
    · cases h
theorem add_plain (b off k : Nat) : (⟨b, off, none⟩ : Addr).add k = ⟨b, off + k, none⟩ := by unfold Addr.add; split <;> simp_all
/-- Three ints to an element. -/
theorem open_row3 {t e ti : TypeId} {f0 f1 f2 : Field} {v : Value} {d : DataW H} {p : List MemPlace} (ht : P.underlying t = some (.slice e)) (he : P.underlying e = some (.struct #[f0, f1, f2]))
    (hone : oneCellFields P #[f0, f1, f2] = true) (hC : P.cellsOf e = 3) (hi : P.underlying ti = some (.int .i64)) (e0 : f0.type = ti) (e1 : f1.type = ti) (e2 : f2.type = ti)
    (hv : Value.okWide P W .any base t v) (h : DataW.Trod enc P W b0 sp hd t v d p) :
    ∃ a n c ts, v = .slice a n c ∧ n ≤ c ∧ c ≤ maxLen ∧ R3 W a n ts := by
  obtain ⟨a, n, c, rfl⟩ := okWide_slice ht hv
  obtain ⟨fuel, hf⟩ := h
  have hf' : DataW.trod enc P W b0 sp hd fuel t [.slice a n c] = some (d, p) := by simpa [Value.cells] using hf
  rcases row_open ht he hone (by rw [hC]; rfl) hf' with h0 | ⟨a', n', c', h0, hl, hm, hat⟩
  · injection h0 with h1 h2 h3; subst h1; subst h2; subst h3
    exact ⟨none, 0, 0, [], rfl, Nat.le_refl _, Nat.zero_le _, R3.nil⟩
  injection h0 with h1 h2 h3; subst h1; subst h2; subst h3
  have key : ∀ i, i < n → ∃ x y z : Int, W.cell? (a'.add (i * 3 + 0)) = some (.int .i64 x) ∧ W.cell? (a'.add (i * 3 + 1)) = some (.int .i64 y) ∧ W.cell? (a'.add (i * 3 + 2)) = some (.int .i64 z) := by
    intro i hin
    obtain ⟨q, hq⟩ := hat i hin
    obtain ⟨v0, y0, c0, t0⟩ := hq 0 f0 rfl
    obtain ⟨v1, y1, c1, t1⟩ := hq 1 f1 rfl
    obtain ⟨v2, y2, c2, t2⟩ := hq 2 f2 rfl
    rw [e0] at t0; rw [e1] at t1; rw [e2] at t2
    obtain ⟨x, ex, _, _⟩ := DataW.trod_int hi t0
    obtain ⟨y, ey, _, _⟩ := DataW.trod_int hi t1
    obtain ⟨z, ez, _, _⟩ := DataW.trod_int hi t2
    injection ex with ex; injection ey with ey; injection ez with ez
    subst ex; subst ey; subst ez
    exact ⟨x, y, z, c0, c1, c2⟩
  have build : ∀ k, k ≤ n → ∃ ts : List T3, ts.length = k ∧ ∀ i x y z, ts[i]? = some (x, y, z) → W.cell? (a'.add (i * 3 + 0)) = some (.int .i64 x) ∧ W.cell? (a'.add (i * 3 + 1)) = some (.int .i64 y) ∧ W.cell? (a'.add (i * 3 + 2)) = some (.int .i64 z) := by
    intro k
    induction k with
    | zero => intro _; exact ⟨[], rfl, fun i x y z h => by simp at h⟩
    | succ k ih =>
      intro hk
      obtain ⟨ts, hl, hts⟩ := ih (by omega)
      obtain ⟨x, y, z, h0, h1, h2⟩ := key k (by omega)
      refine ⟨ts ++ [(x, y, z)], by simp [hl], fun i x' y' z' hi => ?_⟩
      by_cases hik : i < k
      · rw [List.getElem?_append_left (by omega)] at hi
        exact hts i x' y' z' hi
      · have hi2 : i = k := by
          have := (List.getElem?_eq_some_iff.1 hi).1
          simp [hl] at this; omega
        subst hi2
        rw [List.getElem?_append_right (by omega), hl, Nat.sub_self] at hi
        simp only [List.getElem?_cons_zero, Option.some.injEq, Prod.mk.injEq] at hi
        obtain ⟨rfl, rfl, rfl⟩ := hi
        exact ⟨h0, h1, h2⟩
  obtain ⟨ts, hl3, hts⟩ := build n (Nat.le_refl _)
  refine ⟨_, n, c, ts, rfl, hl, hm, hl3, fun hn => ?_⟩
  obtain ⟨x0, y0, z0, h0, _, _⟩ := key 0 hn
  rw [show 0 * 3 + 0 = 0 from rfl] at h0
  obtain ⟨b, off, rfl⟩ := plain_addr h0
  rw [add_plain] at h0
  refine ⟨b, off, rfl, World.block_lt_of_cell? W ⟨b, off + 0, none⟩ h0, fun k x hk => ?_⟩
  have hkl : k < n * 3 := by have := (List.getElem?_eq_some_iff.1 hk).1; rw [flat3_len, hl3] at this; exact this
  have hg : ts[k / 3]? = some (ts[k / 3]'(by omega)) := List.getElem?_eq_getElem (by omega)
  obtain ⟨g0, g1, g2⟩ := flat3_get ts (k / 3) _ _ _ hg
  obtain ⟨c0, c1, c2⟩ := hts (k / 3) _ _ _ hg
  rw [add_plain] at c0 c1 c2
  have hm3 : k = k / 3 * 3 + 0 ∨ k = k / 3 * 3 + 1 ∨ k = k / 3 * 3 + 2 := by omega
  rcases hm3 with e | e | e
  · rw [e] at hk ⊢
    rw [Nat.add_zero] at hk
    rw [g0] at hk; injection hk with hk; rw [← hk]; exact c0
  · rw [e] at hk ⊢
    rw [g1] at hk; injection hk with hk; rw [← hk]; exact c1
  · rw [e] at hk ⊢
    rw [g2] at hk; injection hk with hk; rw [← hk]; exact c2
end


end Go.Proofs.YtgjepagejongpaaDoor
