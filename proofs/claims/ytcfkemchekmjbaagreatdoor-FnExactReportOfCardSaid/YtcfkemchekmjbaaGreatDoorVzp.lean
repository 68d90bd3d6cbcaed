/- Merged (what the law reaches): OpenTx, TabN. -/
import Derived.Test.YtcfkemchekmjbaaGreatDoorVzo
import Derived.Test.YtcfkemchekmjbaaGreatDoorRows
import Derived.Lib.LaidTab
import Derived.LaidSub
import Derived.MakeChecks
import Derived.ProofKit
namespace Go.Proofs.YtcfkemchekmjbaaGreatDoor
open Go.ChangeShapes Go.WideShapes Go.ChangeAt Go.RowKit Go.Deep
section
variable {H : Type} {enc : TypeId × Value → H} {P : Program} {W : World} {base : Nat} {sp : Nat → Bool} {hd : Bool} {b0 : Nat}
/-- Three ints to an element; inside a greater datum. -/
theorem open_row3F {t e ti : TypeId} {f0 f1 f2 : Field} {fuel : Nat} {v : Value} {x0 : DataW H × List MemPlace} (ht : P.underlying t = some (.slice e)) (he : P.underlying e = some (.struct #[f0, f1, f2]))
    (hone : oneCellFields P #[f0, f1, f2] = true) (hC : P.cellsOf e = 3) (hi : P.underlying ti = some (.int .i64)) (e0 : f0.type = ti) (e1 : f1.type = ti) (e2 : f2.type = ti)
    (hf' : DataW.trod enc P W b0 sp hd fuel t [v] = some x0) :
    ∃ a n c ts, v = .slice a n c ∧ n ≤ c ∧ c ≤ maxLen ∧ R3 W a n ts := by
  rcases row_open ht he hone (by rw [hC]; rfl) hf' with h0 | ⟨a', n, c, h0, hl, hm, hat⟩
  · exact ⟨none, 0, 0, [], h0, Nat.le_refl _, Nat.zero_le _, R3.nil⟩
  have key : ∀ i, i < n → ∃ x y z : Int, W.cell? (a'.add (i * 3 + 0)) = some (.int .i64 x) ∧ W.cell? (a'.add (i * 3 + 1)) = some (.int .i64 y) ∧ W.cell? (a'.add (i * 3 + 2)) = some (.int .i64 z) := by
    intro i hin
    obtain ⟨q, hq⟩ := hat i hin
    obtain ⟨v0, y0, c0, t0⟩ := hq 0 f0 rfl
    obtain ⟨v1, y1, c1, t1⟩ := hq 1 f1 rfl
    obtain ⟨v2, y2, c2, t2⟩ := hq 2 f2 rfl
    rw [e0] at t0; rw [e1] at t1; rw [e2] at t2
    obtain ⟨x, ex, _, _⟩ := DataW.trod_int hi t0
    obtain ⟨y, ey, _, _⟩ := DataW.trod_int hi t1
    obtain ⟨z, ez, _, _⟩ := DataW.trod_int hi t2
    injection ex with ex; injection ey with ey; injection ez with ez
    subst ex; subst ey; subst ez
    exact ⟨x, y, z, c0, c1, c2⟩
  have build : ∀ k, k ≤ n → ∃ ts : List T3, ts.length = k ∧ ∀ i x y z, ts[i]? = some (x, y, z) → W.cell? (a'.add (i * 3 + 0)) = some (.int .i64 x) ∧ W.cell? (a'.add (i * 3 + 1)) = some (.int .i64 y) ∧ W.cell? (a'.add (i * 3 + 2)) = some (.int .i64 z) := by
    intro k
    induction k with
    | zero => intro _; exact ⟨[], rfl, fun i x y z h => by simp at h⟩
    | succ k ih =>
      intro hk
      obtain ⟨ts, hl, hts⟩ := ih (by omega)
      obtain ⟨x, y, z, h0, h1, h2⟩ := key k (by omega)
      refine ⟨ts ++ [(x, y, z)], by simp [hl], fun i x' y' z' hi => ?_⟩
      by_cases hik : i < k
      · rw [List.getElem?_append_left (by omega)] at hi
        exact hts i x' y' z' hi
      · have hi2 : i = k := by
          have := (List.getElem?_eq_some_iff.1 hi).1
          simp [hl] at this; omega
        subst hi2
        rw [List.getElem?_append_right (by omega), hl, Nat.sub_self] at hi
        simp only [List.getElem?_cons_zero, Option.some.injEq, Prod.mk.injEq] at hi
        obtain ⟨rfl, rfl, rfl⟩ := hi
        exact ⟨h0, h1, h2⟩
  obtain ⟨ts, hl3, hts⟩ := build n (Nat.le_refl _)
  refine ⟨_, n, c, ts, h0, hl, hm, hl3, fun hn => ?_⟩
  obtain ⟨x0, y0, z0, h9, _, _⟩ := key 0 hn
  rw [show 0 * 3 + 0 = 0 from rfl] at h9
  obtain ⟨b, off, rfl⟩ := plain_addr h9
  rw [add_plain] at h9
  refine ⟨b, off, rfl, World.block_lt_of_cell? W ⟨b, off + 0, none⟩ h9, fun k x hk => ?_⟩
  have hkl : k < n * 3 := by have := (List.getElem?_eq_some_iff.1 hk).1; rw [flat3_len, hl3] at this; exact this
  have hg : ts[k / 3]? = some (ts[k / 3]'(by omega)) := List.getElem?_eq_getElem (by omega)
  obtain ⟨g0, g1, g2⟩ := flat3_get ts (k / 3) _ _ _ hg
  obtain ⟨c0, c1, c2⟩ := hts (k / 3) _ _ _ hg
  rw [add_plain] at c0 c1 c2
  have hm3 : k = k / 3 * 3 + 0 ∨ k = k / 3 * 3 + 1 ∨ k = k / 3 * 3 + 2 := by omega
  rcases hm3 with e | e | e
  · rw [e] at hk ⊢
    rw [Nat.add_zero] at hk
    rw [g0] at hk; injection hk with hk; rw [← hk]; exact c0
  · rw [e] at hk ⊢
    rw [g1] at hk; injection hk with hk; rw [← hk]; exact c1
  · rw [e] at hk ⊢
    rw [g2] at hk; injection hk with hk; rw [← hk]; exact c2
end
theorem build_list {α : Type} {Q : Nat → α → Prop} (n : Nat) (key : ∀ i, i < n → ∃ m, Q i m) : ∃ ms : List α, ms.length = n ∧ ∀ i m, ms[i]? = some m → Q i m := by
  induction n with
  | zero => exact ⟨[], rfl, fun i m h => by simp at h⟩
  | succ k ih =>
    obtain ⟨ts, hl, hts⟩ := ih (fun i hi => key i (by omega))
    obtain ⟨m, hm⟩ := key k (by omega)
    refine ⟨ts ++ [m], by simp [hl], fun i m' hi => ?_⟩
    by_cases hik : i < k
    · rw [List.getElem?_append_left (by omega)] at hi; exact hts i m' hi
    · have hi2 : i = k := by
        have := (List.getElem?_eq_some_iff.1 hi).1
        simp [hl] at this; omega
      subst hi2
      rw [List.getElem?_append_right (by omega), hl, Nat.sub_self] at hi
      simp only [List.getElem?_cons_zero, Option.some.injEq] at hi
      exact hi ▸ hm
set_option maxRecDepth 100000 in
theorem open_TxnsA {H : Type} {enc : TypeId × Value → H} {W : World} {base : Nat} {sp : Nat → Bool} {hd : Bool} {b0 : Nat} {v : Value} {d : DataW H} {p : List MemPlace} (hv : Value.okWide Tryz.prog W .any base 40 v) (h : DataW.Trod enc Tryz.prog W b0 sp hd 40 v d p) :
    ∃ a n c ms, v = .slice a n c ∧ n ≤ c ∧ c ≤ maxLen ∧ RTs W a n ms := by
  obtain ⟨a, n, c, rfl⟩ := okWide_slice Tryz.underlying40 hv
  obtain ⟨fuel, hf⟩ := h
  have hf' : DataW.trod enc Tryz.prog W b0 sp hd fuel 40 [.slice a n c] = some (d, p) := by simpa [Value.cells] using hf
  rcases row_open Tryz.underlying40 Tryz.underlying104 (by kernel_rfl) (by kernel_rfl) hf' with h0 | ⟨a', n', c', h0, hl, hm, hat⟩
  · injection h0 with h1 h2 h3; subst h1; subst h2; subst h3
    exact ⟨none, 0, 0, [], rfl, Nat.le_refl _, Nat.zero_le _, RTs.nil⟩
  injection h0 with h1 h2 h3; subst h1; subst h2; subst h3
  have key : ∀ i, i < n → ∃ m : Tx, ∃ (B : Option Addr) (k d : Nat), W.cell? (a'.add (i * 3 + 0)) = some (.int .i64 m.1) ∧ W.cell? (a'.add (i * 3 + 1)) = some (.slice B k d) ∧ W.cell? (a'.add (i * 3 + 2)) = some (.bool m.2.2) ∧ k ≤ d ∧ d ≤ maxLen ∧ R3 W B k m.2.1 := by
    intro i hin
    obtain ⟨q, hq⟩ := hat i hin
    obtain ⟨v0, y0, c0, t0⟩ := hq 0 _ rfl
    obtain ⟨v1, y1, c1, t1⟩ := hq 1 _ rfl
    obtain ⟨v2, y2, c2, t2⟩ := hq 2 _ rfl
    obtain ⟨x, ex, _, _⟩ := DataW.trod_int Tryz.underlying3 t0
    obtain ⟨bb, eb, _⟩ := DataW.trod_bool Tryz.underlying4 t2
    injection eb with eb; subst eb
    injection ex with ex; subst ex
    obtain ⟨B, k, d, ys, rfl, h1, h2, h3⟩ := open_row3F Tryz.underlying102 Tryz.underlying193 (by kernel_rfl) (by kernel_rfl) Tryz.underlying3 rfl rfl rfl t1
    exact ⟨(x, ys, bb), B, k, d, c0, c1, c2, h1, h2, h3⟩
  obtain ⟨ms, hl3, hts⟩ := build_list n key
  refine ⟨_, n, c, ms, rfl, hl, hm, hl3, fun hn => ?_⟩
  obtain ⟨m0, B0, k0, d0, h0, _⟩ := key 0 hn
  rw [show 0 * 3 + 0 = 0 from rfl] at h0
  obtain ⟨b, off, rfl⟩ := plain_addr h0
  rw [add_plain] at h0
  refine ⟨b, off, rfl, World.block_lt_of_cell? W ⟨b, off + 0, none⟩ h0, fun k m hk => ?_⟩
  obtain ⟨B, kk, d, c0, c1, c2, h1, h2, h3⟩ := hts k m hk
  rw [add_plain] at c0 c1 c2
  exact ⟨B, kk, d, c0, c1, c2, h1, h2, h3⟩
end Go.Proofs.YtcfkemchekmjbaaGreatDoor

namespace Go.Proofs.YtcfkemchekmjbaaGreatDoor
open Go.RowKit
theorem tabGT : (Tryz.prog.globals[0]?).map (·.type) = some 241 := by kernel_rfl
theorem tabD : (Rows.laid_internal_strconv_uint64pow10 : DataW Unit) = Lib.tabData .u64 Lib.pow10Tab := by kernel_rfl
theorem tab_of_laidH {l : List (String × DataW Unit)} {W : World} (h : laidMetH Tryz.prog l W) (h1 : (l.all fun x => x.2.handleName?.isNone) = true)
    (h2 : l.filter (fun x => x.1 == "internal/strconv.uint64pow10") = [("internal/strconv.uint64pow10", Rows.laid_internal_strconv_uint64pow10)]) : Tab W := by
  rw [MakeChecks.laidMetH_plain _ _ _ h1] at h
  have h3 := laidMet.filter (fun x => x.1 == "internal/strconv.uint64pow10") h
  rw [h2, tabD] at h3
  exact Lib.tabIs_of_head (rest := []) tabG tabGT Tryz.underlying241 Tryz.underlying216 (by kernel_rfl) (by kernel_rfl) h3
end Go.Proofs.YtcfkemchekmjbaaGreatDoor
