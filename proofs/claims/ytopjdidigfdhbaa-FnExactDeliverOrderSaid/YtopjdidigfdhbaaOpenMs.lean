/- The frame's words for a slice of messages. -/
import Derived.Test.YtopjdidigfdhbaaOpenR
import Derived.Test.YtopjdidigfdhbaaMsgs
namespace Go.Proofs.Ytopjdidigfdhbaa
open Go.ChangeShapes Go.WideShapes Go.ChangeAt Go.RowKit Go.Deep

theorem build_list {α : Type} {Q : Nat → α → Prop} (n : Nat) (key : ∀ i, i < n → ∃ m, Q i m) : ∃ ms : List α, ms.length = n ∧ ∀ i m, ms[i]? = some m → Q i m := by
  induction n with
  | zero => exact ⟨[], rfl, fun i m h => by simp at h⟩
  | succ k ih =>
    obtain ⟨ts, hl, hts⟩ := ih (fun i hi => key i (by omega))
    obtain ⟨m, hm⟩ := key k (by omega)
    refine ⟨ts ++ [m], by simp [hl], fun i m' hi => ?_⟩
    by_cases hik : i < k
    · rw [List.getElem?_append_left (by omega)] at hi; exact hts i m' hi
    · have hi2 : i = k := by
        have := (List.getElem?_eq_some_iff.1 hi).1
        simp [hl] at this; omega
      subst hi2
      rw [List.getElem?_append_right (by omega), hl, Nat.sub_self] at hi
      simp only [List.getElem?_cons_zero, Option.some.injEq] at hi
      exact hi ▸ hm

theorem open_MessagesA {H : Type} {enc : TypeId × Value → H} {W : World} {base : Nat} {sp : Nat → Bool} {hd : Bool} {b0 : Nat} {v : Value} {d : DataW H} {p : List MemPlace} (hv : Value.okWide Try.prog W .any base 32 v) (h : DataW.Trod enc Try.prog W b0 sp hd 32 v d p) :
    ∃ a n c ms, v = .slice a n c ∧ n ≤ c ∧ c ≤ maxLen ∧ RM W a n ms := by
  obtain ⟨a, n, c, rfl⟩ := okWide_slice Try.underlying32 hv
  obtain ⟨fuel, hf⟩ := h
  have hf' : DataW.trod enc Try.prog W b0 sp hd fuel 32 [.slice a n c] = some (d, p) := by simpa [Value.cells] using hf
  rcases row_open Try.underlying32 Try.underlying49 (by kernel_rfl) (by kernel_rfl) hf' with h0 | ⟨a', n', c', h0, hl, hm, hat⟩
  · injection h0 with h1 h2 h3; subst h1; subst h2; subst h3
    exact ⟨none, 0, 0, [], rfl, Nat.le_refl _, Nat.zero_le _, RM.nil⟩
  injection h0 with h1 h2 h3; subst h1; subst h2; subst h3
  have key : ∀ i, i < n → ∃ m : Int × List Int, ∃ (B : Option Addr) (k d : Nat), W.cell? (a'.add (i * 2 + 0)) = some (.int .i64 m.1) ∧ W.cell? (a'.add (i * 2 + 1)) = some (.slice B k d) ∧ k ≤ d ∧ d ≤ maxLen ∧ RI W B k m.2 := by
    intro i hin
    obtain ⟨q, hq⟩ := hat i hin
    obtain ⟨v0, y0, c0, t0⟩ := hq 0 _ rfl
    obtain ⟨v1, y1, c1, t1⟩ := hq 1 _ rfl
    obtain ⟨x, ex, _, _⟩ := DataW.trod_int Try.underlying3 t0
    injection ex with ex; subst ex
    obtain ⟨B, k, d, rfl⟩ := slice_shape t1
    obtain ⟨ys, h1, h2, h3⟩ := open_intsF t1
    exact ⟨(x, ys), B, k, d, c0, c1, h1, h2, h3⟩
  obtain ⟨ms, hl3, hts⟩ := build_list n key
  refine ⟨_, n, c, ms, rfl, hl, hm, hl3, fun hn => ?_⟩
  obtain ⟨m0, B0, k0, d0, h0, _⟩ := key 0 hn
  rw [show 0 * 2 + 0 = 0 from rfl] at h0
  obtain ⟨b, off, rfl⟩ := plain_addr h0
  rw [add_plain] at h0
  refine ⟨b, off, rfl, World.block_lt_of_cell? W ⟨b, off + 0, none⟩ h0, fun k m hk => ?_⟩
  obtain ⟨B, kk, d, c0, c1, h1, h2, h3⟩ := hts k m hk
  rw [add_plain] at c0 c1
  exact ⟨B, kk, d, c0, c1, h1, h2, h3⟩

end Go.Proofs.Ytopjdidigfdhbaa
