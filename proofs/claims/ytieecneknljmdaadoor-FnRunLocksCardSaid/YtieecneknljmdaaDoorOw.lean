/- A slice of the call's own whose block may be larger than its capacity (slices.Clip): OW; marks on it. -/
import Derived.Test.YtieecneknljmdaaDoorTx2
namespace Go.Proofs.YtieecneknljmdaaDoor
open Go.RowKit

def OW (t : TypeId) (s : Nat) (w : World) (B : Nat) (v : Value) (n : Nat) (xs : List Int) : Prop :=
  n ≤ 1048576 ∧ xs.length = n * s ∧ ((v = .slice none 0 0 ∧ n = 0) ∨ ∃ (g c : Nat) (cur : Array Value), v = .slice (some ⟨g, 0, none⟩) n c ∧ B ≤ g ∧ Blk w g t cur ∧ n ≤ c ∧ c ≤ maxLen ∧ n * s ≤ cur.size ∧ cur.toList.take (n * s) = xs.map (Value.int .i64))
section
variable {t : TypeId} {s : Nat} {w w' : World} {B B' n : Nat} {v : Value} {xs : List Int}
theorem OF.ow (h : OF t s w B v n xs) : OW t s w B v n xs := by
  refine ⟨h.2, h.len, ?_⟩
  rcases h.1.2 with h1 | ⟨g, cap, cur, rfl, hB, hg, hc, hm, hs, ht⟩
  · exact .inl h1
  · have h5 : n * s ≤ cap * s := Nat.mul_le_mul_right s hc
    exact .inr ⟨g, cap, cur, rfl, hB, hg, hc, hm, by omega, ht⟩
theorem OW.len (h : OW t s w B v n xs) : xs.length = n * s := h.2.1
theorem OW.small (h : OW t s w B v n xs) : n ≤ 1048576 := h.1
theorem OW.ne_blk {g : Nat} {t' : TypeId} {cs : Array Value} (h : OW t s w B v n xs) (hb : Blk w g t' cs) (ht : t' ≠ t) : v.ownBlock ≠ some g := by
  rcases h.2.2 with ⟨rfl, _⟩ | ⟨g', cap, cur, rfl, _, hh, _⟩
  · simp [Value.ownBlock]
  · intro he
    have e : g' = g := by have h : some g' = some g := he; injection h
    subst e
    unfold Blk at hb hh; rw [hh] at hb; injection hb with hb; injection hb with _ h2; exact ht h2.symm
theorem OW.chg {S : Nat → Prop} (h : OW t s w B v n xs) (hc : Chg S w w') (hS : ∀ k, v.ownBlock = some k → ¬ S k) : OW t s w' B v n xs := by
  refine ⟨h.1, h.2.1, ?_⟩
  rcases h.2.2 with h1 | ⟨g, c, cur, rfl, hb, hgg, rest⟩
  · exact .inl h1
  · exact .inr ⟨g, c, cur, rfl, hb, hgg.chg hc (hS g rfl), rest⟩
theorem OW.below (h : OW t s w B v n xs) (hb : Below w.heap.size w w') : OW t s w' B v n xs := h.chg (S := fun _ => False) (Chg.of_below hb) (fun _ _ => id)
theorem OW.lt (h : OW t s w B v n xs) : ∀ k, v.ownBlock = some k → B ≤ k ∧ k < w.heap.size := fun k hk => by
  rcases h.2.2 with ⟨rfl, _⟩ | ⟨g, c, cur, rfl, hb, hgg, _⟩
  · simp [Value.ownBlock] at hk
  · have e1 : g = k := by have h : some g = some k := hk; injection h
    subst e1; exact ⟨hb, hgg.lt⟩
theorem OW.mono (h : OW t s w B v n xs) (hB : B' ≤ B) : OW t s w B' v n xs := by
  refine ⟨h.1, h.2.1, ?_⟩
  rcases h.2.2 with h1 | ⟨g, c, cur, hv, hb, r⟩
  · exact .inl h1
  · exact .inr ⟨g, c, cur, hv, by omega, r⟩
theorem OW.grown {row : Option Nat} (h : OW t s w B v n xs) (hg : w.grownBy w' row) (hne : v.ownBlock = none ∨ v.ownBlock ≠ row) : OW t s w' B v n xs :=
  h.chg (S := fun k => row = some k) (Chg.of_grown hg (fun _ e => e)) (fun k hk hr => by
    rcases hne with h1 | h1
    · rw [h1] at hk; cases hk
    · exact h1 (by rw [hk, hr]))
theorem OW.form (h : OW t s w B v n xs) :
    ∃ A c, v = .slice A n c ∧ n ≤ c ∧ c ≤ maxLen ∧ (A = none → n = 0 ∧ c = 0) ∧ (∀ a, A = some a → ∃ g, a = ⟨g, 0, none⟩ ∧ B ≤ g ∧ g < w.heap.size) := by
  rcases h.2.2 with ⟨rfl, hn⟩ | ⟨g, c, cur, rfl, hB, hg, hc, hm, _⟩
  · subst hn
    exact ⟨none, 0, rfl, by simp, by simp [maxLen], fun _ => ⟨rfl, rfl⟩, fun a ha => by cases ha⟩
  · refine ⟨some ⟨g, 0, none⟩, c, rfl, hc, hm, (fun h => by cases h), fun a ha => ?_⟩
    injection ha with ha
    exact ⟨g, ha.symm, hB, hg.lt⟩
theorem OW.blk {g c : Nat} (h : OW t s w B (.slice (some ⟨g, 0, none⟩) n c) n xs) : ∃ cur : Array Value, B ≤ g ∧ Blk w g t cur ∧ n ≤ c ∧ c ≤ maxLen ∧ n * s ≤ cur.size ∧ cur.toList.take (n * s) = xs.map (Value.int .i64) := by
  rcases h.2.2 with ⟨h1, _⟩ | ⟨g', c', cur, h1, r⟩
  · cases h1
  · injection h1 with h1 _ h3; injection h1 with h1; injection h1 with h1; subst h1; subst h3; exact ⟨cur, r⟩
theorem OW.store {g c : Nat} (h : OW t s w B (.slice (some ⟨g, 0, none⟩) n c) n xs) (j : Nat) (x : Int) :
    OW t s (w.setCell ⟨g, j, none⟩ (.int .i64 x)) B (.slice (some ⟨g, 0, none⟩) n c) n (xs.set j x) := by
  obtain ⟨cur, h1, h2, h3, h4, h5, h6⟩ := h.blk
  refine ⟨h.1, by simp [h.2.1], .inr ⟨g, c, _, rfl, h1, h2.set_ j (.int .i64 x), h3, h4, by simpa using h5, ?_⟩⟩
  rw [Array.toList_setIfInBounds, List.map_set, ← h6, List.take_set]
theorem OW.cell {g c : Nat} (h : OW t s w B (.slice (some ⟨g, 0, none⟩) n c) n xs) (j : Nat) (hj : j < n * s) : ∃ x, xs[j]? = some x ∧ w.cell? ⟨g, j, none⟩ = some (.int .i64 x) := by
  obtain ⟨cur, h1, h2, h3, h4, h5, h6⟩ := h.blk
  have hl : j < xs.length := by rw [h.2.1]; exact hj
  refine ⟨xs[j], List.getElem?_eq_getElem hl, ?_⟩
  rw [h2.cell]
  have h7 := congrArg (fun l => l[j]?) h6
  simp only [List.getElem?_take, hj, if_true, List.getElem?_map, List.getElem?_eq_getElem hl, Option.map_some] at h7
  simpa using h7
theorem OW.free {g c : Nat} (h : OW t s w B (.slice (some ⟨g, 0, none⟩) n c) n xs) (j : Nat) : w.frozen? ⟨g, j, none⟩ = false := by
  obtain ⟨cur, h1, h2, _⟩ := h.blk; exact h2.frozen j
end
theorem OW.s3 {t : TypeId} {w : World} {B n : Nat} {v : Value} {ts : List T3} (h : OW t 3 w B v n (flat3 ts)) : S3 w v n ts := by
  have hl := h.len
  rw [flat3_len] at hl
  rcases h.2.2 with ⟨rfl, hn⟩ | ⟨g, c, cur, rfl, hB, hg, hc, hm, hs, ht⟩
  · subst hn
    have hx : ts = [] := List.eq_nil_of_length_eq_zero (by omega)
    subst hx
    exact ⟨none, 0, rfl, by simp, by simp, R3.nil⟩
  · refine ⟨some ⟨g, 0, none⟩, c, rfl, hc, h.1, by omega, fun _ => ⟨g, 0, rfl, hg.lt, fun k x hx => ?_⟩⟩
    have hk : k < n * 3 := by rw [← h.len]; exact (List.getElem?_eq_some_iff.1 hx).1
    obtain ⟨x', h1, h2⟩ := h.cell k hk
    rw [Nat.zero_add]
    rw [hx] at h1; injection h1 with h1; subst h1; exact h2

end Go.Proofs.YtieecneknljmdaaDoor
