/- Slices of drafts: read; their size. -/
import Derived.Test.YtefopnkicllpeaaDoorDrf
namespace Go.Proofs.YtefopnkicllpeaaDoor
open Go.RowKit

abbrev Ds := List (Int × List T3)
/-- A draft at block b, offset off. -/
def ED (w : World) (b off : Nat) (m : Int × List T3) : Prop := ∃ (B : Option Addr) (k d : Nat), w.cell? ⟨b, off, none⟩ = some (.int .i64 m.1) ∧ w.cell? ⟨b, off + 1, none⟩ = some (.slice B k d) ∧ k ≤ d ∧ d ≤ maxLen ∧ R3 w B k m.2
theorem ED.below {w w' : World} {b off : Nat} {m : Int × List T3} (h : ED w b off m) (hb : Below w.heap.size w w') (hlt : b < w.heap.size) : ED w' b off m := by
  obtain ⟨B, k, d, h1, h2, h3, h4, h5⟩ := h
  exact ⟨B, k, d, (hb.cell (p := ⟨b, off, none⟩) hlt).trans h1, (hb.cell (p := ⟨b, off + 1, none⟩) hlt).trans h2, h3, h4, h5.below hb⟩
/-- n drafts at A. -/
def RDs (w : World) (A : Option Addr) (n : Nat) (ms : Ds) : Prop :=
  ms.length = n ∧ (0 < n → ∃ b off, A = some ⟨b, off, none⟩ ∧ b < w.heap.size ∧ ∀ (k : Nat) (m : Int × List T3), ms[k]? = some m → ED w b (off + k * 2) m)
theorem RDs.nil {w : World} {A : Option Addr} : RDs w A 0 [] := ⟨rfl, fun h => absurd h (by omega)⟩
theorem RDs.below {w w' : World} {A : Option Addr} {n : Nat} {ms : Ds} (h : RDs w A n ms) (hb : Below w.heap.size w w') : RDs w' A n ms :=
  ⟨h.1, fun hn => by
    obtain ⟨b, off, e, hlt, hc⟩ := h.2 hn
    exact ⟨b, off, e, Nat.lt_of_lt_of_le hlt hb.size, fun k m hm => (hc k m hm).below hb hlt⟩⟩
theorem RDs.at_ {w : World} {A : Option Addr} {n : Nat} {ms : Ds} (h : RDs w A n ms) {k : Nat} (hk : k < n) :
    ∃ b off f ys B kk d, A = some ⟨b, off, none⟩ ∧ b < w.heap.size ∧ ms[k]? = some (f, ys) ∧ w.cell? ⟨b, off + k * 2, none⟩ = some (.int .i64 f) ∧ w.cell? ⟨b, off + k * 2 + 1, none⟩ = some (.slice B kk d) ∧ kk ≤ d ∧ d ≤ maxLen ∧ R3 w B kk ys := by
  obtain ⟨b, off, e, hlt, hc⟩ := h.2 (by omega)
  have hl : k < ms.length := by have := h.1; omega
  obtain ⟨⟨f, ys⟩, hg⟩ : ∃ q, ms[k]? = some q := ⟨ms[k], List.getElem?_eq_getElem hl⟩
  obtain ⟨B, kk, d, h1, h2, h3, h4, h5⟩ := hc k _ hg
  exact ⟨b, off, f, ys, B, kk, d, e, hlt, hg, h1, h2, h3, h4, h5⟩

def szDL : Int → Ds → Int
  | l, [] => l
  | l, m :: ms => if szN l m.2.length < 0 then -1 else szDL (szN l m.2.length) ms
def szDS (left : Int) (ms : Ds) : Int := if left < ms.length then -1 else szDL (left - ms.length) ms
theorem szDL_cons (l : Int) (m : Int × List T3) (ms : Ds) : szDL l (m :: ms) = if szN l m.2.length < 0 then -1 else szDL (szN l m.2.length) ms := rfl
theorem szDL_ok : ∀ (ms : Ds) (l : Int), 0 ≤ l → 0 ≤ szDL l ms → (∀ m ∈ ms, (m.2.length : Int) ≤ l) ∧ szDL l ms ≤ l := by
  intro ms
  induction ms with
  | nil => intro l _ _; exact ⟨fun m h => absurd h (by simp), Int.le_refl _⟩
  | cons m ms ih =>
    intro l hl h
    rw [szDL_cons] at h ⊢
    by_cases hn : szN l m.2.length < 0
    · rw [if_pos hn] at h; omega
    · rw [if_neg hn] at h ⊢
      have e : szN l m.2.length = l - m.2.length ∧ (m.2.length : Int) ≤ l := by
        unfold szN at hn ⊢
        by_cases hh : (m.2.length : Int) ≤ l
        · rw [if_pos hh]; exact ⟨rfl, hh⟩
        · rw [if_neg hh] at hn; omega
      obtain ⟨h1, h2⟩ := ih _ (by omega) h
      refine ⟨fun x hx => ?_, by omega⟩
      rcases List.mem_cons.1 hx with rfl | hx
      · exact e.2
      · have := h1 x hx; omega


end Go.Proofs.YtefopnkicllpeaaDoor
