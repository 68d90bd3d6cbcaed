/- Lists of lists: valid, agreeing, the longest (plain); how they are read. -/
import Derived.Test.YtipmfpfmhgdgdaaDoorApp
import Derived.Test.YtipmfpfmhgdgdaaDoorSmall
namespace Go.Proofs.YtipmfpfmhgdgdaaDoor
open Go.RowKit

abbrev Ls := List (List Int)
def EL (w : World) (b off : Nat) (xs : List Int) : Prop := ∃ (B : Option Addr) (k d : Nat), w.cell? ⟨b, off, none⟩ = some (.slice B k d) ∧ k ≤ d ∧ k ≤ 1048576 ∧ RI w B k xs
theorem EL.below {w w' : World} {b off : Nat} {xs : List Int} (h : EL w b off xs) (hb : Below w.heap.size w w') (hlt : b < w.heap.size) : EL w' b off xs := by
  obtain ⟨B, k, d, h1, h2, h3, h4⟩ := h
  exact ⟨B, k, d, (hb.cell (p := ⟨b, off, none⟩) hlt).trans h1, h2, h3, h4.below hb⟩
/-- n lists at A. -/
def RL (w : World) (A : Option Addr) (n : Nat) (ls : Ls) : Prop :=
  ls.length = n ∧ (0 < n → ∃ b off, A = some ⟨b, off, none⟩ ∧ b < w.heap.size ∧ ∀ (k : Nat) (xs : List Int), ls[k]? = some xs → EL w b (off + k) xs)
theorem RL.below {w w' : World} {A : Option Addr} {n : Nat} {ls : Ls} (h : RL w A n ls) (hb : Below w.heap.size w w') : RL w' A n ls :=
  ⟨h.1, fun hn => by
    obtain ⟨b, off, e, hlt, hc⟩ := h.2 hn
    exact ⟨b, off, e, Nat.lt_of_lt_of_le hlt hb.size, fun k m hm => (hc k m hm).below hb hlt⟩⟩
theorem RL.at_ {w : World} {A : Option Addr} {n : Nat} {ls : Ls} (h : RL w A n ls) {k : Nat} (hk : k < n) :
    ∃ b off xs B kk d, A = some ⟨b, off, none⟩ ∧ b < w.heap.size ∧ ls[k]? = some xs ∧ w.cell? ⟨b, off + k, none⟩ = some (.slice B kk d) ∧ kk ≤ d ∧ kk ≤ 1048576 ∧ RI w B kk xs := by
  obtain ⟨b, off, e, hlt, hc⟩ := h.2 (by omega)
  have hl : k < ls.length := by have := h.1; omega
  obtain ⟨xs, hg⟩ : ∃ q, ls[k]? = some q := ⟨ls[k], List.getElem?_eq_getElem hl⟩
  obtain ⟨B, kk, d, h1, h2, h3, h4⟩ := hc k xs hg
  exact ⟨b, off, xs, B, kk, d, e, hlt, hg, h1, h2, h3, h4⟩

def listB (xs : List Int) : Bool := xs.all (fun x => inB x 1 99) && (decide xs.Nodup && decide (xs.length ≤ 8))
def listsB (ls : Ls) : Bool := ls.all listB && decide (ls.length ≤ 8)
def preB (a b : List Int) : Bool := decide (a.length ≤ b.length ∧ b.take a.length = a)
def begB (a b : List Int) : Bool := decide (a.take (min a.length b.length) = b.take (min a.length b.length))
theorem begB_pre (a b : List Int) : begB a b = (preB a b || preB b a) := by
  rw [Bool.eq_iff_iff, Bool.or_eq_true]
  unfold begB preB
  simp only [decide_eq_true_eq]
  rcases Nat.le_total a.length b.length with h | h
  · rw [Nat.min_eq_left h, List.take_length]
    constructor
    · intro e; exact .inl ⟨h, e.symm⟩
    · rintro (x | x)
      · exact x.2.symm
      · have hl : a.length = b.length := by omega
        have h2 := x.2
        rw [← hl, List.take_length] at h2
        rw [hl, List.take_length]; exact h2
  · rw [Nat.min_eq_right h, List.take_length]
    constructor
    · intro e; exact .inr ⟨h, e⟩
    · rintro (x | x)
      · have hl : a.length = b.length := by omega
        have h2 := x.2
        rw [hl, List.take_length] at h2
        rw [← hl, List.take_length]; exact h2.symm
      · exact x.2
/-- All pairs before (k, j) agree. -/
def AgreeTo (ls : Ls) (k j : Nat) : Prop := ∀ (p q : Nat) (a b : List Int), p < q → (p < k ∨ (p = k ∧ q < j)) → ls[p]? = some a → ls[q]? = some b → begB a b = true
theorem AgreeTo.zero (ls : Ls) (j : Nat) (hj : j ≤ 1) : AgreeTo ls 0 j := fun p q a b h1 h2 _ _ => by omega
theorem AgreeTo.step {ls : Ls} {k j : Nat} {a b : List Int} (h : AgreeTo ls k j) (ha : ls[k]? = some a) (hb : ls[j]? = some b) (hab : begB a b = true) : AgreeTo ls k (j + 1) := fun p q a' b' h1 h2 h3 h4 => by
  by_cases e : p = k ∧ q = j
  · obtain ⟨rfl, rfl⟩ := e
    rw [ha] at h3; rw [hb] at h4
    injection h3 with h3; injection h4 with h4; subst h3; subst h4; exact hab
  · exact h p q a' b' h1 (by omega) h3 h4
theorem AgreeTo.next {ls : Ls} {k j : Nat} (h : AgreeTo ls k j) (hj : ls.length ≤ j) : AgreeTo ls (k + 1) (k + 2) := fun p q a b h1 h2 h3 h4 => by
  have hq := (List.getElem?_eq_some_iff.1 h4).1
  exact h p q a b h1 (by omega) h3 h4
def okP (ls : Ls) : Prop := listsB ls = true ∧ AgreeTo ls ls.length 0
theorem okP_no {ls : Ls} {k j : Nat} {a b : List Int} (hkj : k < j) (ha : ls[k]? = some a) (hb : ls[j]? = some b) (hab : begB a b = false) : ¬ okP ls := fun h => by
  have := h.2 k j a b hkj (.inl (List.getElem?_eq_some_iff.1 ha).1) ha hb
  rw [hab] at this; cases this
theorem okP_yes {ls : Ls} {k j : Nat} (h1 : listsB ls = true) (h : AgreeTo ls k j) (hk : ls.length ≤ k) : okP ls := ⟨h1, fun p q a b h2 h3 h4 h5 => h p q a b h2 (by have := (List.getElem?_eq_some_iff.1 h4).1; omega) h4 h5⟩
/-- The longest of the first k. -/
def longTo (ls : Ls) : Nat → List Int
  | 0 => []
  | k + 1 => if (longTo ls k).length < (ls.getD k []).length then ls.getD k [] else longTo ls k
theorem longTo_yes {ls : Ls} {k : Nat} {xs : List Int} (h : ls[k]? = some xs) (hl : (longTo ls k).length < xs.length) : longTo ls (k + 1) = xs := by
  simp [longTo, List.getD, h, hl]
theorem longTo_no {ls : Ls} {k : Nat} {xs : List Int} (h : ls[k]? = some xs) (hl : ¬ (longTo ls k).length < xs.length) : longTo ls (k + 1) = longTo ls k := by
  simp [longTo, List.getD, h, hl]
def longL (ls : Ls) : List Int := longTo ls ls.length
theorem longTo_ge (ls : Ls) : ∀ (k i : Nat) (xs : List Int), i < k → ls[i]? = some xs → xs.length ≤ (longTo ls k).length
  | 0, i, xs, h, _ => absurd h (by omega)
  | k + 1, i, xs, h, hx => by
    by_cases e : i = k
    · subst e
      by_cases hl : (longTo ls i).length < xs.length
      · rw [longTo_yes hx hl]; omega
      · rw [longTo_no hx hl]; omega
    · have ih := longTo_ge ls k i xs (by omega) hx
      simp only [longTo]
      split <;> omega
theorem longTo_mem (ls : Ls) : ∀ k, k ≤ ls.length → longTo ls k = [] ∨ ∃ i, i < k ∧ ls[i]? = some (longTo ls k)
  | 0, _ => .inl rfl
  | k + 1, hk => by
    have hx : ls[k]? = some (ls[k]'(by omega)) := List.getElem?_eq_getElem _
    by_cases hl : (longTo ls k).length < (ls[k]'(by omega)).length
    · rw [longTo_yes hx hl]; exact .inr ⟨k, by omega, hx⟩
    · rw [longTo_no hx hl]
      rcases longTo_mem ls k (by omega) with h | ⟨i, h1, h2⟩
      · exact .inl h
      · exact .inr ⟨i, by omega, h2⟩
/-- The law: every list is the longest one's beginning. -/
theorem long_begin {ls : Ls} (h : okP ls) {k : Nat} {xs : List Int} (hx : ls[k]? = some xs) : xs.length ≤ (longL ls).length ∧ (longL ls).take xs.length = xs := by
  have hk := (List.getElem?_eq_some_iff.1 hx).1
  have hge := longTo_ge ls ls.length k xs hk hx
  refine ⟨hge, ?_⟩
  unfold longL
  rcases longTo_mem ls ls.length (Nat.le_refl _) with h0 | ⟨i, hi, hL⟩
  · rw [h0] at hge ⊢
    have : xs = [] := List.eq_nil_of_length_eq_zero (by simpa using hge)
    subst this; rfl
  · obtain ⟨L, hLe⟩ : ∃ L, longTo ls ls.length = L := ⟨_, rfl⟩
    rw [hLe] at hL hge ⊢
    by_cases e : i = k
    · subst e
      rw [hx] at hL; injection hL with hL; subst hL; exact List.take_length
    · rcases Nat.lt_or_gt_of_ne e with h1 | h1
      · have hb := h.2 i k L xs h1 (.inl hi) hL hx
        unfold begB at hb
        rw [decide_eq_true_eq, Nat.min_eq_right hge, List.take_length] at hb
        exact hb
      · have hb := h.2 k i xs L h1 (.inl hk) hx hL
        unfold begB at hb
        rw [decide_eq_true_eq, Nat.min_eq_left hge, List.take_length] at hb
        exact hb.symm
theorem listB_bad_in {xs : List Int} {k : Nat} {x : Int} (hx : xs[k]? = some x) (h : inB x 1 99 = false) : listB xs = false := by
  have : (xs.all fun x => inB x 1 99) = false := by rw [List.all_eq_false]; exact ⟨x, List.mem_of_getElem? hx, by simp [h]⟩
  simp [listB, this]
theorem listsB_bad {ls : Ls} {k : Nat} {xs : List Int} (hx : ls[k]? = some xs) (h : listB xs = false) : listsB ls = false := by
  have : ls.all listB = false := by rw [List.all_eq_false]; exact ⟨xs, List.mem_of_getElem? hx, by simp [h]⟩
  simp [listsB, this]

end Go.Proofs.YtipmfpfmhgdgdaaDoor
