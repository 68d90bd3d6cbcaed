/- The search with a call at each whole order (plain). -/
import Derived.Test.YtieecneknljmdaaDoorSerG
namespace Go.Proofs.YtieecneknljmdaaDoor
open Go.RowKit

section
variable {α : Type} (go : α → List Int → α × Bool) (ts : List Tx)
/-- One level of the search, over what is left of all. -/
def srchL (rec : Int → List Int → α → α × Bool) (used s : List Int) : List Int → α → α × Bool
  | [], a => (a, true)
  | n :: l, a => if used.contains n then srchL rec used s l a else match followL s (opsOf ts n.toNat) with
    | none => srchL rec used s l a
    | some s' => if (rec n s' a).2 then srchL rec used s l (rec n s' a).1 else ((rec n s' a).1, false)
def srch (all : List Int) : Nat → List Int → List Int → α → α × Bool
  | 0, _, used, a => go a used
  | f + 1, s, used, a => srchL ts (fun n s' a => srch all f s' (used ++ [n]) a) used s all a
theorem srchL_used {rec : Int → List Int → α → α × Bool} {used s : List Int} {n : Int} {l : List Int} {a : α} (h : used.contains n = true) : srchL ts rec used s (n :: l) a = srchL ts rec used s l a := by
  simp only [srchL]; rw [if_pos h]
theorem srchL_none {rec : Int → List Int → α → α × Bool} {used s : List Int} {n : Int} {l : List Int} {a : α} (h : used.contains n = false) (hf : followL s (opsOf ts n.toNat) = none) : srchL ts rec used s (n :: l) a = srchL ts rec used s l a := by
  simp only [srchL]; rw [if_neg (by rw [h]; decide), hf]
theorem srchL_on {rec : Int → List Int → α → α × Bool} {used s s' : List Int} {n : Int} {l : List Int} {a : α} (h : used.contains n = false) (hf : followL s (opsOf ts n.toNat) = some s') (hr : (rec n s' a).2 = true) : srchL ts rec used s (n :: l) a = srchL ts rec used s l (rec n s' a).1 := by
  simp only [srchL]; rw [if_neg (by rw [h]; decide), hf]; simp only; rw [if_pos hr]
theorem srchL_stop {rec : Int → List Int → α → α × Bool} {used s s' : List Int} {n : Int} {l : List Int} {a : α} (h : used.contains n = false) (hf : followL s (opsOf ts n.toNat) = some s') (hr : (rec n s' a).2 = false) : srchL ts rec used s (n :: l) a = ((rec n s' a).1, false) := by
  simp only [srchL]; rw [if_neg (by rw [h]; decide), hf]; simp only; rw [if_neg (by rw [hr]; decide)]
end
/-- Counting. -/
def goCnt (a : Nat) (_ : List Int) : Nat × Bool := (a + 1, true)
theorem srch_cnt (ts : List Tx) (all : List Int) : ∀ (f : Nat) (s used : List Int) (a : Nat), srch goCnt ts all f s used a = (a + cntG ts all f s used, true)
  | 0, s, used, a => rfl
  | f + 1, s, used, a => by
    have h : ∀ (l : List Int) (a : Nat), srchL ts (fun n s' a => srch goCnt ts all f s' (used ++ [n]) a) used s l a = (a + (l.map fun n => if used.contains n then 0 else (followL s (opsOf ts n.toNat)).elim 0 fun s' => cntG ts all f s' (used ++ [n])).sum, true) := by
      intro l
      induction l with
      | nil => intro a; rfl
      | cons n l ih =>
        intro a
        simp only [List.map_cons, List.sum_cons]
        cases hc : used.contains n
        · cases hf : followL s (opsOf ts n.toNat) with
          | none => rw [srchL_none ts hc hf, ih]; simp
          | some s' =>
            rw [srchL_on ts hc hf (by rw [srch_cnt ts all f s' (used ++ [n]) a]), ih, srch_cnt ts all f s' (used ++ [n]) a]
            simp [Nat.add_assoc]
        · rw [srchL_used ts hc, ih]; simp
    exact h all a
/-- The first one. -/
def goFst (_ : Option (List Int)) (u : List Int) : Option (List Int) × Bool := (some u, false)
theorem srch_fst (ts : List Tx) (all : List Int) : ∀ (f : Nat) (s used : List Int) (a : Option (List Int)), (cntG ts all f s used = 0 ∧ srch goFst ts all f s used a = (a, true)) ∨ (0 < cntG ts all f s used ∧ ∃ u, srch goFst ts all f s used a = (some u, false))
  | 0, s, used, a => .inr ⟨by simp [cntG], used, rfl⟩
  | f + 1, s, used, a => by
    have h : ∀ (l : List Int), ((l.map fun n => if used.contains n then 0 else (followL s (opsOf ts n.toNat)).elim 0 fun s' => cntG ts all f s' (used ++ [n])).sum = 0 ∧ srchL ts (fun n s' a => srch goFst ts all f s' (used ++ [n]) a) used s l a = (a, true)) ∨
        (0 < (l.map fun n => if used.contains n then 0 else (followL s (opsOf ts n.toNat)).elim 0 fun s' => cntG ts all f s' (used ++ [n])).sum ∧ ∃ u, srchL ts (fun n s' a => srch goFst ts all f s' (used ++ [n]) a) used s l a = (some u, false)) := by
      intro l
      induction l with
      | nil => exact .inl ⟨rfl, rfl⟩
      | cons n l ih =>
        simp only [List.map_cons, List.sum_cons]
        cases hc : used.contains n
        · cases hf : followL s (opsOf ts n.toNat) with
          | none =>
            rw [srchL_none ts hc hf]
            simpa using ih
          | some s' =>
            rcases srch_fst ts all f s' (used ++ [n]) a with ⟨h1, h2⟩ | ⟨h1, u, h2⟩
            · rw [srchL_on ts hc hf (by rw [h2]), h2]
              simpa [h1] using ih
            · refine .inr ⟨by simp; omega, u, ?_⟩
              rw [srchL_stop ts hc hf (by rw [h2]), h2]
        · rw [srchL_used ts hc]
          simpa using ih
    exact h all

end Go.Proofs.YtieecneknljmdaaDoor
