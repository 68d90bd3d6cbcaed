/- Plain laws of stamped values: the later of two, the latest of many. -/
import Derived.Test.YtopjdidigfdhbaaDoorLast2
namespace Go.Proofs.YtopjdidigfdhbaaDoor
open Go.RowKit

/-- The first is later than the second. -/
def gt3 (b a : T3) : Prop := a.2.1 < b.2.1 ∨ b.2.1 = a.2.1 ∧ (a.2.2 < b.2.2 ∨ b.2.2 = a.2.2 ∧ a.1 < b.1)
theorem gt3_iff (a b : T3) : laterB a.1 a.2.1 a.2.2 b.1 b.2.1 b.2.2 = true ↔ gt3 b a := laterB_iff _ _ _ _ _ _
theorem gt3_not {a b m : T3} (h : ¬ gt3 a b) (h' : ¬ gt3 b m) : ¬ gt3 a m := by unfold gt3 at *; omega
theorem gt3_eq {a b : T3} (h : ¬ gt3 a b) (h' : ¬ gt3 b a) : a = b := by
  obtain ⟨x, y, z⟩ := a
  obtain ⟨x', y', z'⟩ := b
  unfold gt3 at *
  dsimp only at *
  have e1 : x = x' := by omega
  have e2 : y = y' := by omega
  have e3 : z = z' := by omega
  rw [e1, e2, e3]
theorem gt3_self (a : T3) : ¬ gt3 a a := by unfold gt3; omega
theorem later3_cases (a b : T3) : (later3 a b = a ∧ ¬ gt3 b a) ∨ (later3 a b = b ∧ gt3 b a) := by
  unfold later3
  split
  · rename_i h; exact .inr ⟨rfl, (gt3_iff a b).1 h⟩
  · rename_i h; exact .inl ⟨rfl, fun g => h ((gt3_iff a b).2 g)⟩
theorem later3_max (a b : T3) : ¬ gt3 a (later3 a b) ∧ ¬ gt3 b (later3 a b) := by
  rcases later3_cases a b with ⟨e, h⟩ | ⟨e, h⟩
  · rw [e]; exact ⟨gt3_self a, h⟩
  · rw [e]; exact ⟨by unfold gt3 at *; omega, gt3_self b⟩
theorem later3_keep {a b : T3} (h : ¬ gt3 b a) : later3 a b = a := by
  rcases later3_cases a b with ⟨e, _⟩ | ⟨_, g⟩
  · exact e
  · exact absurd g h
theorem later3_comm (a b : T3) : later3 b a = later3 a b := by
  have h := later3_max a b
  have h' := later3_max b a
  refine gt3_eq ?_ ?_
  · rcases later3_cases b a with ⟨e, _⟩ | ⟨e, _⟩
    · rw [e]; exact h.2
    · rw [e]; exact h.1
  · rcases later3_cases a b with ⟨e, _⟩ | ⟨e, _⟩
    · rw [e]; exact h'.2
    · rw [e]; exact h'.1
theorem fold_max : ∀ (ts : List T3) (a : T3), (ts.foldl later3 a = a ∨ ts.foldl later3 a ∈ ts) ∧ ¬ gt3 a (ts.foldl later3 a) ∧ ∀ x ∈ ts, ¬ gt3 x (ts.foldl later3 a) := by
  intro ts
  induction ts with
  | nil => intro a; exact ⟨.inl rfl, gt3_self a, fun x h => by cases h⟩
  | cons b ts ih =>
    intro a
    obtain ⟨h1, h2, h3⟩ := ih (later3 a b)
    have hm := later3_max a b
    rw [List.foldl_cons]
    refine ⟨?_, gt3_not hm.1 h2, fun x hx => ?_⟩
    · rcases h1 with h1 | h1
      · rcases later3_cases a b with ⟨e, _⟩ | ⟨e, _⟩
        · exact .inl (h1.trans e)
        · exact .inr (by rw [h1, e]; exact List.mem_cons_self)
      · exact .inr (List.mem_cons_of_mem _ h1)
    · rcases List.mem_cons.1 hx with rfl | hx
      · exact gt3_not hm.2 h2
      · exact h3 x hx
theorem lastT_max {ts : List T3} (h : ts ≠ []) : lastT ts ∈ ts ∧ ∀ x ∈ ts, ¬ gt3 x (lastT ts) := by
  cases ts with
  | nil => exact absurd rfl h
  | cons a ts =>
    have e : lastT (a :: ts) = (a :: ts).foldl later3 a := rfl
    obtain ⟨h1, _, h3⟩ := fold_max (a :: ts) a
    rw [e]
    refine ⟨?_, h3⟩
    rcases h1 with h1 | h1
    · rw [h1]; exact List.mem_cons_self
    · exact h1
theorem lastT_rev {ts : List T3} (h : ts ≠ []) : lastT ts.reverse = lastT ts := by
  have h' : ts.reverse ≠ [] := by simpa using h
  obtain ⟨m1, m2⟩ := lastT_max h
  obtain ⟨r1, r2⟩ := lastT_max h'
  exact gt3_eq (m2 _ (List.mem_reverse.1 r1)) (r2 _ (List.mem_reverse.2 m1))
theorem lastOk_rev (ts : List T3) : lastOk ts.reverse = lastOk ts := by unfold lastOk; rw [List.all_reverse, List.length_reverse]
theorem lastOk_ne {ts : List T3} (h : lastOk ts = true) : ts ≠ [] ∧ ts.length ≤ 20 ∧ ts.all st3 = true := by
  unfold lastOk at h
  rw [Bool.and_eq_true] at h
  have := (inB_iff _ _ _).1 h.2
  refine ⟨?_, by omega, h.1⟩
  rintro rfl
  simp at this
theorem lastR_rev (ts : List T3) : lastR ts.reverse = lastR ts := by
  unfold lastR
  rw [lastOk_rev]
  split
  · rename_i h; exact lastT_rev (lastOk_ne h).1
  · rfl
theorem last_law {ts : List T3} (h : lastOk ts = true) : st3 (lastR ts) = true ∧ ∀ x ∈ ts, st3 x = true ∧ later3 (lastR ts) x = lastR ts := by
  obtain ⟨h1, h2, h3⟩ := lastOk_ne h
  obtain ⟨m1, m2⟩ := lastT_max h1
  have e : lastR ts = lastT ts := by unfold lastR; rw [if_pos h]
  rw [e]
  exact ⟨List.all_eq_true.1 h3 _ m1, fun x hx => ⟨List.all_eq_true.1 h3 _ hx, later3_keep (m2 x hx)⟩⟩
theorem rev_step {ts : List T3} {k : Nat} {e : T3} (h : ts[k]? = some e) : (ts.drop k).reverse = (ts.drop (k + 1)).reverse ++ [e] := by
  have hk : k < ts.length := by
    rcases Nat.lt_or_ge k ts.length with h1 | h1
    · exact h1
    · rw [List.getElem?_eq_none h1] at h; cases h
  rw [List.drop_eq_getElem_cons hk, List.reverse_cons]
  rw [List.getElem?_eq_getElem hk] at h
  injection h with h
  rw [h]
/-- LaterStamped as triples. -/
def ls3 (a b : T3) : T3 := if st3 a && st3 b then later3 a b else (0, 0, 0)
theorem ls3_comm (a b : T3) : ls3 b a = ls3 a b := by unfold ls3; rw [Bool.and_comm, later3_comm]

end Go.Proofs.YtopjdidigfdhbaaDoor
