/- Plain laws of counted edges: together they are the edges. -/
import Derived.Test.YtopjdidigfdhbaaDoorCountE
namespace Go.Proofs.YtopjdidigfdhbaaDoor
open Go.RowKit

theorem sum_bump : ∀ (cs : List Int) (j : Nat), j < cs.length → (bump cs j).sum = cs.sum + 1 ∧ (bump cs j).length = cs.length := by
  intro cs
  induction cs with
  | nil => intro j h; simp at h
  | cons a cs ih =>
    intro j h
    cases j with
    | zero => unfold bump; simp; omega
    | succ j =>
      have := ih j (by simpa using h)
      unfold bump at this ⊢
      simp only [List.getElem?_cons_succ, List.set_cons_succ, List.sum_cons, List.length_cons]
      omega
theorem fold_sum : ∀ (ts : List T3) (cs : List Int), cs.length = 4 → (∀ e ∈ ts, 1 ≤ e.2.2 ∧ e.2.2 ≤ 4) → (ts.foldl (fun cs e => bump cs (e.2.2 - 1).toNat) cs).sum = cs.sum + ts.length ∧ (ts.foldl (fun cs e => bump cs (e.2.2 - 1).toNat) cs).length = 4 := by
  intro ts
  induction ts with
  | nil => intro cs h _; simp [h]
  | cons e ts ih =>
    intro cs h hk
    have h1 := hk e List.mem_cons_self
    obtain ⟨h2, h3⟩ := sum_bump cs (e.2.2 - 1).toNat (by omega)
    have := ih (bump cs (e.2.2 - 1).toNat) (by omega) (fun x hx => hk x (List.mem_cons_of_mem _ hx))
    rw [List.foldl_cons, List.length_cons]
    omega
theorem edges_kinds {many : Int} {ts : List T3} (h : edgesB many ts = true) : (∀ e ∈ ts, 1 ≤ e.2.2 ∧ e.2.2 ≤ 4) ∧ ts.length ≤ 144 := by
  unfold edgesB at h
  simp only [Bool.and_eq_true, decide_eq_true_eq, List.all_eq_true] at h
  refine ⟨fun e he => ?_, h.2.1⟩
  have := h.2.2 e he
  unfold edgeB at this
  simp only [Bool.and_eq_true] at this
  exact (inB_iff _ _ _).1 this.2.2.2
theorem count_law {many : Int} {ts : List T3} (h : edgesB many ts = true) : (ceL many ts).sum = ts.length ∧ (ceL many ts).length = 4 ∧ (∀ x ∈ ceL many ts, 0 ≤ x ∧ x ≤ 144) := by
  have e : ceL many ts = countE ts := by unfold ceL; rw [if_pos h]
  obtain ⟨h1, h2⟩ := edges_kinds h
  obtain ⟨s1, s2⟩ := fold_sum ts [0, 0, 0, 0] rfl h1
  rw [e]
  refine ⟨by unfold countE; simpa using s1, by unfold countE; exact s2, fun x hx => ?_⟩
  have := countE_bd ts x hx
  omega
theorem count_no {many : Int} {ts : List T3} (h : edgesB many ts = false) : ceL many ts = [] := by unfold ceL; rw [h]; rfl
theorem sum_snoc {xs : List Int} {k : Nat} {x : Int} (h : xs[k]? = some x) : (xs.take (k + 1)).sum = (xs.take k).sum + x := by
  rw [List.take_add_one, h, List.sum_append]; simp
theorem sum_bd : ∀ (xs : List Int) (k : Nat), (∀ x ∈ xs, 0 ≤ x ∧ x ≤ 144) → 0 ≤ (xs.take k).sum ∧ (xs.take k).sum ≤ 144 * xs.length := by
  intro xs
  induction xs with
  | nil => intro k _; simp
  | cons a xs ih =>
    intro k h
    have h1 := h a List.mem_cons_self
    cases k with
    | zero => simp; omega
    | succ k =>
      have := ih k (fun x hx => h x (List.mem_cons_of_mem _ hx))
      simp only [List.take_succ_cons, List.sum_cons, List.length_cons]
      omega

end Go.Proofs.YtopjdidigfdhbaaDoor
