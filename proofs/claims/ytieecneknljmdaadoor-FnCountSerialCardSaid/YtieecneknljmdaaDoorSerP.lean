/- Serial orders (plain): all orders of a list, how many of them run, counted by a search. -/
import Derived.Test.YtieecneknljmdaaDoorHistP
namespace Go.Proofs.YtieecneknljmdaaDoor
open Go.RowKit

/-- A store behind operations; none, if a read is not right. -/
def followL (s : List Int) : List T3 → Option (List Int)
  | [] => some s
  | o :: os => if o.1 = 2 then followL (s.set o.2.1.toNat o.2.2) os else if s.getD o.2.1.toNat 0 = o.2.2 then followL s os else none
theorem followL_append (os ps : List T3) : ∀ s : List Int, followL s (os ++ ps) = (followL s os).bind fun s' => followL s' ps := by
  induction os with
  | nil => intro s; rfl
  | cons o os ih =>
    intro s
    simp only [List.cons_append, followL]
    split
    · exact ih _
    · split
      · exact ih _
      · rfl
theorem followL_len (os : List T3) : ∀ (s s' : List Int), followL s os = some s' → s'.length = s.length := by
  induction os with
  | nil => intro s s' h; simp only [followL, Option.some.injEq] at h; rw [h]
  | cons o os ih =>
    intro s s' h
    simp only [followL] at h
    split at h
    · have := ih _ _ h; simpa using this
    · split at h
      · exact ih _ _ h
      · cases h
/-- Does an order run, from a store on? -/
def runsF (ts : List Tx) : List Int → List Int → Bool
  | _, [] => true
  | s, n :: r => match followL s (opsOf ts n.toNat) with
    | none => false
    | some s' => runsF ts s' r
/-- All orders, those that begin with earlier ones first. -/
def permsF : Nat → List Int → List (List Int)
  | 0, _ => [[]]
  | f + 1, l => if l = [] then [[]] else (List.range l.length).flatMap fun k => (permsF f (l.eraseIdx k)).map (l.getD k 0 :: ·)
def permsL (l : List Int) : List (List Int) := permsF l.length l
/-- How many orders of the rest run, by a search. -/
def cntF (ts : List Tx) : Nat → List Int → List Int → Nat
  | 0, _, _ => 1
  | f + 1, s, l => if l = [] then 1 else ((List.range l.length).map fun k => (followL s (opsOf ts (l.getD k 0).toNat)).elim 0 fun s' => cntF ts f s' (l.eraseIdx k)).sum
theorem filter_flat {α β : Type} (p : β → Bool) (g : α → List β) : ∀ l : List α, ((l.flatMap g).filter p).length = (l.map fun a => ((g a).filter p).length).sum
  | [] => rfl
  | a :: l => by simp only [List.flatMap_cons, List.filter_append, List.length_append, List.map_cons, List.sum_cons, filter_flat p g l]
theorem perms_cnt (ts : List Tx) : ∀ (f : Nat) (s l : List Int), ((permsF f l).filter (runsF ts s)).length = cntF ts f s l
  | 0, s, l => rfl
  | f + 1, s, l => by
    by_cases h : l = []
    · subst h; rfl
    · simp only [permsF, cntF, if_neg h]
      rw [filter_flat]
      congr 1
      apply List.map_congr_left
      intro k _
      rw [List.filter_map, List.length_map]
      cases hf : followL s (opsOf ts (l.getD k 0).toNat) with
      | none =>
        have : (runsF ts s ∘ fun x => l.getD k 0 :: x) = fun _ => false := by funext x; simp only [Function.comp, runsF, hf]
        rw [this]; simp
      | some s' =>
        have : (runsF ts s ∘ fun x => l.getD k 0 :: x) = runsF ts s' := by funext x; simp only [Function.comp, runsF, hf]
        rw [this]
        exact perms_cnt ts f s' (l.eraseIdx k)
theorem permsL_cnt (ts : List Tx) (s l : List Int) : ((permsL l).filter (runsF ts s)).length = cntF ts l.length s l := perms_cnt ts l.length s l
theorem permsF_len : ∀ (f : Nat) (l : List Int), l.length ≤ f → ∀ x ∈ permsF f l, x.length = l.length
  | 0, l, h, x, hx => by
    have : l.length = 0 := by omega
    simp [permsF] at hx; subst hx; simp [this]
  | f + 1, l, h, x, hx => by
    by_cases h0 : l = []
    · simp [permsF, h0] at hx; subst hx; simp [h0]
    · simp only [permsF, if_neg h0, List.mem_flatMap, List.mem_range, List.mem_map] at hx
      obtain ⟨k, hk, y, hy, rfl⟩ := hx
      have h1 : (l.eraseIdx k).length = l.length - 1 := by rw [List.length_eraseIdx_of_lt hk]
      have := permsF_len f (l.eraseIdx k) (by omega) y hy
      simp only [List.length_cons]
      omega

end Go.Proofs.YtieecneknljmdaaDoor
