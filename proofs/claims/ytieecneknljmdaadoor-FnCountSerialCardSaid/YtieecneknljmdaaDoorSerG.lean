/- The search with the list of those gone (plain): it counts what cntF counts. -/
import Derived.Test.YtieecneknljmdaaDoorSerP
namespace Go.Proofs.YtieecneknljmdaaDoor
open Go.RowKit

def restOf (all used : List Int) : List Int := all.filter fun n => !used.contains n
/-- The search: of all, those that are not gone, one after the other. -/
def cntG (ts : List Tx) (all : List Int) : Nat → List Int → List Int → Nat
  | 0, _, _ => 1
  | f + 1, s, used => (all.map fun n => if used.contains n then 0 else (followL s (opsOf ts n.toNat)).elim 0 fun s' => cntG ts all f s' (used ++ [n])).sum
theorem sum_filter {p : Int → Bool} {g : Int → Nat} : ∀ l : List Int, (l.map fun n => if p n then 0 else g n).sum = ((l.filter fun n => !p n).map g).sum
  | [] => rfl
  | a :: l => by
    simp only [List.map_cons, List.sum_cons, sum_filter l]
    cases h : p a
    · rw [List.filter_cons_of_pos (by simp [h])]; simp
    · rw [List.filter_cons_of_neg (by simp [h])]; simp
theorem erase_at : ∀ {l : List Int} (_ : l.Nodup) (k : Nat) (hk : k < l.length), l.eraseIdx k = l.erase l[k]
  | [], _, k, hk => by simp at hk
  | a :: l, h, 0, hk => by simp
  | a :: l, h, k + 1, hk => by
    have h2 := List.nodup_cons.1 h
    have hk' : k < l.length := by simpa using hk
    have hne : a ≠ l[k] := fun e => h2.1 (e ▸ List.getElem_mem hk')
    rw [List.eraseIdx_cons_succ, List.getElem_cons_succ, List.erase_cons_tail (by simpa using hne), erase_at h2.2 k hk']
theorem sum_index {F : Int → List Int → Nat} {l : List Int} (hl : l.Nodup) : ((List.range l.length).map fun k => F (l.getD k 0) (l.eraseIdx k)) = l.map fun n => F n (l.erase n) := by
  apply List.ext_getElem
  · simp
  · intro k h1 h2
    have hk : k < l.length := by simpa using h1
    simp only [List.getElem_map, List.getElem_range]
    rw [List.getD_eq_getElem?_getD, List.getElem?_eq_getElem hk, Option.getD_some, erase_at hl k hk]
theorem restOf_snoc {all : List Int} (h : all.Nodup) (used : List Int) (n : Int) : restOf all (used ++ [n]) = (restOf all used).erase n := by
  have hn : (restOf all used).Nodup := List.Nodup.sublist List.filter_sublist h
  rw [List.Nodup.erase_eq_filter hn]
  unfold restOf
  rw [List.filter_filter]
  apply List.filter_congr
  intro x _
  by_cases h1 : x ∈ used <;> by_cases h2 : x = n <;> simp [h1, h2]
theorem cntG_eq (ts : List Tx) {all : List Int} (h : all.Nodup) : ∀ (f : Nat) (s used : List Int), (restOf all used).length = f → cntG ts all f s used = cntF ts f s (restOf all used)
  | 0, s, used, hf => rfl
  | f + 1, s, used, hf => by
    have hn : (restOf all used).Nodup := List.Nodup.sublist List.filter_sublist h
    have h0 : restOf all used ≠ [] := fun e => by rw [e] at hf; cases hf
    simp only [cntG, cntF, if_neg h0]
    rw [sum_filter]
    rw [sum_index (F := fun n r => (followL s (opsOf ts n.toNat)).elim 0 fun s' => cntF ts f s' r) hn]
    congr 1
    show (restOf all used).map _ = _
    apply List.map_congr_left
    intro n hm
    cases followL s (opsOf ts n.toNat) with
    | none => rfl
    | some s' =>
      simp only [Option.elim]
      rw [cntG_eq ts h f s' (used ++ [n]) (by rw [restOf_snoc h, List.length_erase_of_mem hm]; omega), restOf_snoc h]
theorem cntG_all (ts : List Tx) {all : List Int} (h : all.Nodup) (s : List Int) : cntG ts all all.length s [] = ((permsL all).filter (runsF ts s)).length := by
  have h1 : restOf all [] = all := by unfold restOf; simp
  rw [permsL_cnt, cntG_eq ts h all.length s [] (by rw [h1]), h1]

end Go.Proofs.YtieecneknljmdaaDoor
