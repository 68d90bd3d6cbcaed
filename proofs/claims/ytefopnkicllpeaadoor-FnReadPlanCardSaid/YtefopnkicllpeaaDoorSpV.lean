/- What the reference's ReadPlan reads, word by word (plain). -/
import Derived.Test.YtefopnkicllpeaaDoorSpW
namespace Go.Proofs.YtefopnkicllpeaaDoor
open Go.RowKit

def endsS (w : List UInt8) : Bool := w.getLast? == some 59
def cutE (w : List UInt8) : List UInt8 := if endsS w then w.dropLast else w
def addStep (ds : Ds) (o : T3) : Ds := match ds.getLast? with
  | some d => ds.dropLast ++ [(d.1, d.2 ++ [o])]
  | none => ds
def rdStep (st : Ds × Bool) (w : List UInt8) : Option (Ds × Bool) := match cutE w with
  | [a, b] =>
    if b.toNat < 48 ∨ 57 < b.toNat ∨ 4 < st.1.length then none
    else if st.2 && a == 115 then some (st.1 ++ [((b.toNat : Int) - 48, [])], endsS w)
    else if !st.2 && (a == 114 || a == 119) then some (addStep st.1 (if a = 119 then 2 else 1, (b.toNat : Int) - 48, 0), endsS w)
    else none
  | _ => none
def rdTo (ws : List (List UInt8)) (k : Nat) : Option (Ds × Bool) := (ws.take k).foldlM rdStep ([], true)
theorem rdTo_succ {ws : List (List UInt8)} {k : Nat} {w : List UInt8} (h : ws[k]? = some w) : rdTo ws (k + 1) = (rdTo ws k).bind fun st => rdStep st w := by
  unfold rdTo
  rw [List.take_add_one, h, List.foldlM_append]
  simp
theorem rdTo_none {ws : List (List UInt8)} : ∀ (j k : Nat), rdTo ws k = none → rdTo ws (k + j) = none
  | 0, k, h => h
  | j + 1, k, h => by
    have ih := rdTo_none j k h
    cases hw : ws[k + j]? with
    | none =>
      have : ws.take (k + (j + 1)) = ws.take (k + j) := by rw [List.take_of_length_le (by have := List.getElem?_eq_none_iff.1 hw; omega), List.take_of_length_le (by have := List.getElem?_eq_none_iff.1 hw; omega)]
      unfold rdTo at ih ⊢
      rw [this]; exact ih
    | some w => rw [← Nat.add_assoc, rdTo_succ hw, ih]; rfl
/-- Words of a plan's text. -/
theorem w_word : ∀ (x : List UInt8) (A : List (List UInt8)) (l : List UInt8), (32 : UInt8) ∉ x → x.foldl wstep (A ++ [l]) = A ++ [l ++ x]
  | [], A, l, _ => by simp
  | c :: x, A, l, h => by
    simp only [List.mem_cons, not_or] at h
    have h1 : wstep (A ++ [l]) c = A ++ [l ++ [c]] := by unfold wstep; rw [if_neg (fun e => h.1 e.symm)]; simp
    rw [List.foldl_cons, h1, w_word x A _ h.2]
    simp
theorem w_blank (A : List (List UInt8)) : wstep A 32 = A ++ [[]] := by unfold wstep; rw [if_pos rfl]
theorem word_no32 {o : T3} (h : stepB o = true) : (32 : UInt8) ∉ wordT o := by
  obtain ⟨c, h1, h2, h3, _⟩ := step_form h
  rw [h1]
  simp only [List.mem_cons, List.not_mem_nil, or_false, not_or]
  refine ⟨?_, ?_⟩
  · split <;> decide
  · apply byte_ne; show 32 ≠ _; omega
theorem w_steps : ∀ (os : List T3) (A : List (List UInt8)), (∀ o ∈ os, stepB o = true) → (os.flatMap stepT).foldl wstep A = A ++ os.map wordT
  | [], A, _ => by simp
  | o :: os, A, h => by
    have e : (o :: os).flatMap stepT = 32 :: (wordT o ++ os.flatMap stepT) := by rw [List.flatMap_cons]; rfl
    rw [e, List.foldl_cons, w_blank, List.foldl_append, w_word _ _ _ (word_no32 (h o (by simp))), w_steps os _ (fun q hq => h q (by simp [hq]))]
    simp
def dwords (d : Int × List T3) : List (List UInt8) := (115 :: digs d.1.toNat) :: d.2.map wordT
theorem w_draft {d : Int × List T3} (h : draftB d = true) (A : List (List UInt8)) : (draftT d).foldl wstep (A ++ [[]]) = A ++ dwords d := by
  obtain ⟨c, e1, e2, e3, e4, _⟩ := draft_form h
  have : draftT d = [115, c] ++ d.2.flatMap stepT := by unfold draftT; rw [e1]; rfl
  rw [this, List.foldl_append, w_word _ _ _ (by
    simp only [List.mem_cons, List.not_mem_nil, or_false, not_or]
    exact ⟨by decide, by apply byte_ne; show 32 ≠ _; omega⟩), w_steps _ _ (fun o ho => ((draftB_partsT h).2.2 o ho).2.2)]
  unfold dwords
  rw [e1]; simp
/-- The last word with ';' behind it. -/
def mark (ls : List (List UInt8)) : List (List UInt8) := ls.dropLast ++ [(ls.getLast?.getD []) ++ [59]]
def pwords : Int × List T3 → Ds → List (List UInt8)
  | d, [] => dwords d
  | d, e :: ds => mark (dwords d) ++ pwords e ds
theorem dwords_ne (d : Int × List T3) : dwords d ≠ [] := by simp [dwords]
theorem w_sep {ls : List (List UInt8)} (hn : ls ≠ []) (A : List (List UInt8)) : ([59, 32] : List UInt8).foldl wstep (A ++ ls) = A ++ mark ls ++ [[]] := by
  obtain ⟨B, l, rfl⟩ : ∃ B l, ls = B ++ [l] := ⟨ls.dropLast, ls.getLast hn, (List.dropLast_concat_getLast hn).symm⟩
  rw [← List.append_assoc, show ([59, 32] : List UInt8) = [59] ++ [32] from rfl, List.foldl_append, w_word [59] (A ++ B) l (by decide)]
  simp [w_blank, mark]
theorem w_plan : ∀ (d : Int × List T3) (ds : Ds) (A : List (List UInt8)), (∀ q ∈ d :: ds, draftB q = true) → (draftT d ++ ds.flatMap sepD).foldl wstep (A ++ [[]]) = A ++ pwords d ds
  | d, [], A, h => by rw [List.flatMap_nil, List.append_nil]; exact w_draft (h d (by simp)) A
  | d, e :: ds, A, h => by
    have : draftT d ++ (e :: ds).flatMap sepD = draftT d ++ ([59, 32] ++ (draftT e ++ ds.flatMap sepD)) := by rw [List.flatMap_cons]; rfl
    rw [this, List.foldl_append, List.foldl_append, w_draft (h d (by simp)), w_sep (dwords_ne d), w_plan e ds _ (fun q hq => h q (by simp [hq]))]
    simp [pwords]
theorem plan_words {p : Ds} (h : planB p = true) (hne : planT p ≠ []) : ∃ d ds, p = d :: ds ∧ wordsTo (planT p) (planT p).length = pwords d ds := by
  cases p with
  | nil => exact absurd rfl hne
  | cons d ds =>
    refine ⟨d, ds, rfl, ?_⟩
    unfold wordsTo
    rw [List.take_length]
    unfold planT
    rw [if_pos h, List.length_cons, planTo_tail d ds ds.length (Nat.le_refl _), List.take_length]
    exact w_plan d ds [] (planB_parts h).2
/-- A word is read. -/
theorem rd_s {out : Ds} {c : UInt8} (h1 : 48 ≤ c.toNat) (h2 : c.toNat ≤ 57) (hl : out.length ≤ 4) : rdStep (out, true) [115, c] = some (out ++ [((c.toNat : Int) - 48, [])], false) := by
  have he : endsS [115, c] = false := by
    unfold endsS
    have : c ≠ 59 := by apply byte_ne; show _ ≠ 59; omega
    simpa using this
  unfold rdStep cutE
  rw [he]
  simp
  omega
theorem rd_o {out : Ds} {n : Int} {acc : List T3} {o : T3} (h : stepB o = true) (hl : out.length ≤ 3) : rdStep (out ++ [(n, acc)], false) (wordT o) = some (out ++ [(n, acc ++ [o])], false) ∧
    rdStep (out ++ [(n, acc)], false) (wordT o ++ [59]) = some (out ++ [(n, acc ++ [o])], true) := by
  obtain ⟨c, h1, h2, h3, h4⟩ := step_form h
  have hc : c ≠ 59 := by apply byte_ne; show _ ≠ 59; omega
  rw [h1] at h4
  unfold stepOf at h4
  simp only [Option.some.injEq] at h4
  have e1 : endsS (wordT o) = false := by rw [h1]; unfold endsS; simpa using hc
  have e2 : endsS (wordT o ++ [59]) = true := by unfold endsS; simp
  have hadd : addStep (out ++ [(n, acc)]) o = out ++ [(n, acc ++ [o])] := by unfold addStep; simp
  have key : (if o.1 = 2 then (119 : UInt8) else 114) = 114 ∨ (if o.1 = 2 then (119 : UInt8) else 114) = 119 := by split <;> simp
  constructor
  · unfold rdStep cutE
    rw [e1, h1]
    simp only [Bool.false_eq_true, if_false]
    rw [if_neg (by simp; omega), if_neg (by simp), if_pos (by rcases key with k | k <;> rw [k] <;> decide), h4, hadd]
  · unfold rdStep cutE
    rw [e2, h1]
    simp only [if_true, List.cons_append, List.nil_append]
    have : [if o.1 = 2 then (119 : UInt8) else 114, c, 59].dropLast = [if o.1 = 2 then 119 else 114, c] := rfl
    rw [this]
    simp only
    rw [if_neg (by simp; omega), if_neg (by simp), if_pos (by rcases key with k | k <;> rw [k] <;> decide), h4, hadd]
theorem rd_os : ∀ (os : List T3) (out : Ds) (n : Int) (acc : List T3), (∀ o ∈ os, stepB o = true) → out.length ≤ 3 → (os.map wordT).foldlM rdStep (out ++ [(n, acc)], false) = some (out ++ [(n, acc ++ os)], false)
  | [], out, n, acc, _, _ => by simp
  | o :: os, out, n, acc, h, hl => by
    rw [List.map_cons, List.foldlM_cons, (rd_o (h o (by simp)) hl).1]
    show (os.map wordT).foldlM rdStep _ = _
    rw [rd_os os out n (acc ++ [o]) (fun q hq => h q (by simp [hq])) hl]
    simp
theorem rd_draft {d : Int × List T3} {out : Ds} (h : draftB d = true) (hl : out.length ≤ 3) : (dwords d).foldlM rdStep (out, true) = some (out ++ [d], false) ∧ (mark (dwords d)).foldlM rdStep (out, true) = some (out ++ [d], true) := by
  obtain ⟨c, e1, e2, e3, e4, _⟩ := draft_form h
  obtain ⟨_, _, hs⟩ := draftB_partsT h
  have hs' : ∀ o ∈ d.2, stepB o = true := fun o ho => (hs o ho).2.2
  have hne : d.2 ≠ [] := by
    unfold draftB at h
    simp only [Bool.and_eq_true, inB_iff] at h
    intro e; rw [e] at h; simp at h
  unfold dwords
  rw [e1]
  constructor
  · rw [List.foldlM_cons, rd_s e2 e3 (by omega)]
    show (d.2.map wordT).foldlM rdStep _ = _
    rw [rd_os d.2 out _ [] hs' hl, e4]
    simp
  · obtain ⟨os, o, ho⟩ : ∃ os o, d.2 = os ++ [o] := ⟨d.2.dropLast, d.2.getLast hne, (List.dropLast_concat_getLast hne).symm⟩
    have hm : mark ([115, c] :: d.2.map wordT) = [115, c] :: (os.map wordT ++ [wordT o ++ [59]]) := by
      rw [ho]
      unfold mark
      rw [List.map_append, List.map_cons, List.map_nil, ← List.cons_append, List.dropLast_concat, List.getLast?_concat]
      rfl
    rw [hm, List.foldlM_cons, rd_s e2 e3 (by omega)]
    show (os.map wordT ++ [wordT o ++ [59]]).foldlM rdStep _ = _
    rw [List.foldlM_append, rd_os os out _ [] (fun q hq => hs' q (by rw [ho]; simp [hq])) hl]
    show [wordT o ++ [59]].foldlM rdStep _ = _
    rw [List.foldlM_cons, (rd_o (hs' o (by rw [ho]; simp)) hl).2]
    show some _ = some _
    rw [List.nil_append, ← ho, e4]
theorem rd_pwords : ∀ (d : Int × List T3) (ds out : Ds), (∀ q ∈ d :: ds, draftB q = true) → out.length + ds.length ≤ 3 → (pwords d ds).foldlM rdStep (out, true) = some (out ++ d :: ds, false)
  | d, [], out, h, hl => (rd_draft (h d (by simp)) (by simpa using hl)).1
  | d, e :: ds, out, h, hl => by
    rw [List.length_cons] at hl
    show (mark (dwords d) ++ pwords e ds).foldlM rdStep _ = _
    rw [List.foldlM_append, (rd_draft (h d (by simp)) (by omega)).2]
    show (pwords e ds).foldlM rdStep _ = _
    rw [rd_pwords e ds _ (fun q hq => h q (by simp [hq])) (by rw [List.length_append, List.length_singleton]; omega)]
    simp
theorem rd_plan {p : Ds} {s : List UInt8} (h : planB p = true) (hs : planT p = s) (hne : s ≠ []) : rdTo (wordsTo s s.length) (wordsTo s s.length).length = some (p, false) := by
  subst hs
  obtain ⟨d, ds, rfl, hw⟩ := plan_words h hne
  unfold rdTo
  rw [List.take_length, hw]
  obtain ⟨h4, h5⟩ := planB_parts h
  rw [List.length_cons] at h4
  exact rd_pwords d ds [] h5 (by simp; omega)

end Go.Proofs.YtefopnkicllpeaaDoor
