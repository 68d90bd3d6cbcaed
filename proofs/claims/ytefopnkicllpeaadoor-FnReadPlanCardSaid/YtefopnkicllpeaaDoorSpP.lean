/- The parts of a plan's text and their words (plain). -/
import Derived.Test.YtefopnkicllpeaaDoorSpE
import Derived.Test.YtefopnkicllpeaaDoorPlT
namespace Go.Proofs.YtefopnkicllpeaaDoor
open Go.RowKit

def wordsOf (x : List UInt8) : List (List UInt8) := (Lib.splitB ⟨#[32]⟩ 0 (Lib.countB (str x) ⟨#[32]⟩) (str x)).map (fun b => b.data.toList)
/-- A part that reads: "s" and a digit, then words of two bytes. -/
def GoodPart (x : List UInt8) : Prop := ∃ (g : UInt8) (ss : List (List UInt8)), wordsOf x = [115, g] :: ss ∧ 48 ≤ g.toNat ∧ g.toNat ≤ 57 ∧ ∀ q ∈ ss, stepOf q ≠ none
/-- What is read of a part. -/
def PartD (x : List UInt8) (d : Int × List T3) : Prop := (∀ g : UInt8, (wordsOf x).headD [] = [115, g] → 48 ≤ g.toNat → g.toNat ≤ 57 → d.1 = (g.toNat : Int) - 48) ∧ d.2 = (wordsOf x).tail.map (fun q => (stepOf q).getD (0, 0, 0))
theorem idx_no {c : UInt8} {tl : List UInt8} : ∀ {x : List UInt8}, c ∉ x → Lib.index x (c :: tl) = -1
  | [], _ => rfl
  | b :: x, h => by
    simp only [List.mem_cons, not_or] at h
    unfold Lib.index
    rw [idx_no h.2]
    have : ((c :: tl).isPrefixOf (b :: x)) = false := by simp [List.isPrefixOf, h.1]
    rw [this]; rfl
theorem idx_at {c : UInt8} {tl r : List UInt8} : ∀ {x : List UInt8}, c ∉ x → Lib.index (x ++ (c :: tl ++ r)) (c :: tl) = (x.length : Int)
  | [], _ => by
    show Lib.index (c :: (tl ++ r)) (c :: tl) = 0
    unfold Lib.index
    have : ((c :: tl).isPrefixOf (c :: (tl ++ r))) = true := by
      rw [List.isPrefixOf_iff_prefix]; exact ⟨r, rfl⟩
    rw [this]; rfl
  | b :: x, h => by
    simp only [List.mem_cons, not_or] at h
    have ih := idx_at (c := c) (tl := tl) (r := r) h.2
    show Lib.index (b :: (x ++ (c :: tl ++ r))) (c :: tl) = _
    unfold Lib.index
    rw [ih]
    have : ((c :: tl).isPrefixOf (b :: (x ++ (c :: tl ++ r)))) = false := by simp [List.isPrefixOf, h.1]
    rw [this]
    have h2 : (((x.length : Int)) == -1) = false := by rw [beq_eq_false_iff_ne]; omega
    rw [h2]
    simp
theorem parts_no {x : List UInt8} (h : (59 : UInt8) ∉ x) : partsL [59, 32] x = [x] := partsL_end (by rw [idx_no h]; omega)
theorem parts_at {x r : List UInt8} (h : (59 : UInt8) ∉ x) : partsL [59, 32] (x ++ (59 :: 32 :: r)) = x :: partsL [59, 32] r := by
  have hi := idx_at (tl := [32]) (r := r) h
  have h2 : partsL [59, 32] (x ++ ([59, 32] ++ r)) = _ := partsL_cut (by simp) hi
  rw [show x ++ (59 :: 32 :: r) = x ++ ([59, 32] ++ r) from rfl, h2]
  simp
theorem wordsOf_eq (x : List UInt8) : wordsOf x = Lib.splitK [32] 0 (Lib.count x [32]) x := by
  unfold wordsOf
  rw [Lib.splitB_data]
  simp [str]
theorem words_no {x : List UInt8} (h : (32 : UInt8) ∉ x) : wordsOf x = [x] := by
  rw [wordsOf_eq, Lib.count_miss (idx_no h)]; rfl
theorem words_at {x r : List UInt8} (h : (32 : UInt8) ∉ x) : wordsOf (x ++ 32 :: r) = x :: wordsOf r := by
  have hi : Lib.index (x ++ 32 :: r) [32] = (x.length : Int) := idx_at (tl := []) (r := r) h
  have hd : (x ++ 32 :: r).drop (x.length + [(32 : UInt8)].length) = r := by simp
  rw [wordsOf_eq, Lib.count_hit (by simp) hi, hd, wordsOf_eq, Nat.add_comm]
  show (if Lib.index (x ++ 32 :: r) [32] == -1 then _ else _) = _
  rw [hi]
  have h2 : (((x.length : Int)) == -1) = false := by rw [beq_eq_false_iff_ne]; omega
  rw [h2, Int.toNat_natCast, hd]
  simp
/-- The digit of a small number. -/
theorem digs9 {n : Int} (h0 : 0 ≤ n) (h9 : n ≤ 9) : ∃ c : UInt8, digs n.toNat = [c] ∧ 48 ≤ c.toNat ∧ c.toNat ≤ 57 ∧ (c.toNat : Int) - 48 = n := by
  refine ⟨UInt8.ofNat (48 + n.toNat), digs_lt (by omega), ?_, ?_, ?_⟩ <;> simp <;> omega
def wordT (o : T3) : List UInt8 := (if o.1 = 2 then 119 else 114) :: digs o.2.1.toNat
theorem step_form {o : T3} (h : stepB o = true) : ∃ c : UInt8, wordT o = [if o.1 = 2 then 119 else 114, c] ∧ 48 ≤ c.toNat ∧ c.toNat ≤ 57 ∧ stepOf (wordT o) = some o := by
  obtain ⟨x, y, z⟩ := o
  unfold stepB at h
  simp only [Bool.and_eq_true, inB_iff, beq_iff_eq] at h
  obtain ⟨hx, hy, hz⟩ := h
  obtain ⟨c, h1, h2, h3, h4⟩ := digs9 (n := y) (by omega) (by omega)
  refine ⟨c, by unfold wordT; rw [h1], h2, h3, ?_⟩
  unfold wordT stepOf
  rw [h1]
  simp only [h4]
  have : x = 1 ∨ x = 2 := by omega
  rcases this with rfl | rfl <;> simp [hz]
theorem byte_ne {c d : UInt8} (h : c.toNat ≠ d.toNat) : c ≠ d := fun e => h (by rw [e])
theorem words_steps : ∀ (x : List UInt8) (os : List T3), (32 : UInt8) ∉ x → (∀ o ∈ os, stepB o = true) → wordsOf (x ++ os.flatMap stepT) = x :: os.map wordT
  | x, [], hx, _ => by simp [words_no hx]
  | x, o :: os, hx, ho => by
    obtain ⟨c, h1, h2, h3, _⟩ := step_form (ho o (by simp))
    have h32 : (32 : UInt8) ∉ wordT o := by
      rw [h1]
      simp only [List.mem_cons, List.not_mem_nil, or_false, not_or]
      refine ⟨?_, ?_⟩
      · split <;> decide
      · apply byte_ne; show 32 ≠ _; omega
    have e : x ++ (o :: os).flatMap stepT = x ++ 32 :: (wordT o ++ os.flatMap stepT) := by
      simp [stepT, wordT]
    rw [e, words_at hx, words_steps (wordT o) os h32 (fun q hq => ho q (by simp [hq]))]
    rfl
theorem draft_form {d : Int × List T3} (h : draftB d = true) : ∃ c : UInt8, digs d.1.toNat = [c] ∧ 48 ≤ c.toNat ∧ c.toNat ≤ 57 ∧ (c.toNat : Int) - 48 = d.1 ∧ wordsOf (draftT d) = [115, c] :: d.2.map wordT := by
  obtain ⟨h1, h2, h3⟩ := draftB_partsT h
  obtain ⟨c, e1, e2, e3, e4⟩ := digs9 (n := d.1) (by omega) (by omega)
  refine ⟨c, e1, e2, e3, e4, ?_⟩
  have : draftT d = [115, c] ++ d.2.flatMap stepT := by unfold draftT; rw [e1]; rfl
  rw [this]
  refine words_steps [115, c] d.2 ?_ (fun o ho => (h3 o ho).2.2)
  simp only [List.mem_cons, List.not_mem_nil, or_false, not_or]
  exact ⟨by decide, by apply byte_ne; show 32 ≠ _; omega⟩
theorem step_no59 {o : T3} (h : stepB o = true) : (59 : UInt8) ∉ stepT o := by
  obtain ⟨c, h1, h2, h3, _⟩ := step_form h
  have : stepT o = 32 :: wordT o := rfl
  rw [this, h1]
  simp only [List.mem_cons, List.not_mem_nil, or_false, not_or]
  refine ⟨by decide, by split <;> decide, by apply byte_ne; show 59 ≠ _; omega⟩
theorem draft_no59 {d : Int × List T3} (h : draftB d = true) : (59 : UInt8) ∉ draftT d := by
  obtain ⟨c, e1, e2, e3, e4, _⟩ := draft_form h
  obtain ⟨_, _, h3⟩ := draftB_partsT h
  unfold draftT
  rw [e1]
  simp only [List.cons_append, List.nil_append, List.mem_cons, not_or, List.mem_flatMap, not_exists, not_and]
  exact ⟨by decide, by apply byte_ne; show 59 ≠ _; omega, fun o ho => step_no59 (h3 o ho).2.2⟩
def sepD (d : Int × List T3) : List UInt8 := 59 :: 32 :: draftT d
theorem planTo_tail (d : Int × List T3) (ds : Ds) : ∀ k, k ≤ ds.length → planTo (d :: ds) (k + 1) = draftT d ++ (ds.take k).flatMap sepD
  | 0, _ => by rw [planTo_succ (ds := d :: ds) (k := 0) (d := d) rfl]; simp [planTo]
  | k + 1, h => by
    have h1 : ds[k]? = some (ds[k]'(by omega)) := List.getElem?_eq_getElem _
    have h2 : (d :: ds)[k + 1]? = some (ds[k]'(by omega)) := h1
    have h3 : ds.take (k + 1) = ds.take k ++ [ds[k]'(by omega)] := by rw [List.take_add_one, h1]; rfl
    rw [planTo_succ h2, planTo_tail d ds k (by omega), h3, List.flatMap_append, List.append_assoc]
    simp [sepD, -List.take_append_getElem]
theorem parts_plan : ∀ (d : Int × List T3) (ds : Ds), (∀ q ∈ d :: ds, draftB q = true) → partsL [59, 32] (draftT d ++ ds.flatMap sepD) = (d :: ds).map draftT
  | d, [], h => by simp [parts_no (draft_no59 (h d (by simp)))]
  | d, e :: ds, h => by
    have : draftT d ++ (e :: ds).flatMap sepD = draftT d ++ (59 :: 32 :: (draftT e ++ ds.flatMap sepD)) := by rw [List.flatMap_cons]; rfl
    rw [this, parts_at (draft_no59 (h d (by simp))), parts_plan e ds (fun q hq => h q (by simp [hq]))]
    rfl
theorem planT_parts {p : Ds} (h : planB p = true) (hne : planT p ≠ []) : partsL [59, 32] (planT p) = p.map draftT := by
  cases p with
  | nil => exact absurd rfl hne
  | cons d ds =>
    unfold planT
    rw [if_pos h, List.length_cons, planTo_tail d ds ds.length (Nat.le_refl _), List.take_length]
    exact parts_plan d ds (planB_parts h).2
theorem map_steps : ∀ (os : List T3), (∀ o ∈ os, stepB o = true) → (os.map wordT).map (fun q => (stepOf q).getD (0, 0, 0)) = os
  | [], _ => rfl
  | o :: os, h => by
    obtain ⟨c, _, _, _, h4⟩ := step_form (h o (by simp))
    simp only [List.map_cons, h4, Option.getD_some]
    rw [map_steps os (fun q hq => h q (by simp [hq]))]
theorem plan_read {p ds : Ds} {s : List UInt8} (h : planB p = true) (hs : planT p = s) (hne : s ≠ []) (hl : ds.length = (partsL [59, 32] s).length)
    (hp : ∀ (j : Nat) (x : List UInt8) (d : Int × List T3), (partsL [59, 32] s)[j]? = some x → ds[j]? = some d → PartD x d) : ds = p := by
  subst hs
  rw [planT_parts h hne] at hl hp
  rw [List.length_map] at hl
  apply List.ext_getElem? 
  intro j
  by_cases hj : j < p.length
  · have e1 : p[j]? = some p[j] := List.getElem?_eq_getElem hj
    have e2 : ds[j]? = some (ds[j]'(by omega)) := List.getElem?_eq_getElem _
    have hd : draftB p[j] = true := (planB_parts h).2 _ (List.getElem_mem hj)
    obtain ⟨c, f1, f2, f3, f4, f5⟩ := draft_form hd
    obtain ⟨g1, g2⟩ := hp j _ _ (by rw [List.getElem?_map, e1]; rfl) e2
    rw [f5] at g1 g2
    have g3 := g1 c rfl f2 f3
    rw [List.tail_cons, map_steps _ (fun o ho => ((draftB_partsT hd).2.2 o ho).2.2)] at g2
    rw [e1, e2]
    exact congrArg some (Prod.ext (by rw [g3, f4]) g2)
  · rw [List.getElem?_eq_none (by omega), List.getElem?_eq_none (by omega)]
theorem plan_good {p : Ds} {s : List UInt8} (h : planB p = true) (hs : planT p = s) (hne : s ≠ []) : ∀ x ∈ partsL [59, 32] s, GoodPart x := by
  subst hs
  rw [planT_parts h hne]
  intro x hx
  obtain ⟨d, hd, rfl⟩ := List.mem_map.1 hx
  have hb := (planB_parts h).2 d hd
  obtain ⟨c, f1, f2, f3, f4, f5⟩ := draft_form hb
  refine ⟨c, _, f5, f2, f3, fun q hq => ?_⟩
  obtain ⟨o, ho, rfl⟩ := List.mem_map.1 hq
  obtain ⟨_, _, _, _, h4⟩ := step_form ((draftB_partsT hb).2.2 o ho).2.2
  rw [h4]; simp

theorem splitK_head (sep : List UInt8) (k : Nat) (s : List UInt8) : ((Lib.splitK sep 0 k s).headD []).length ≤ s.length := by
  cases k with
  | zero => exact Nat.le_refl _
  | succ k =>
    unfold Lib.splitK
    split
    · exact Nat.le_refl _
    · rw [List.headD_cons, List.length_take]; exact Nat.min_le_right _ _
theorem cutS_len (l : List UInt8) : (cutS l).length ≤ l.length := by
  unfold cutS
  split
  · simp
  · exact Nat.le_refl _
theorem cut_len (x : List UInt8) : (cutS ((wordsOf x).headD [])).length ≤ x.length := by
  refine Nat.le_trans (cutS_len _) ?_
  rw [wordsOf_eq]
  exact splitK_head _ _ _

end Go.Proofs.YtefopnkicllpeaaDoor
