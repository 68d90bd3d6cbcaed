/- Merged (what the law reaches): PlanI, RunI5, Drs3, RunW, Lw, HistP, SerP, SerG, SerH, FndP, SameO. -/
import Derived.Test.YtcfkemchekmjbaaGreatDoorVd
import Derived.BigQuiet
import Derived.Laws.StructEq
namespace Go.Proofs.YtcfkemchekmjbaaGreatDoor
open Go.RowKit
set_option maxHeartbeats 400000 in
theorem keyOk_c {n : Int} {w : World} : Calls Tryz.prog 150 #[.int .i64 n] w fun e w' => e = .returned (.bool (inB n 0 2)) ∧ w = w' := by
  go_enter Tryz.func150, Tryz.ntmps150
  go_wp2_with (go_at_call 56; refine (within_c).mono ?_; rintro e w' ⟨rfl, rfl⟩)
  go_ret
  exact ⟨rfl, rfl⟩
set_option maxHeartbeats 400000 in
theorem sessionOk_c {n : Int} {w : World} : Calls Tryz.prog 103 #[.int .i64 n] w fun e w' => e = .returned (.bool (inB n 0 3)) ∧ w = w' := by
  go_enter Tryz.func103, Tryz.ntmps103
  go_wp2_with (go_at_call 56; refine (within_c).mono ?_; rintro e w' ⟨rfl, rfl⟩)
  go_ret
  exact ⟨rfl, rfl⟩
end Go.Proofs.YtcfkemchekmjbaaGreatDoor

namespace Go.Proofs.YtcfkemchekmjbaaGreatDoor
open Go.RowKit
theorem Mach.chg {S : Nat → Prop} {w w' : World} {lo gm n c : Nat} {A : Option Addr} {v : Value} {ts : List Tx} {es : List El} (h : Mach w lo gm A n c v ts es) (hc : Chg S w w') (h1 : ¬ S gm) (h2 : ∀ k, OT.S v es k → ¬ S k) : Mach w' lo gm A n c v ts es :=
  ⟨h.box.chg hc h1, h.own.chg hc h2, h.says, h.lt⟩
theorem Fits.small {ds : Ds} {ts : List Tx} (h : Fits ds ts) (hd : ∀ d ∈ ds, draftB d = true) : SmallT ts := fun t ht => by
  obtain ⟨i, hi, he⟩ := List.mem_iff_getElem.1 ht
  have h1 : ts[i]? = some t := by rw [← he]; exact List.getElem?_eq_getElem hi
  obtain ⟨d, t', h2, h3, _, _, _, h4, _⟩ := h.at_ (n := i) (by rw [← h.1]; exact hi)
  rw [h1] at h3; injection h3 with h3; subst h3
  have := (draftB_parts (hd d (List.mem_of_getElem? h2))).2.1
  omega
end Go.Proofs.YtcfkemchekmjbaaGreatDoor

namespace Go.Proofs.YtcfkemchekmjbaaGreatDoor
open Go.RowKit
/-- The cells of n drafts; 'is': the steps of the first ones. -/
def csD (n : Nat) (cs : List Value) (is : List In) : Prop := cs.length = n * 2 ∧ ∀ (j : Nat) (q : In), is[j]? = some q → j < n ∧ cs[j * 2 + 1]? = some q.1 ∧ ∃ x, cs[j * 2]? = some (.int .i64 x)
theorem csD.push {n k : Nat} {cs : List Value} {is : List In} (h : csD n cs is) (hl : is.length = k) (hk : k < n) (f : Int) (q : In) : csD n ((cs.set (k * 2) (.int .i64 f)).set (k * 2 + 1) q.1) (is ++ [q]) := by
  obtain ⟨h1, h2⟩ := h
  refine ⟨by simp [h1], fun j p hj => ?_⟩
  by_cases e : j < is.length
  · rw [List.getElem?_append_left e] at hj
    obtain ⟨h3, h4, x, h5⟩ := h2 j p hj
    refine ⟨h3, ?_, x, ?_⟩
    · rw [List.getElem?_set_ne (by omega), List.getElem?_set_ne (by omega)]; exact h4
    · rw [List.getElem?_set_ne (by omega), List.getElem?_set_ne (by omega)]; exact h5
  · obtain rfl : j = is.length := by have := (List.getElem?_eq_some_iff.1 hj).1; simp at this; omega
    simp at hj
    subst hj; subst hl
    refine ⟨hk, ?_, f, ?_⟩
    · rw [List.getElem?_set_self (by simp; omega)]
    · rw [List.getElem?_set_ne (by omega), List.getElem?_set_self (by omega)]
theorem csD.int {n : Nat} {cs : List Value} {is : List In} (h : csD n cs is) (k : Nat) (f : Int) : csD n (cs.set (k * 2) (.int .i64 f)) is := by
  obtain ⟨h1, h2⟩ := h
  refine ⟨by simp [h1], fun j p hj => ?_⟩
  obtain ⟨h3, h4, x, h5⟩ := h2 j p hj
  refine ⟨h3, ?_, ?_⟩
  · rw [List.getElem?_set_ne (by omega)]; exact h4
  · by_cases e : k = j
    · subst e; exact ⟨f, List.getElem?_set_self (by omega)⟩
    · exact ⟨x, by rw [List.getElem?_set_ne (by omega)]; exact h5⟩
theorem csD.upd {n : Nat} {cs : List Value} {is : List In} (h : csD n cs is) {j : Nat} {q q' : In} (hj : is[j]? = some q) (he : q'.1 = q.1) : csD n cs (is.set j q') := by
  obtain ⟨h1, h2⟩ := h
  refine ⟨h1, fun i p hi => ?_⟩
  by_cases e : j = i
  · subst e
    rw [List.getElem?_set_self (List.getElem?_eq_some_iff.1 hj).1] at hi
    injection hi with hi; subst hi
    rw [he]; exact h2 j q hj
  · rw [List.getElem?_set_ne e] at hi; exact h2 i p hi
/-- The drafts 'ms', all the call's own, from block lo on. -/
def ODs (w : World) (lo g n : Nat) (ms : Ds) : Prop := ∃ cs is, Dp 77 61 3 w lo g cs is ∧ csD n cs is ∧ is.map (·.2.1) = ms.map (·.2.length)
theorem ODs.below {w w' : World} {lo g n : Nat} {ms : Ds} (h : ODs w lo g n ms) (hb : Below w.heap.size w w') : ODs w' lo g n ms := by
  obtain ⟨cs, is, h1, h2, h3⟩ := h; exact ⟨cs, is, h1.below hb, h2, h3⟩
end Go.Proofs.YtcfkemchekmjbaaGreatDoor

namespace Go.Proofs.YtcfkemchekmjbaaGreatDoor
/-- A history that may lie there: at most 4 transactions of at most 4 operations. -/
def Lean4 (ts : List Tx) : Prop := ts.length ≤ 4 ∧ ∀ t ∈ ts, t.2.1.length ≤ 4
theorem Lean4.nil : Lean4 [] := ⟨by simp, fun t h => by simp at h⟩
theorem Lean4.small {ts : List Tx} (h : Lean4 ts) : SmallT ts := fun t ht => by have := h.2 t ht; omega
theorem sumE_le (c : Nat) : ∀ (es : List El), (∀ e ∈ es, e.2.1.2.1 ≤ c) → sumE es ≤ es.length * (c * 3 + 2)
  | [], _ => by simp [sumE]
  | e :: es, h => by
    have h1 := sumE_le c es (fun x hx => h x (List.mem_cons_of_mem _ hx))
    have h2 := h e (List.mem_cons_self ..)
    have h3 : sumE (e :: es) = e.2.1.2.1 * 3 + 2 + sumE es := by simp [sumE]
    rw [h3, List.length_cons, Nat.add_mul]
    omega
theorem OV.sum {w : World} {lo n : Nat} {v : Value} {es : List El} {ts : List Tx} (D : OV w lo v n es) (hs : SaysT es ts) (h4 : Lean4 ts) : sumE es ≤ 56 := by
  have hl := hs.len
  have h1 := sumE_le 4 es (fun e he => by
    obtain ⟨i, hi, hg⟩ := List.mem_iff_getElem.1 he
    have he' : es[i]? = some e := by rw [← hg]; exact List.getElem?_eq_getElem hi
    have ht : ts[i]? = some (ts[i]'(by omega)) := List.getElem?_eq_getElem _
    obtain ⟨e', h2, _, h3, _⟩ := hs.at_ ht
    rw [he'] at h2; injection h2 with h2; subst h2
    have h5 := (D.own i e he').len
    rw [h3, flat3_len] at h5
    have := h4.2 _ (List.mem_of_getElem? ht)
    omega)
  have := h4.1
  have h6 : es.length * (4 * 3 + 2) ≤ 4 * 14 := Nat.mul_le_mul (by omega) (Nat.le_refl _)
  omega
end Go.Proofs.YtcfkemchekmjbaaGreatDoor

namespace Go.Proofs.YtcfkemchekmjbaaGreatDoor
open Go.RowKit
def opB (o : T3) : Bool := inB o.1 1 2 && (inB o.2.1 0 2 && (inB o.2.2 0 99 && ((o.1 == 1) || decide (0 < o.2.2))))
def txnB (t : Tx) : Bool := t.2.1.all opB && (inB t.1 0 3 && decide (t.2.1.length ≤ 6))
/-- The last write to a key. -/
def lastK (os : List T3) (key : Int) : Option T3 := os.reverse.find? fun o => decide (o.1 = 2) && decide (o.2.1 = key)
/-- The last operation on a key. -/
def lastO (os : List T3) (key : Int) : Option T3 := os.reverse.find? fun o => decide (o.2.1 = key)
def lastW (os : List T3) : List T3 := (lastK os 0).toList ++ ((lastK os 1).toList ++ (lastK os 2).toList)
def ownV (os : List T3) (key : Int) (other : Int) : Int := match lastO os key with | some o => o.2.2 | none => other
theorem snoc_ind {α : Type} {motive : List α → Prop} (nil : motive []) (append_singleton : ∀ l a, motive l → motive (l ++ [a])) (l : List α) : motive l := by
  have h : ∀ r : List α, motive r.reverse := by
    intro r
    induction r with
    | nil => exact nil
    | cons a r ih => rw [List.reverse_cons]; exact append_singleton _ _ ih
  have := h l.reverse
  rwa [List.reverse_reverse] at this
theorem lastK_some {os : List T3} {key : Int} {o : T3} (h : lastK os key = some o) : o ∈ os ∧ o.1 = 2 ∧ o.2.1 = key := by
  unfold lastK at h
  have h1 := List.find?_some h
  have h2 := List.mem_of_find?_eq_some h
  simp at h1 h2
  exact ⟨h2, h1⟩
theorem lastO_some {os : List T3} {key : Int} {o : T3} (h : lastO os key = some o) : o ∈ os ∧ o.2.1 = key := by
  unfold lastO at h
  have h1 := List.find?_some h
  have h2 := List.mem_of_find?_eq_some h
  simp at h1 h2
  exact ⟨h2, h1⟩
theorem lastK_snoc (os : List T3) (o : T3) (key : Int) : lastK (os ++ [o]) key = if o.1 = 2 ∧ o.2.1 = key then some o else lastK os key := by
  unfold lastK
  rw [List.reverse_append]
  simp only [List.reverse_singleton, List.singleton_append, List.find?_cons]
  by_cases h : o.1 = 2 ∧ o.2.1 = key
  · simp [h]
  · rw [if_neg h]
    have : (decide (o.1 = 2) && decide (o.2.1 = key)) = false := by simpa using h
    rw [this]
theorem lastO_snoc (os : List T3) (o : T3) (key : Int) : lastO (os ++ [o]) key = if o.2.1 = key then some o else lastO os key := by
  unfold lastO
  rw [List.reverse_append]
  simp only [List.reverse_singleton, List.singleton_append, List.find?_cons]
  by_cases h : o.2.1 = key
  · simp [h]
  · rw [if_neg h]
    have : decide (o.2.1 = key) = false := by simpa using h
    rw [this]
/-- From behind: nothing among the last ones, then it. -/
theorem lastK_at {os : List T3} {k : Nat} {o : T3} {key : Int} (hk : os[k]? = some o) (ho : o.1 = 2 ∧ o.2.1 = key) (hb : ∀ j p, k < j → os[j]? = some p → ¬ (p.1 = 2 ∧ p.2.1 = key)) : lastK os key = some o := by
  induction os using snoc_ind with
  | nil => simp at hk
  | append_singleton l a ih =>
    rw [lastK_snoc]
    by_cases e : k < l.length
    · have h1 := hb l.length a e (by simp)
      rw [if_neg h1]
      rw [List.getElem?_append_left e] at hk
      exact ih hk (fun j p hj hp => hb j p hj (by rw [List.getElem?_append_left (List.getElem?_eq_some_iff.1 hp).1]; exact hp))
    · have : k = l.length := by have := (List.getElem?_eq_some_iff.1 hk).1; simp at this; omega
      subst this
      simp at hk; subst hk
      rw [if_pos ho]
theorem lastK_none {os : List T3} {key : Int} (hb : ∀ (j : Nat) p, os[j]? = some p → ¬ (p.1 = 2 ∧ p.2.1 = key)) : lastK os key = none := by
  cases h : lastK os key with
  | none => rfl
  | some o =>
    obtain ⟨h1, h2⟩ := lastK_some h
    obtain ⟨j, hj, he⟩ := List.mem_iff_getElem.1 h1
    exact absurd h2 (hb j o (by rw [← he]; exact List.getElem?_eq_getElem hj))
theorem lastO_at {os : List T3} {k : Nat} {o : T3} {key : Int} (hk : os[k]? = some o) (ho : o.2.1 = key) (hb : ∀ j p, k < j → os[j]? = some p → ¬ p.2.1 = key) : lastO os key = some o := by
  induction os using snoc_ind with
  | nil => simp at hk
  | append_singleton l a ih =>
    rw [lastO_snoc]
    by_cases e : k < l.length
    · have h1 := hb l.length a e (by simp)
      rw [if_neg h1]
      rw [List.getElem?_append_left e] at hk
      exact ih hk (fun j p hj hp => hb j p hj (by rw [List.getElem?_append_left (List.getElem?_eq_some_iff.1 hp).1]; exact hp))
    · have : k = l.length := by have := (List.getElem?_eq_some_iff.1 hk).1; simp at this; omega
      subst this
      simp at hk; subst hk
      rw [if_pos ho]
theorem lastO_none {os : List T3} {key : Int} (hb : ∀ (j : Nat) p, os[j]? = some p → ¬ p.2.1 = key) : lastO os key = none := by
  cases h : lastO os key with
  | none => rfl
  | some o =>
    obtain ⟨h1, h2⟩ := lastO_some h
    obtain ⟨j, hj, he⟩ := List.mem_iff_getElem.1 h1
    exact absurd h2 (hb j o (by rw [← he]; exact List.getElem?_eq_getElem hj))
theorem lastW_mem {os : List T3} {o : T3} (h : o ∈ lastW os) : o ∈ os ∧ o.1 = 2 := by
  unfold lastW at h
  simp only [List.mem_append, Option.mem_toList] at h
  rcases h with h | h | h
  · exact ⟨(lastK_some h).1, (lastK_some h).2.1⟩
  · exact ⟨(lastK_some h).1, (lastK_some h).2.1⟩
  · exact ⟨(lastK_some h).1, (lastK_some h).2.1⟩
/-- The last writes of the keys below k. -/
def lastTo (os : List T3) (k : Nat) : List T3 := (List.range k).flatMap fun (j : Nat) => (lastK os (j : Int)).toList
theorem lastTo_succ (os : List T3) (k : Nat) : lastTo os (k + 1) = lastTo os k ++ (lastK os (k : Int)).toList := by
  unfold lastTo; rw [List.range_succ, List.flatMap_append]; simp
theorem lastTo_three (os : List T3) : lastTo os 3 = lastW os := by
  rw [lastTo_succ, lastTo_succ, lastTo_succ]
  simp [lastTo, lastW]
theorem lastTo_len (os : List T3) (k : Nat) : (lastTo os k).length ≤ k := by
  induction k with
  | zero => simp [lastTo]
  | succ k ih =>
    rw [lastTo_succ, List.length_append]
    have : (lastK os (k : Int)).toList.length ≤ 1 := by cases lastK os (k : Int) <;> simp
    omega
end Go.Proofs.YtcfkemchekmjbaaGreatDoor

namespace Go.Proofs.YtcfkemchekmjbaaGreatDoor
open Go.RowKit
def wOf (o : T3) : Option (Int × Int) := if o.1 = 2 then some (o.2.1, o.2.2) else none
def wl (os : List T3) : List (Int × Int) := os.filterMap wOf
def allOps (ts : List Tx) : List T3 := ts.flatMap (·.2.1)
/-- All operations before place j of transaction k. -/
def opsTo (ts : List Tx) (k j : Nat) : List T3 := allOps (ts.take k) ++ ((ts.getD k (0, [], false)).2.1).take j
def histB (ts : List Tx) : Bool := decide (ts.length ≤ 6) && (ts.all txnB && decide ((wl (allOps ts)).Nodup))
theorem wl_append (a b : List T3) : wl (a ++ b) = wl a ++ wl b := by simp [wl]
theorem wl_one_w {o : T3} (h : o.1 = 2) : wl [o] = [(o.2.1, o.2.2)] := by simp [wl, wOf, h]
theorem wl_one_r {o : T3} (h : o.1 ≠ 2) : wl [o] = [] := by simp [wl, wOf, h]
theorem allOps_append (a b : List Tx) : allOps (a ++ b) = allOps a ++ allOps b := by simp [allOps]
theorem opsTo_zero (ts : List Tx) : opsTo ts 0 0 = [] := by simp [opsTo, allOps]
theorem opsTo_op {ts : List Tx} {k j : Nat} {t : Tx} {o : T3} (ht : ts[k]? = some t) (ho : t.2.1[j]? = some o) : opsTo ts k (j + 1) = opsTo ts k j ++ [o] := by
  have e : ts.getD k (0, [], false) = t := by simp [List.getD, ht]
  unfold opsTo
  rw [e, List.take_add_one, ho]
  simp
theorem opsTo_next {ts : List Tx} {k j : Nat} {t : Tx} (ht : ts[k]? = some t) (hj : t.2.1.length ≤ j) : opsTo ts (k + 1) 0 = opsTo ts k j := by
  have e : ts.getD k (0, [], false) = t := by simp [List.getD, ht]
  unfold opsTo
  rw [e, List.take_add_one, ht, List.take_of_length_le hj, allOps_append]
  simp [allOps]
theorem opsTo_all {ts : List Tx} {k : Nat} (hk : ts.length ≤ k) : opsTo ts k 0 = allOps ts := by
  unfold opsTo
  rw [List.take_of_length_le hk]; simp
/-- What stands before a place, and what stands behind it. -/
theorem opsTo_split {ts : List Tx} {k : Nat} {t : Tx} (ht : ts[k]? = some t) (j : Nat) : ∃ r, allOps ts = opsTo ts k j ++ r := by
  have e : ts.getD k (0, [], false) = t := by simp [List.getD, ht]
  have h1 : ts = ts.take k ++ t :: ts.drop (k + 1) := by
    have hk := (List.getElem?_eq_some_iff.1 ht)
    obtain ⟨hk, hv⟩ := hk
    rw [← hv, List.getElem_cons_drop, List.take_append_drop]
  refine ⟨t.2.1.drop j ++ allOps (ts.drop (k + 1)), ?_⟩
  have h2 : allOps ts = allOps (ts.take k ++ t :: ts.drop (k + 1)) := congrArg allOps h1
  rw [h2, allOps_append]
  unfold opsTo
  rw [e]
  have h3 : allOps (t :: ts.drop (k + 1)) = t.2.1 ++ allOps (ts.drop (k + 1)) := by simp [allOps]
  rw [h3, List.append_assoc, ← List.append_assoc (t.2.1.take j), List.take_append_drop]
theorem wl_all_split {ts : List Tx} {k j : Nat} {t : Tx} {o : T3} (ht : ts[k]? = some t) (ho : t.2.1[j]? = some o) (hw : o.1 = 2) : ∃ r, wl (allOps ts) = wl (opsTo ts k j) ++ (o.2.1, o.2.2) :: r := by
  obtain ⟨r, hr⟩ := opsTo_split ht (j + 1)
  refine ⟨wl r, ?_⟩
  rw [hr, wl_append, opsTo_op ht ho, wl_append, wl_one_w hw]
  simp
/-- A value that was written before. -/
theorem histB_twice {ts : List Tx} {k j : Nat} {t : Tx} {o : T3} (ht : ts[k]? = some t) (ho : t.2.1[j]? = some o) (hw : o.1 = 2) (hm : (o.2.1, o.2.2) ∈ wl (opsTo ts k j)) : ¬ (wl (allOps ts)).Nodup := by
  obtain ⟨r, hr⟩ := wl_all_split ht ho hw
  rw [hr]
  intro h
  exact (List.nodup_append.1 h).2.2 _ hm _ (List.mem_cons_self ..) rfl
theorem wl_step_w {ts : List Tx} {k j : Nat} {t : Tx} {o : T3} (ht : ts[k]? = some t) (ho : t.2.1[j]? = some o) (hw : o.1 = 2) : wl (opsTo ts k (j + 1)) = wl (opsTo ts k j) ++ [(o.2.1, o.2.2)] := by
  rw [opsTo_op ht ho, wl_append, wl_one_w hw]
theorem wl_step_r {ts : List Tx} {k j : Nat} {t : Tx} {o : T3} (ht : ts[k]? = some t) (ho : t.2.1[j]? = some o) (hw : o.1 ≠ 2) : wl (opsTo ts k (j + 1)) = wl (opsTo ts k j) := by
  rw [opsTo_op ht ho, wl_append, wl_one_r hw]; simp
theorem nodup_snoc {α : Type} {l : List α} {a : α} (h : l.Nodup) (ha : a ∉ l) : (l ++ [a]).Nodup :=
  List.nodup_append.2 ⟨h, by simp, fun x hx y hy e => by simp at hy; subst hy; subst e; exact ha hx⟩
theorem histB_bad {ts : List Tx} {k : Nat} {t : Tx} (ht : ts[k]? = some t) (h : txnB t = false) : histB ts = false := by
  have h1 : ts.all txnB = false := by
    rw [List.all_eq_false]; exact ⟨t, List.mem_of_getElem? ht, by simp [h]⟩
  simp [histB, h1]
theorem histB_parts {ts : List Tx} (h : histB ts = true) : ts.length ≤ 6 ∧ (∀ t ∈ ts, txnB t = true) ∧ (wl (allOps ts)).Nodup := by
  unfold histB at h
  simp only [Bool.and_eq_true, decide_eq_true_eq, List.all_eq_true] at h
  exact h
/-- The numbers of the committed transactions among the first k. -/
def doneTo (ts : List Tx) : Nat → List Int
  | 0 => []
  | k + 1 => doneTo ts k ++ (if (ts.getD k (0, [], false)).2.2 then [(k : Int)] else [])
theorem doneTo_yes {ts : List Tx} {k : Nat} {t : Tx} (h : ts[k]? = some t) (hb : t.2.2 = true) : doneTo ts (k + 1) = doneTo ts k ++ [(k : Int)] := by
  simp [doneTo, List.getD, h, hb]
theorem doneTo_no {ts : List Tx} {k : Nat} {t : Tx} (h : ts[k]? = some t) (hb : t.2.2 = false) : doneTo ts (k + 1) = doneTo ts k := by
  simp [doneTo, List.getD, h, hb]
theorem doneTo_len (ts : List Tx) (k : Nat) : (doneTo ts k).length ≤ k := by
  induction k with
  | zero => simp [doneTo]
  | succ k ih => simp only [doneTo, List.length_append]; split <;> simp <;> omega
def doneL (ts : List Tx) : List Int := doneTo ts ts.length
theorem txnB_opH {f : Int} {dn : Bool} {ys : List T3} (h : txnB (f, ys, dn) = true) {k : Nat} {o : T3} (hk : ys[k]? = some o) : opB o = true := by
  unfold txnB at h
  simp only [Bool.and_eq_true] at h
  exact List.all_eq_true.1 h.1 o (List.mem_of_getElem? hk)
theorem txnB_lenH {f : Int} {dn : Bool} {ys : List T3} (h : txnB (f, ys, dn) = true) : ys.length ≤ 6 := by
  unfold txnB at h; simp at h; exact h.2.2
end Go.Proofs.YtcfkemchekmjbaaGreatDoor

namespace Go.Proofs.YtcfkemchekmjbaaGreatDoor
open Go.RowKit
/-- A store behind operations; none, if a read is not right. -/
def followL (s : List Int) : List T3 → Option (List Int)
  | [] => some s
  | o :: os => if o.1 = 2 then followL (s.set o.2.1.toNat o.2.2) os else if s.getD o.2.1.toNat 0 = o.2.2 then followL s os else none
/-- Does an order run, from a store on? -/
def runsF (ts : List Tx) : List Int → List Int → Bool
  | _, [] => true
  | s, n :: r => match followL s (opsOf ts n.toNat) with
    | none => false
    | some s' => runsF ts s' r
/-- All orders, those that begin with earlier ones first. -/
def permsF : Nat → List Int → List (List Int)
  | 0, _ => [[]]
  | f + 1, l => if l = [] then [[]] else (List.range l.length).flatMap fun k => (permsF f (l.eraseIdx k)).map (l.getD k 0 :: ·)
theorem permsF_len : ∀ (f : Nat) (l : List Int), l.length ≤ f → ∀ x ∈ permsF f l, x.length = l.length
  | 0, l, h, x, hx => by
    have : l.length = 0 := by omega
    simp [permsF] at hx; subst hx; simp [this]
  | f + 1, l, h, x, hx => by
    by_cases h0 : l = []
    · simp [permsF, h0] at hx; subst hx; simp [h0]
    · simp only [permsF, if_neg h0, List.mem_flatMap, List.mem_range, List.mem_map] at hx
      obtain ⟨k, hk, y, hy, rfl⟩ := hx
      have h1 : (l.eraseIdx k).length = l.length - 1 := by rw [List.length_eraseIdx_of_lt hk]
      have := permsF_len f (l.eraseIdx k) (by omega) y hy
      simp only [List.length_cons]
      omega
end Go.Proofs.YtcfkemchekmjbaaGreatDoor

namespace Go.Proofs.YtcfkemchekmjbaaGreatDoor
open Go.RowKit
def restOf (all used : List Int) : List Int := all.filter fun n => !used.contains n
theorem erase_at : ∀ {l : List Int} (_ : l.Nodup) (k : Nat) (hk : k < l.length), l.eraseIdx k = l.erase l[k]
  | [], _, k, hk => by simp at hk
  | a :: l, h, 0, hk => by simp
  | a :: l, h, k + 1, hk => by
    have h2 := List.nodup_cons.1 h
    have hk' : k < l.length := by simpa using hk
    have hne : a ≠ l[k] := fun e => h2.1 (e ▸ List.getElem_mem hk')
    rw [List.eraseIdx_cons_succ, List.getElem_cons_succ, List.erase_cons_tail (by simpa using hne), erase_at h2.2 k hk']
theorem restOf_snoc {all : List Int} (h : all.Nodup) (used : List Int) (n : Int) : restOf all (used ++ [n]) = (restOf all used).erase n := by
  have hn : (restOf all used).Nodup := List.Nodup.sublist List.filter_sublist h
  rw [List.Nodup.erase_eq_filter hn]
  unfold restOf
  rw [List.filter_filter]
  apply List.filter_congr
  intro x _
  by_cases h1 : x ∈ used <;> by_cases h2 : x = n <;> simp [h1, h2]
end Go.Proofs.YtcfkemchekmjbaaGreatDoor

namespace Go.Proofs.YtcfkemchekmjbaaGreatDoor
open Go.RowKit
section
variable {α : Type} (go : α → List Int → α × Bool) (ts : List Tx)
/-- One level of the search, over what is left of all. -/
def srchL (rec : Int → List Int → α → α × Bool) (used s : List Int) : List Int → α → α × Bool
  | [], a => (a, true)
  | n :: l, a => if used.contains n then srchL rec used s l a else match followL s (opsOf ts n.toNat) with
    | none => srchL rec used s l a
    | some s' => if (rec n s' a).2 then srchL rec used s l (rec n s' a).1 else ((rec n s' a).1, false)
def srch (all : List Int) : Nat → List Int → List Int → α → α × Bool
  | 0, _, used, a => go a used
  | f + 1, s, used, a => srchL ts (fun n s' a => srch all f s' (used ++ [n]) a) used s all a
theorem srchL_used {rec : Int → List Int → α → α × Bool} {used s : List Int} {n : Int} {l : List Int} {a : α} (h : used.contains n = true) : srchL ts rec used s (n :: l) a = srchL ts rec used s l a := by
  simp only [srchL]; rw [if_pos h]
theorem srchL_none {rec : Int → List Int → α → α × Bool} {used s : List Int} {n : Int} {l : List Int} {a : α} (h : used.contains n = false) (hf : followL s (opsOf ts n.toNat) = none) : srchL ts rec used s (n :: l) a = srchL ts rec used s l a := by
  simp only [srchL]; rw [if_neg (by rw [h]; decide), hf]
theorem srchL_on {rec : Int → List Int → α → α × Bool} {used s s' : List Int} {n : Int} {l : List Int} {a : α} (h : used.contains n = false) (hf : followL s (opsOf ts n.toNat) = some s') (hr : (rec n s' a).2 = true) : srchL ts rec used s (n :: l) a = srchL ts rec used s l (rec n s' a).1 := by
  simp only [srchL]; rw [if_neg (by rw [h]; decide), hf]; simp only; rw [if_pos hr]
theorem srchL_stop {rec : Int → List Int → α → α × Bool} {used s s' : List Int} {n : Int} {l : List Int} {a : α} (h : used.contains n = false) (hf : followL s (opsOf ts n.toNat) = some s') (hr : (rec n s' a).2 = false) : srchL ts rec used s (n :: l) a = ((rec n s' a).1, false) := by
  simp only [srchL]; rw [if_neg (by rw [h]; decide), hf]; simp only; rw [if_neg (by rw [hr]; decide)]
end
/-- The first one. -/
def goFst (_ : Option (List Int)) (u : List Int) : Option (List Int) × Bool := (some u, false)
end Go.Proofs.YtcfkemchekmjbaaGreatDoor

namespace Go.Proofs.YtcfkemchekmjbaaGreatDoor
open Go.RowKit
/-- The store behind an order. -/
def stF (ts : List Tx) : List Int → List Int → Option (List Int)
  | s, [] => some s
  | s, n :: r => match followL s (opsOf ts n.toNat) with
    | none => none
    | some s' => stF ts s' r
theorem runsF_st (ts : List Tx) : ∀ (l s : List Int), runsF ts s l = (stF ts s l).isSome
  | [], s => rfl
  | n :: l, s => by
    simp only [runsF, stF]
    cases followL s (opsOf ts n.toNat) with
    | none => rfl
    | some s' => exact runsF_st ts l s'
theorem stF_snoc (ts : List Tx) (n : Int) : ∀ (l s : List Int), stF ts s (l ++ [n]) = (stF ts s l).bind fun s' => followL s' (opsOf ts n.toNat)
  | [], s => by
    simp only [List.nil_append, stF, Option.bind_some]
    cases followL s (opsOf ts n.toNat) <;> rfl
  | m :: l, s => by
    simp only [List.cons_append, stF]
    cases followL s (opsOf ts m.toNat) with
    | none => rfl
    | some s' => exact stF_snoc ts n l s'
def findF (ts : List Tx) : Nat → List Int → List Int → Option (List Int)
  | 0, b, _ => if runsF ts [0, 0, 0] b then some b else none
  | f + 1, b, r => if runsF ts [0, 0, 0] b then (if r = [] then some b else (List.range r.length).findSome? fun k => findF ts f (b ++ [r.getD k 0]) (r.eraseIdx k)) else none
theorem findF_no {ts : List Tx} {b : List Int} (h : runsF ts [0, 0, 0] b = false) : ∀ (f : Nat) (r : List Int), findF ts f b r = none
  | 0, r => by unfold findF; rw [h]; rfl
  | f + 1, r => by unfold findF; rw [h]; rfl
theorem findF_end {ts : List Tx} {b : List Int} (h : runsF ts [0, 0, 0] b = true) : ∀ (f : Nat), findF ts f b [] = some b
  | 0 => by unfold findF; rw [if_pos h]
  | f + 1 => by unfold findF; rw [if_pos h, if_pos rfl]
theorem find_index {F : Int → List Int → Option (List Int)} {l : List Int} (hl : l.Nodup) : ((List.range l.length).findSome? fun k => F (l.getD k 0) (l.eraseIdx k)) = l.findSome? fun n => F n (l.erase n) := by
  have key : ∀ k, k ∈ List.range l.length → F (l.getD k 0) (l.eraseIdx k) = (fun n => F n (l.erase n)) (l.getD k 0) := fun k hk => by
    have hk' := List.mem_range.1 hk
    have e : l.getD k 0 = l[k] := by rw [List.getD_eq_getElem?_getD, List.getElem?_eq_getElem hk']; rfl
    rw [erase_at hl k hk', e]
  have h2 : (List.range l.length).map (fun k => l.getD k 0) = l := by
    refine List.ext_getElem (by simp) (fun i h1 h2 => ?_)
    simp only [List.getElem_map, List.getElem_range]
    rw [List.getD_eq_getElem?_getD, List.getElem?_eq_getElem h2]; rfl
  have h3 : ∀ (ks : List Nat), (∀ k ∈ ks, k ∈ List.range l.length) → (ks.findSome? fun k => F (l.getD k 0) (l.eraseIdx k)) = (ks.map fun k => l.getD k 0).findSome? fun n => F n (l.erase n) := fun ks => by
    induction ks with
    | nil => intro _; rfl
    | cons k ks ih =>
      intro hs
      rw [List.map_cons, List.findSome?_cons, List.findSome?_cons, ih (fun q hq => hs q (by simp [hq])), key k (hs k (by simp))]
  rw [h3 _ (fun k hk => hk), h2]
theorem findF_step {ts : List Tx} {all used s : List Int} (hn : all.Nodup) {f : Nat} (hl : (restOf all used).length = f + 1) (hs : stF ts [0, 0, 0] used = some s) :
    findF ts (f + 1) used (restOf all used) = (restOf all used).findSome? fun n => findF ts f (used ++ [n]) (restOf all (used ++ [n])) := by
  have hr : runsF ts [0, 0, 0] used = true := by rw [runsF_st, hs]; rfl
  have hne : restOf all used ≠ [] := fun e => by rw [e] at hl; simp at hl
  have hnd : (restOf all used).Nodup := hn.sublist List.filter_sublist
  have e : findF ts (f + 1) used (restOf all used) = (List.range (restOf all used).length).findSome? fun k => findF ts f (used ++ [(restOf all used).getD k 0]) ((restOf all used).eraseIdx k) := by
    conv => lhs; unfold findF
    rw [if_pos hr, if_neg hne]
  rw [e, find_index (F := fun n r => findF ts f (used ++ [n]) r) hnd]
  congr 1
  funext n
  rw [restOf_snoc hn]
theorem srch_find (ts : List Tx) {all : List Int} (hn : all.Nodup) : ∀ (f : Nat) (s used : List Int), (restOf all used).length = f → stF ts [0, 0, 0] used = some s →
    srch goFst ts all f s used none = (findF ts f used (restOf all used), (findF ts f used (restOf all used)).isNone)
  | 0, s, used, hl, hs => by
    have hr : runsF ts [0, 0, 0] used = true := by rw [runsF_st, hs]; rfl
    rw [List.eq_nil_of_length_eq_zero hl, findF_end hr]
    rfl
  | f + 1, s, used, hl, hs => by
    rw [findF_step hn hl hs]
    show srchL ts (fun n s' a => srch goFst ts all f s' (used ++ [n]) a) used s all none = _
    have hin : ∀ n ∈ all, used.contains n = false → (restOf all (used ++ [n])).length = f := fun n hm hu => by
      rw [restOf_snoc hn, List.length_erase_of_mem (l := restOf all used) (show n ∈ restOf all used from List.mem_filter.2 ⟨hm, by rw [hu]; rfl⟩), hl]; rfl
    have go : ∀ l : List Int, (∀ n ∈ l, n ∈ all) → srchL ts (fun n s' a => srch goFst ts all f s' (used ++ [n]) a) used s l none =
        ((l.filter fun n => !used.contains n).findSome? (fun n => findF ts f (used ++ [n]) (restOf all (used ++ [n]))), ((l.filter fun n => !used.contains n).findSome? (fun n => findF ts f (used ++ [n]) (restOf all (used ++ [n])))).isNone) := fun l => by
      induction l with
      | nil => intro _; rfl
      | cons n l ih =>
        intro hsub
        have ih' := ih (fun q hq => hsub q (by simp [hq]))
        cases hu : used.contains n with
        | true => rw [srchL_used _ hu, ih', List.filter_cons_of_neg (by rw [hu]; decide)]
        | false =>
          rw [List.filter_cons_of_pos (by rw [hu]; decide), List.findSome?_cons]
          have hsn := stF_snoc ts n used [0, 0, 0]
          rw [hs, Option.bind_some] at hsn
          cases hf : followL s (opsOf ts n.toNat) with
          | none =>
            rw [hf] at hsn
            have hno : runsF ts [0, 0, 0] (used ++ [n]) = false := by rw [runsF_st, hsn]; rfl
            rw [srchL_none _ hu hf, ih', findF_no hno]
          | some s' =>
            rw [hf] at hsn
            have hrec := srch_find ts hn f s' (used ++ [n]) (hin n (hsub n (by simp)) hu) hsn
            cases hq : findF ts f (used ++ [n]) (restOf all (used ++ [n])) with
            | none =>
              rw [hq] at hrec
              rw [srchL_on _ hu hf (by rw [hrec]; rfl), hrec]
              exact ih'
            | some u =>
              rw [hq] at hrec
              rw [srchL_stop _ hu hf (by rw [hrec]; rfl), hrec]
              rfl
    exact go all (fun n h => h)
theorem srch_fstF (ts : List Tx) {all : List Int} (hn : all.Nodup) : (srch goFst ts all all.length [0, 0, 0] [] none).1 = findF ts all.length [] all := by
  have hr : restOf all [] = all := by unfold restOf; rw [List.filter_eq_self]; intro a _; rfl
  have := srch_find ts hn all.length [0, 0, 0] [] (by rw [hr]) rfl
  rw [this, hr]
end Go.Proofs.YtcfkemchekmjbaaGreatDoor

namespace Go.Proofs.YtcfkemchekmjbaaGreatDoor
open Go.RowKit
theorem fieldsOp : Tryz.prog.underlying 61 = some (.struct (Tryz.prog.fieldsOf 61)) := by kernel_rfl
theorem heldOp : Tryz.prog.stoodInHeld 61 = false := by kernel_rfl
theorem equalInOp (w : World) (a b c a' b' c' : Int) : (Op.equalIn 10000 61 (.agg #[.int .i64 a, .int .i64 b, .int .i64 c]) (.agg #[.int .i64 a', .int .i64 b', .int .i64 c'])).run Tryz.prog w = .ok (a == a' && (b == b' && c == c')) w := by
  have z3 := Tryz.sizeOf3
  have a3 := Tryz.isAgg3
  have u3 := Tryz.underlying3
  rw [show (10000 : Nat) = 9999 + 1 from rfl, run_equalIn_agg w 9999 61 _ _ fieldsOp heldOp]
  simp only [Program.fieldsOf, Tryz.underlying61]
  go_simp
  by_cases h1 : a = a' <;> by_cases h2 : b = b' <;> by_cases h3 : c = c' <;> simp [h1, h2, h3]
theorem eqOpL (w : World) (a b c a' b' c' : Int) : (binOp .eql 61 (.agg #[.int .i64 a, .int .i64 b, .int .i64 c]) (.agg #[.int .i64 a', .int .i64 b', .int .i64 c'])).run Tryz.prog w = .ok (.bool (a == a' && (b == b' && c == c'))) w := by
  rw [run_eql_struct, equalInOp]; rfl
end Go.Proofs.YtcfkemchekmjbaaGreatDoor
