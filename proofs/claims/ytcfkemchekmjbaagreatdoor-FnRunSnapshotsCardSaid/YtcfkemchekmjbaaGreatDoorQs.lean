/- Merged (what the law reaches): LvP, EdP. -/
import Derived.Test.YtcfkemchekmjbaaGreatDoorQr
namespace Go.Proofs.YtcfkemchekmjbaaGreatDoor
open Go.RowKit
/-- Transaction n writes the value to the key. -/
def IsW (ts : List Tx) (key val : Int) (n : Nat) : Prop := ∃ t, ts[n]? = some t ∧ (2, key, val) ∈ t.2.1
def writerN (ts : List Tx) (key val : Int) : Option Nat := ts.findIdx? (fun t => decide ((2, key, val) ∈ t.2.1))
def writerV (ts : List Tx) (key val : Int) : Int := match writerN ts key val with | some n => (n : Int) | none => -1
theorem writerN_some {ts : List Tx} {key val : Int} {n : Nat} (h : writerN ts key val = some n) : IsW ts key val n := by
  unfold writerN at h
  rw [List.findIdx?_eq_some_iff_getElem] at h
  obtain ⟨h1, h2, _⟩ := h
  exact ⟨ts[n], List.getElem?_eq_getElem h1, by simpa using h2⟩
theorem writerN_none {ts : List Tx} {key val : Int} (h : writerN ts key val = none) (n : Nat) : ¬ IsW ts key val n := by
  unfold writerN at h
  rw [List.findIdx?_eq_none_iff] at h
  rintro ⟨t, h1, h2⟩
  have := h t (List.mem_of_getElem? h1)
  simp [h2] at this
theorem mem_opsTo {ts : List Tx} {k j k' j' : Nat} {t : Tx} {o : T3} (ht : ts[k']? = some t) (ho : t.2.1[j']? = some o) (hb : k' < k ∨ (k' = k ∧ j' < j)) : o ∈ opsTo ts k j := by
  unfold opsTo
  rcases hb with h | ⟨rfl, h⟩
  · refine List.mem_append_left _ ?_
    unfold allOps
    rw [List.mem_flatMap]
    refine ⟨t, ?_, List.mem_of_getElem? ho⟩
    have h1 : (ts.take k)[k']? = some t := by rw [List.getElem?_take_of_lt h]; exact ht
    exact List.mem_of_getElem? h1
  · refine List.mem_append_right _ ?_
    have e : ts.getD k' (0, [], false) = t := by simp [List.getD, ht]
    rw [e]
    have h1 : (t.2.1.take j)[j']? = some o := by rw [List.getElem?_take_of_lt h]; exact ho
    exact List.mem_of_getElem? h1
theorem mem_wl {os : List T3} {o : T3} (h : o ∈ os) (hw : o.1 = 2) : (o.2.1, o.2.2) ∈ wl os := by
  unfold wl
  rw [List.mem_filterMap]
  exact ⟨o, h, by simp [wOf, hw]⟩
theorem of_mem_wl {os : List T3} {q : Int × Int} (h : q ∈ wl os) : (2, q.1, q.2) ∈ os := by
  unfold wl at h
  rw [List.mem_filterMap] at h
  obtain ⟨o, h1, h2⟩ := h
  unfold wOf at h2
  split at h2
  · rename_i he
    injection h2 with h2
    subst h2
    obtain ⟨a, b, c⟩ := o
    dsimp only at he; subst he
    exact h1
  · cases h2
/-- Nothing is written at two places. -/
theorem place_one {ts : List Tx} (hn : (wl (allOps ts)).Nodup) {k j k' j' : Nat} {t t' : Tx} {o : T3} (ht : ts[k]? = some t) (ho : t.2.1[j]? = some o) (ht' : ts[k']? = some t') (ho' : t'.2.1[j']? = some o) (hw : o.1 = 2) : k = k' ∧ j = j' := by
  by_cases h : k = k' ∧ j = j'
  · exact h
  · exfalso
    rcases (show (k < k' ∨ (k = k' ∧ j < j')) ∨ (k' < k ∨ (k' = k ∧ j' < j)) by omega) with h1 | h1
    · exact histB_twice ht' ho' hw (mem_wl (mem_opsTo ht ho h1) hw) hn
    · exact histB_twice ht ho hw (mem_wl (mem_opsTo ht' ho' h1) hw) hn
theorem IsW.one {ts : List Tx} (hn : (wl (allOps ts)).Nodup) {key val : Int} {n m : Nat} (h : IsW ts key val n) (h' : IsW ts key val m) : n = m := by
  obtain ⟨t, ht, hm⟩ := h
  obtain ⟨t', ht', hm'⟩ := h'
  obtain ⟨j, hj⟩ := List.getElem?_of_mem hm
  obtain ⟨j', hj'⟩ := List.getElem?_of_mem hm'
  exact (place_one hn ht hj ht' hj' rfl).1
theorem writerN_is {ts : List Tx} (hn : (wl (allOps ts)).Nodup) {key val : Int} {n : Nat} (h : IsW ts key val n) : writerN ts key val = some n := by
  cases e : writerN ts key val with
  | none => exact absurd h (writerN_none e n)
  | some m => rw [(writerN_some e).one hn h]
theorem writerV_is {ts : List Tx} (hn : (wl (allOps ts)).Nodup) {key val : Int} {n : Nat} (h : IsW ts key val n) : writerV ts key val = n := by
  unfold writerV; rw [writerN_is hn h]
theorem writerV_no {ts : List Tx} {key val : Int} (h : (key, val) ∉ wl (allOps ts)) : writerV ts key val = -1 := by
  unfold writerV
  cases e : writerN ts key val with
  | none => rfl
  | some m =>
    obtain ⟨t, ht, hm⟩ := writerN_some e
    exfalso; apply h
    refine mem_wl (o := (2, key, val)) ?_ rfl
    unfold allOps
    rw [List.mem_flatMap]
    exact ⟨t, List.mem_of_getElem? ht, hm⟩
theorem mem_allOps {ts : List Tx} {o : T3} (h : o ∈ allOps ts) : ∃ (n : Nat) (t : Tx), ts[n]? = some t ∧ o ∈ t.2.1 := by
  unfold allOps at h
  rw [List.mem_flatMap] at h
  obtain ⟨t, h1, h2⟩ := h
  obtain ⟨n, hn⟩ := List.getElem?_of_mem h1
  exact ⟨n, t, hn, h2⟩
theorem writerV_lt (ts : List Tx) (key val : Int) : -1 ≤ writerV ts key val ∧ writerV ts key val < ts.length := by
  unfold writerV
  cases e : writerN ts key val with
  | none => exact ⟨Int.le_refl _, by have : (0 : Int) ≤ ts.length := Int.natCast_nonneg _; dsimp only; omega⟩
  | some n =>
    obtain ⟨t, ht, _⟩ := writerN_some e
    have := (List.getElem?_eq_some_iff.1 ht).1
    exact ⟨by dsimp only; omega, by dsimp only; omega⟩
def txAt (ts : List Tx) (n : Nat) : Tx := ts.getD n (0, [], false)
theorem txAt_get {ts : List Tx} {n : Nat} {t : Tx} (h : ts[n]? = some t) : txAt ts n = t := by simp [txAt, List.getD, h]
/-- The value is the last one that its writer writes to the key. -/
def lastB (ts : List Tx) (key val : Int) : Bool := match writerN ts key val with | some n => decide (lastK (txAt ts n).2.1 key = some (2, key, val)) | none => false
/-- Of a read of transaction who: how it is bad (1, 2, 3), or 0. -/
def badK (ts : List Tx) (who : Nat) (o : T3) : Int :=
  if o.1 ≠ 1 ∨ o.2.2 = 0 ∨ writerV ts o.2.1 o.2.2 = (who : Int) then 0
  else match writerN ts o.2.1 o.2.2 with
    | none => 1
    | some n => if (txAt ts n).2.2 then (if lastB ts o.2.1 o.2.2 then 0 else 3) else 2
/-- The j-th operation of ys reads something else than what was last read or written there. -/
def ownBad (ys : List T3) (j : Nat) (o : T3) : Bool := decide (o.1 = 1) && (match lastO (ys.take j) o.2.1 with | some p => decide (p.2.2 ≠ o.2.2) | none => false)
/-- How many of the first j operations are bad (of kind k). -/
def badTo (ts : List Tx) (kind : Int) (who : Nat) (ys : List T3) : Nat → Nat
  | 0 => 0
  | j + 1 => badTo ts kind who ys j + (match ys[j]? with | some o => if (if kind = 4 then ownBad ys j o else decide (badK ts who o = kind)) then 1 else 0 | none => 0)
theorem badTo_yes {ts : List Tx} {kind : Int} {who : Nat} {ys : List T3} {j : Nat} {o : T3} (h : ys[j]? = some o) (hb : (if kind = 4 then ownBad ys j o else decide (badK ts who o = kind)) = true) : badTo ts kind who ys (j + 1) = badTo ts kind who ys j + 1 := by
  show badTo ts kind who ys j + _ = _
  rw [h]; simp only []; rw [if_pos hb]
theorem badTo_no {ts : List Tx} {kind : Int} {who : Nat} {ys : List T3} {j : Nat} {o : T3} (h : ys[j]? = some o) (hb : (if kind = 4 then ownBad ys j o else decide (badK ts who o = kind)) = false) : badTo ts kind who ys (j + 1) = badTo ts kind who ys j := by
  show badTo ts kind who ys j + _ = _
  rw [h]; simp only []; rw [if_neg (by rw [hb]; simp)]; rfl
theorem badTo_le (ts : List Tx) (kind : Int) (who : Nat) (ys : List T3) : ∀ j, badTo ts kind who ys j ≤ j := by
  intro j
  induction j with
  | zero => exact Nat.le_refl _
  | succ j ih =>
    cases h : ys[j]? with
    | none =>
      have e : badTo ts kind who ys (j + 1) = badTo ts kind who ys j := by
        show badTo ts kind who ys j + _ = _
        rw [h]; rfl
      omega
    | some o =>
      cases hb : (if kind = 4 then ownBad ys j o else decide (badK ts who o = kind))
      · rw [badTo_no h hb]; omega
      · rw [badTo_yes h hb]; omega
/-- All bad ones of transactions ahead of k. -/
def badAt (ts : List Tx) (kind : Int) : Nat → Nat
  | 0 => 0
  | k + 1 => badAt ts kind k + (if (txAt ts k).2.2 then badTo ts kind k (txAt ts k).2.1 (txAt ts k).2.1.length else 0)
def badN (ts : List Tx) (kind : Int) : Nat := if histB ts ∧ 1 ≤ kind ∧ kind ≤ 4 then badAt ts kind ts.length else 0
theorem badAt_done {ts : List Tx} {kind : Int} {k : Nat} {t : Tx} (h : ts[k]? = some t) (hd : t.2.2 = true) : badAt ts kind (k + 1) = badAt ts kind k + badTo ts kind k t.2.1 t.2.1.length := by
  show badAt ts kind k + _ = _
  rw [txAt_get h, if_pos hd]
theorem badAt_not {ts : List Tx} {kind : Int} {k : Nat} {t : Tx} (h : ts[k]? = some t) (hd : t.2.2 = false) : badAt ts kind (k + 1) = badAt ts kind k := by
  show badAt ts kind k + _ = _
  rw [txAt_get h, if_neg (by rw [hd]; simp)]; rfl
theorem badAt_le {ts : List Tx} {kind : Int} (hv : ∀ t ∈ ts, txnB t = true) : ∀ k, k ≤ ts.length → badAt ts kind k ≤ 6 * k := by
  intro k
  induction k with
  | zero => intro _; exact Nat.le_refl _
  | succ k ih =>
    intro hk
    obtain ⟨t, ht⟩ : ∃ t, ts[k]? = some t := ⟨_, List.getElem?_eq_getElem (by omega)⟩
    have h6 : t.2.1.length ≤ 6 := txnB_lenH (hv _ (List.mem_of_getElem? ht))
    have h7 := badTo_le ts kind k t.2.1 t.2.1.length
    have := ih (by omega)
    cases hd : t.2.2
    · rw [badAt_not ht hd]; omega
    · rw [badAt_done ht hd]; omega
/-- A read ahead of a write of the same. -/
def earlyB (ys : List T3) : Bool := (List.range ys.length).any fun i => match ys[i]? with | some o => decide (o.1 = 1) && (ys.drop (i + 1)).any (fun p => decide (p = (2, o.2.1, o.2.2))) | none => false
/-- All reads are right. -/
def rightB (ts : List Tx) : Bool := histB ts && (decide (badN ts 1 = 0) && (decide (badN ts 2 = 0) && (decide (badN ts 3 = 0) && (decide (badN ts 4 = 0) && ts.all (fun t => !(t.2.2 && earlyB t.2.1))))))
/-- Reads of keys that were not touched before. -/
def firstTo (ys : List T3) : Nat → List T3
  | 0 => []
  | j + 1 => firstTo ys j ++ (match ys[j]? with | some o => if o.1 = 1 ∧ lastO (ys.take j) o.2.1 = none then [o] else [] | none => [])
def firstR (ys : List T3) : List T3 := firstTo ys ys.length
theorem firstTo_yes {ys : List T3} {j : Nat} {o : T3} (h : ys[j]? = some o) (h1 : o.1 = 1) (h2 : lastO (ys.take j) o.2.1 = none) : firstTo ys (j + 1) = firstTo ys j ++ [o] := by
  show firstTo ys j ++ _ = _
  rw [h]; simp only []; rw [if_pos ⟨h1, h2⟩]
theorem firstTo_no {ys : List T3} {j : Nat} {o : T3} (h : ys[j]? = some o) (h1 : ¬ (o.1 = 1 ∧ lastO (ys.take j) o.2.1 = none)) : firstTo ys (j + 1) = firstTo ys j := by
  show firstTo ys j ++ _ = _
  rw [h]; simp only []; rw [if_neg h1, List.append_nil]
theorem firstTo_mem {ys : List T3} {o : T3} : ∀ j, o ∈ firstTo ys j → ∃ i, i < j ∧ ys[i]? = some o ∧ o.1 = 1 ∧ lastO (ys.take i) o.2.1 = none := by
  intro j
  induction j with
  | zero => intro h; simp [firstTo] at h
  | succ j ih =>
    intro h
    have h' : o ∈ firstTo ys j ++ (match ys[j]? with | some o => if o.1 = 1 ∧ lastO (ys.take j) o.2.1 = none then [o] else [] | none => []) := h
    rcases List.mem_append.1 h' with h1 | h1
    · obtain ⟨i, a, b⟩ := ih h1; exact ⟨i, by omega, b⟩
    · cases e : ys[j]? with
      | none => rw [e] at h1; simp at h1
      | some p =>
        rw [e] at h1
        simp only [] at h1
        split at h1
        · rename_i hc
          simp at h1; subst h1
          exact ⟨j, by omega, e, hc⟩
        · simp at h1
theorem mem_firstTo {ys : List T3} {o : T3} {i j : Nat} (hij : i < j) (h : ys[i]? = some o) (h1 : o.1 = 1) (h2 : lastO (ys.take i) o.2.1 = none) : o ∈ firstTo ys j := by
  induction j with
  | zero => omega
  | succ j ih =>
    by_cases e : i = j
    · subst e; rw [firstTo_yes h h1 h2]; simp
    · have := ih (by omega)
      show o ∈ firstTo ys j ++ _
      exact List.mem_append_left _ this
theorem mem_firstR {ys : List T3} {o : T3} : o ∈ firstR ys ↔ ∃ i, ys[i]? = some o ∧ o.1 = 1 ∧ lastO (ys.take i) o.2.1 = none := by
  constructor
  · intro h; obtain ⟨i, _, h⟩ := firstTo_mem _ h; exact ⟨i, h⟩
  · rintro ⟨i, h, h1, h2⟩; exact mem_firstTo (List.getElem?_eq_some_iff.1 h).1 h h1 h2
/-- What is installed for a key, of the first k transactions. -/
def instTo (ts : List Tx) (key : Int) : Nat → List Int
  | 0 => []
  | k + 1 => instTo ts key k ++ (if (txAt ts k).2.2 then ((lastK (txAt ts k).2.1 key).toList).map (·.2.2) else [])
def inst (ts : List Tx) (key : Int) : List Int := instTo ts key ts.length
theorem instTo_not {ts : List Tx} {key : Int} {k : Nat} {t : Tx} (h : ts[k]? = some t) (hd : t.2.2 = false) : instTo ts key (k + 1) = instTo ts key k := by
  show instTo ts key k ++ _ = _
  rw [txAt_get h, if_neg (by rw [hd]; simp), List.append_nil]
theorem instTo_done {ts : List Tx} {key : Int} {k : Nat} {t : Tx} (h : ts[k]? = some t) (hd : t.2.2 = true) : instTo ts key (k + 1) = instTo ts key k ++ ((lastK t.2.1 key).toList).map (·.2.2) := by
  show instTo ts key k ++ _ = _
  rw [txAt_get h, if_pos hd]
theorem instTo_len (ts : List Tx) (key : Int) : ∀ k, (instTo ts key k).length ≤ k := by
  intro k
  induction k with
  | zero => exact Nat.le_refl _
  | succ k ih =>
    show (instTo ts key k ++ _).length ≤ _
    rw [List.length_append]
    split
    · cases lastK (txAt ts k).2.1 key <;> simp <;> omega
    · simp; omega
theorem mem_instTo {ts : List Tx} {key v : Int} : ∀ k, v ∈ instTo ts key k ↔ ∃ (n : Nat) (t : Tx), n < k ∧ ts[n]? = some t ∧ t.2.2 = true ∧ ∃ o, lastK t.2.1 key = some o ∧ o.2.2 = v := by
  intro k
  induction k with
  | zero => simp [instTo]
  | succ k ih =>
    have hs : instTo ts key (k + 1) = instTo ts key k ++ (if (txAt ts k).2.2 then ((lastK (txAt ts k).2.1 key).toList).map (·.2.2) else []) := rfl
    rw [hs, List.mem_append, ih]
    constructor
    · rintro (⟨n, t, h1, h2⟩ | h)
      · exact ⟨n, t, by omega, h2⟩
      · cases hk : ts[k]? with
        | none =>
          have : txAt ts k = (0, [], false) := by simp [txAt, List.getD, hk]
          rw [this] at h; simp at h
        | some t =>
          rw [txAt_get hk] at h
          split at h
          · rename_i hd
            cases hl : lastK t.2.1 key with
            | none => rw [hl] at h; simp at h
            | some o => rw [hl] at h; simp at h; exact ⟨k, t, by omega, hk, hd, o, hl, h.symm⟩
          · simp at h
    · rintro ⟨n, t, h1, h2, hd, o, hl, rfl⟩
      by_cases e : n = k
      · subst e
        right; rw [txAt_get h2, if_pos hd, hl]; simp
      · left; exact ⟨n, t, by omega, h2, hd, o, hl, rfl⟩
theorem lastK_w {ys : List T3} {key : Int} {o : T3} (h : lastK ys key = some o) : o = (2, key, o.2.2) := by
  obtain ⟨_, h1, h2⟩ := lastK_some h
  obtain ⟨a, b, c⟩ := o
  dsimp only at h1 h2
  subst h1; subst h2; rfl
theorem mem_inst {ts : List Tx} {key v : Int} : v ∈ inst ts key ↔ ∃ (n : Nat) (t : Tx), ts[n]? = some t ∧ t.2.2 = true ∧ lastK t.2.1 key = some (2, key, v) := by
  unfold inst
  rw [mem_instTo]
  constructor
  · rintro ⟨n, t, _, h2, hd, o, hl, rfl⟩
    exact ⟨n, t, h2, hd, by rw [← lastK_w hl]; exact hl⟩
  · rintro ⟨n, t, h2, hd, hl⟩
    exact ⟨n, t, (List.getElem?_eq_some_iff.1 h2).1, h2, hd, _, hl, rfl⟩
theorem instTo_nodup {ts : List Tx} (hn : (wl (allOps ts)).Nodup) (key : Int) : ∀ k, k ≤ ts.length → (instTo ts key k).Nodup := by
  intro k
  induction k with
  | zero => intro _; simp [instTo]
  | succ k ih =>
    intro hk
    have ht : ts[k]? = some (ts[k]'(by omega)) := List.getElem?_eq_getElem _
    cases hd : (ts[k]'(by omega)).2.2
    · rw [instTo_not ht hd]; exact ih (by omega)
    · rw [instTo_done ht hd]
      cases hl : lastK (ts[k]'(by omega)).2.1 key with
      | none => simp only [Option.toList_none, List.map_nil, List.append_nil]; exact ih (by omega)
      | some o =>
        refine nodup_snoc (ih (by omega)) (fun hm => ?_)
        obtain ⟨n, t, h1, h2, _, p, hp, hv⟩ := (mem_instTo k).1 hm
        have e1 := lastK_w hl
        have e2 := lastK_w hp
        rw [hv, ← e1] at e2
        have a1 := (lastK_some hl).1
        have a2 := (lastK_some hp).1
        rw [e2] at a2
        obtain ⟨_, b1⟩ := List.getElem?_eq_some_iff.1 ht
        have w1 : IsW ts key o.2.2 k := ⟨_, ht, by rw [← e1]; exact a1⟩
        have w2 : IsW ts key o.2.2 n := ⟨_, h2, by rw [← e1]; exact a2⟩
        have := w1.one hn w2
        omega
theorem inst_nodup {ts : List Tx} (hn : (wl (allOps ts)).Nodup) (key : Int) : (inst ts key).Nodup := instTo_nodup hn key _ (Nat.le_refl _)
/-- There is an order for every key. -/
def ordersB (ts : List Tx) (os : List (List Int)) : Bool := histB ts && decide (os.length = 3 ∧ (os.getD 0 []).Perm (inst ts 0) ∧ (os.getD 1 []).Perm (inst ts 1) ∧ (os.getD 2 []).Perm (inst ts 2))
theorem ordersB_parts {ts : List Tx} {os : List (List Int)} (h : ordersB ts os = true) : histB ts = true ∧ os.length = 3 ∧ ∀ key : Nat, key < 3 → (os.getD key []).Perm (inst ts key) := by
  unfold ordersB at h
  simp only [Bool.and_eq_true, decide_eq_true_eq] at h
  obtain ⟨h1, h2, h3, h4, h5⟩ := h
  refine ⟨h1, h2, fun key hk => ?_⟩
  match key, hk with
  | 0, _ => exact h3
  | 1, _ => exact h4
  | 2, _ => exact h5
theorem ordersB_mk {ts : List Tx} {os : List (List Int)} (h1 : histB ts = true) (h2 : os.length = 3) (h3 : ∀ key : Nat, key < 3 → (os.getD key []).Perm (inst ts key)) : ordersB ts os = true := by
  unfold ordersB
  simp only [Bool.and_eq_true, decide_eq_true_eq]
  exact ⟨h1, h2, h3 0 (by omega), h3 1 (by omega), h3 2 (by omega)⟩
theorem ordersB_no {ts : List Tx} {os : List (List Int)} {key : Nat} (hk : key < 3) (h : ¬ (os.getD key []).Perm (inst ts key)) : ordersB ts os = false := by
  cases e : ordersB ts os with
  | false => rfl
  | true => exact absurd ((ordersB_parts e).2.2 key hk) h
end Go.Proofs.YtcfkemchekmjbaaGreatDoor

namespace Go.Proofs.YtcfkemchekmjbaaGreatDoor
open Go.RowKit
/-- The value behind a value in an order; the first one behind 0. -/
def nextV (xs : List Int) (v : Int) : Option Int := if v = 0 then xs[0]? else (xs.idxOf? v).bind fun i => xs[i + 1]?
/-- Two different committed transactions. -/
def PutP (ts : List Tx) (f t : Int) : Prop := ∃ (a b : Nat) (p q : Tx), f = a ∧ t = b ∧ a ≠ b ∧ ts[a]? = some p ∧ ts[b]? = some q ∧ p.2.2 = true ∧ q.2.2 = true
/-- Edges of kind 1, of the places before (k, i). -/
def SeenW (ts : List Tx) (os : List (List Int)) (k i : Nat) (e : T3) : Prop :=
  ∃ (key j : Nat) (v v' : Int), (key < k ∨ (key = k ∧ j + 1 < i)) ∧ (os.getD key [])[j]? = some v ∧ (os.getD key [])[j + 1]? = some v' ∧ e = (writerV ts key v, writerV ts key v', 1) ∧ PutP ts e.1 e.2.1
/-- Edges of kinds 2 and 3 of a read of transaction n. -/
def EdR (ts : List Tx) (n : Nat) (o e : T3) : Prop := e = (writerV ts o.2.1 o.2.2, (n : Int), 2) ∧ PutP ts e.1 e.2.1
def EdO (ts : List Tx) (os : List (List Int)) (n : Nat) (o e : T3) : Prop := (∃ v', nextV (os.getD o.2.1.toNat []) o.2.2 = some v' ∧ e = ((n : Int), writerV ts o.2.1 v', 3)) ∧ PutP ts e.1 e.2.1
/-- Edges of the reads before read j of transaction n. -/
def SeeR (ts : List Tx) (os : List (List Int)) (n j : Nat) (e : T3) : Prop :=
  ∃ (m i : Nat) (t : Tx) (o : T3), (m < n ∨ (m = n ∧ i < j)) ∧ ts[m]? = some t ∧ t.2.2 = true ∧ (firstR t.2.1)[i]? = some o ∧ (EdR ts m o e ∨ EdO ts os m o e)
def EdgeP (ts : List Tx) (os : List (List Int)) (e : T3) : Prop := SeenW ts os 3 0 e ∨ SeeR ts os ts.length 0 e
theorem SeenW.zero {ts : List Tx} {os : List (List Int)} {i : Nat} (hi : i ≤ 1) (e : T3) : ¬ SeenW ts os 0 i e := by
  rintro ⟨key, j, v, v', h, _⟩; omega
theorem SeenW.next {ts : List Tx} {os : List (List Int)} {k i : Nat} (hi : (os.getD k []).length ≤ i) (e : T3) : SeenW ts os (k + 1) 1 e ↔ SeenW ts os k i e := by
  constructor
  · rintro ⟨key, j, v, v', h, h1, h2, h3⟩
    refine ⟨key, j, v, v', ?_, h1, h2, h3⟩
    by_cases e : key = k
    · subst e; have := (List.getElem?_eq_some_iff.1 h2).1; omega
    · omega
  · rintro ⟨key, j, v, v', h, h1⟩
    exact ⟨key, j, v, v', by omega, h1⟩
theorem SeenW.step {ts : List Tx} {os : List (List Int)} {k i : Nat} {v v' : Int} (h1 : (os.getD k [])[i]? = some v) (h2 : (os.getD k [])[i + 1]? = some v') (e : T3) :
    SeenW ts os k (i + 2) e ↔ (SeenW ts os k (i + 1) e ∨ (e = (writerV ts k v, writerV ts k v', 1) ∧ PutP ts e.1 e.2.1)) := by
  constructor
  · rintro ⟨key, j, a, b, h, g1, g2, g3, g4⟩
    by_cases e : key = k ∧ j = i
    · obtain ⟨rfl, rfl⟩ := e
      rw [h1] at g1; rw [h2] at g2
      injection g1 with g1; injection g2 with g2; subst g1; subst g2
      exact .inr ⟨g3, g4⟩
    · exact .inl ⟨key, j, a, b, by omega, g1, g2, g3, g4⟩
  · rintro (⟨key, j, a, b, h, g⟩ | ⟨g3, g4⟩)
    · exact ⟨key, j, a, b, by omega, g⟩
    · exact ⟨k, i, v, v', by omega, h1, h2, g3, g4⟩
theorem SeeR.zero {ts : List Tx} {os : List (List Int)} (e : T3) : ¬ SeeR ts os 0 0 e := by
  rintro ⟨m, i, t, o, h, _⟩; omega
theorem SeeR.skip {ts : List Tx} {os : List (List Int)} {n : Nat} {t : Tx} (ht : ts[n]? = some t) (hd : t.2.2 = false) (e : T3) : SeeR ts os (n + 1) 0 e ↔ SeeR ts os n 0 e := by
  constructor
  · rintro ⟨m, i, t', o, h, h1, h2, h3⟩
    refine ⟨m, i, t', o, ?_, h1, h2, h3⟩
    by_cases e : m = n
    · subst e; rw [ht] at h1; injection h1 with h1; subst h1; rw [hd] at h2; cases h2
    · omega
  · rintro ⟨m, i, t', o, h, h1⟩
    exact ⟨m, i, t', o, by omega, h1⟩
theorem SeeR.next {ts : List Tx} {os : List (List Int)} {n j : Nat} {t : Tx} (ht : ts[n]? = some t) (hj : (firstR t.2.1).length ≤ j) (e : T3) : SeeR ts os (n + 1) 0 e ↔ SeeR ts os n j e := by
  constructor
  · rintro ⟨m, i, t', o, h, h1, h2, h3, h4⟩
    refine ⟨m, i, t', o, ?_, h1, h2, h3, h4⟩
    by_cases e : m = n
    · subst e; rw [ht] at h1; injection h1 with h1; subst h1
      have := (List.getElem?_eq_some_iff.1 h3).1; omega
    · omega
  · rintro ⟨m, i, t', o, h, h1⟩
    exact ⟨m, i, t', o, by omega, h1⟩
theorem SeeR.step {ts : List Tx} {os : List (List Int)} {n j : Nat} {t : Tx} {o : T3} (ht : ts[n]? = some t) (hd : t.2.2 = true) (ho : (firstR t.2.1)[j]? = some o) (e : T3) :
    SeeR ts os n (j + 1) e ↔ (SeeR ts os n j e ∨ EdR ts n o e ∨ EdO ts os n o e) := by
  constructor
  · rintro ⟨m, i, t', o', h, h1, h2, h3, h4⟩
    by_cases e : m = n ∧ i = j
    · obtain ⟨rfl, rfl⟩ := e
      rw [ht] at h1; injection h1 with h1; subst h1
      rw [ho] at h3; injection h3 with h3; subst h3
      exact .inr h4
    · exact .inl ⟨m, i, t', o', by omega, h1, h2, h3, h4⟩
  · rintro (⟨m, i, t', o', h, h1⟩ | h4)
    · exact ⟨m, i, t', o', by omega, h1⟩
    · exact ⟨n, j, t, o, by omega, ht, hd, ho, h4⟩
theorem SeeR.all {ts : List Tx} {os : List (List Int)} {n j : Nat} (hn : ts.length ≤ n) (e : T3) : SeeR ts os n j e ↔ SeeR ts os ts.length 0 e := by
  constructor
  · rintro ⟨m, i, t', o, h, h1, h2⟩
    have := (List.getElem?_eq_some_iff.1 h1).1
    exact ⟨m, i, t', o, by omega, h1, h2⟩
  · rintro ⟨m, i, t', o, h, h1⟩
    exact ⟨m, i, t', o, by omega, h1⟩
/-- All that may be edges, in their order. -/
def tri : List T3 := (List.range 6).flatMap fun (a : Nat) => (List.range 6).flatMap fun (b : Nat) => [((a : Int), (b : Int), (1 : Int)), ((a : Int), (b : Int), 2), ((a : Int), (b : Int), 3), ((a : Int), (b : Int), 4)]
theorem mem_tri {e : T3} : e ∈ tri ↔ (0 ≤ e.1 ∧ e.1 < 6) ∧ (0 ≤ e.2.1 ∧ e.2.1 < 6) ∧ 1 ≤ e.2.2 ∧ e.2.2 ≤ 4 := by
  obtain ⟨x, y, z⟩ := e
  unfold tri
  simp only [List.mem_flatMap, List.mem_range, List.mem_cons, Prod.mk.injEq, List.not_mem_nil, or_false]
  constructor
  · rintro ⟨a, ha, b, hb, h⟩; omega
  · rintro ⟨⟨h1, h2⟩, ⟨h3, h4⟩, h5, h6⟩
    refine ⟨x.toNat, by omega, y.toNat, by omega, ?_⟩
    omega
noncomputable def cd (p : Prop) : Bool := @decide p (Classical.propDecidable p)
theorem cd_true {p : Prop} : cd p = true ↔ p := by unfold cd; exact @decide_eq_true_iff p (Classical.propDecidable p)
theorem cd_yes {p : Prop} (h : p) : cd p = true := cd_true.2 h
theorem cd_no {p : Prop} (h : ¬ p) : cd p = false := by
  cases e : cd p with
  | false => rfl
  | true => exact absurd (cd_true.1 e) h
theorem cd_congr {p q : Prop} (h : p ↔ q) : cd p = cd q := by rw [Bool.eq_iff_iff, cd_true, cd_true]; exact h
noncomputable def canonL (S : T3 → Prop) : List T3 := tri.filter (fun e => cd (S e))
theorem mem_canonL {S : T3 → Prop} {e : T3} : e ∈ canonL S ↔ e ∈ tri ∧ S e := by unfold canonL; rw [List.mem_filter, cd_true]
theorem canonL_congr {S S' : T3 → Prop} (h : ∀ e, e ∈ tri → (S e ↔ S' e)) : canonL S = canonL S' := by
  unfold canonL
  exact List.filter_congr (fun e he => cd_congr (h e he))
/-- The order of edges. -/
def ltE (a b : T3) : Prop := a.1 < b.1 ∨ (a.1 = b.1 ∧ (a.2.1 < b.2.1 ∨ (a.2.1 = b.2.1 ∧ a.2.2 < b.2.2)))
instance (a b : T3) : Decidable (ltE a b) := by unfold ltE; exact inferInstance
theorem ltE.irrefl {a : T3} : ¬ ltE a a := by unfold ltE; omega
theorem ltE.trans {a b c : T3} (h : ltE a b) (g : ltE b c) : ltE a c := by unfold ltE at *; omega
theorem tri_sorted : tri.Pairwise ltE := by decide +kernel
theorem canonL_sorted (S : T3 → Prop) : (canonL S).Pairwise ltE := tri_sorted.filter _
theorem sorted_ext : ∀ {a b : List T3}, a.Pairwise ltE → b.Pairwise ltE → (∀ e, e ∈ a ↔ e ∈ b) → a = b
  | [], [], _, _, _ => rfl
  | [], y :: b, _, _, h => by have := (h y).2 (by simp); simp at this
  | x :: a, [], _, _, h => by have := (h x).1 (by simp); simp at this
  | x :: a, y :: b, ha, hb, h => by
    obtain ⟨h1, h2⟩ := List.pairwise_cons.1 ha
    obtain ⟨g1, g2⟩ := List.pairwise_cons.1 hb
    have e : x = y := by
      rcases List.mem_cons.1 ((h x).1 (by simp)) with e | hx
      · exact e
      · rcases List.mem_cons.1 ((h y).2 (by simp)) with e | hy
        · exact e.symm
        · exact absurd ((g1 x hx).trans (h1 y hy)) ltE.irrefl
    subst e
    congr 1
    refine sorted_ext h2 g2 (fun e => ?_)
    constructor
    · intro he
      rcases List.mem_cons.1 ((h e).1 (by simp [he])) with e1 | e1
      · subst e1; exact absurd (h1 e he) ltE.irrefl
      · exact e1
    · intro he
      rcases List.mem_cons.1 ((h e).2 (by simp [he])) with e1 | e1
      · subst e1; exact absurd (g1 e he) ltE.irrefl
      · exact e1
theorem canonL_len (S : T3 → Prop) : (canonL S).length ≤ 144 := Nat.le_trans (List.length_filter_le _ _) (by decide +kernel)
noncomputable def edgesL (ts : List Tx) (os : List (List Int)) : List T3 := if ordersB ts os then canonL (EdgeP ts os) else []
theorem edgesL_yes {ts : List Tx} {os : List (List Int)} (h : ordersB ts os = true) : edgesL ts os = canonL (EdgeP ts os) := by unfold edgesL; rw [if_pos h]
theorem edgesL_no {ts : List Tx} {os : List (List Int)} (h : ordersB ts os = false) : edgesL ts os = [] := by unfold edgesL; rw [h]; rfl
theorem PutP.range {ts : List Tx} {f t : Int} (h : PutP ts f t) : (0 ≤ f ∧ f < ts.length) ∧ (0 ≤ t ∧ t < ts.length) ∧ f ≠ t := by
  obtain ⟨a, b, p, q, rfl, rfl, hab, h1, h2, _⟩ := h
  have := (List.getElem?_eq_some_iff.1 h1).1
  have := (List.getElem?_eq_some_iff.1 h2).1
  omega
theorem EdgeP.put {ts : List Tx} {os : List (List Int)} {e : T3} (h : EdgeP ts os e) : PutP ts e.1 e.2.1 ∧ 1 ≤ e.2.2 ∧ e.2.2 ≤ 3 := by
  rcases h with ⟨key, j, v, v', _, _, _, h1, h2⟩ | ⟨m, i, t, o, _, _, _, _, h | h⟩
  · exact ⟨h2, by rw [h1]; show (1 : Int) ≤ _; simp, by rw [h1]; show _ ≤ (3 : Int); simp⟩
  · exact ⟨h.2, by rw [h.1]; show (1 : Int) ≤ _; simp, by rw [h.1]; show _ ≤ (3 : Int); simp⟩
  · obtain ⟨⟨v', _, h1⟩, h2⟩ := h
    exact ⟨h2, by rw [h1]; show (1 : Int) ≤ _; simp, by rw [h1]; show _ ≤ (3 : Int); simp⟩
theorem EdgeP.tri {ts : List Tx} {os : List (List Int)} {e : T3} (h : EdgeP ts os e) (h6 : ts.length ≤ 6) : e ∈ tri := by
  obtain ⟨h1, h2, h3⟩ := h.put
  obtain ⟨⟨a, b⟩, ⟨c, d⟩, _⟩ := h1.range
  exact mem_tri.2 ⟨⟨a, by omega⟩, ⟨c, by omega⟩, h2, by omega⟩
theorem mem_edgesL {ts : List Tx} {os : List (List Int)} {e : T3} : e ∈ edgesL ts os ↔ ordersB ts os = true ∧ EdgeP ts os e := by
  cases h : ordersB ts os
  · rw [edgesL_no h]; simp
  · rw [edgesL_yes h, mem_canonL]
    exact ⟨fun h1 => ⟨rfl, h1.2⟩, fun h1 => ⟨h1.2.tri (histB_parts (ordersB_parts h).1).1, h1.2⟩⟩
/-- Ways of one step or more. -/
inductive Way {α : Type} (R : α → α → Prop) : α → α → Prop
  | one {i j : α} (h : R i j) : Way R i j
  | cons {i j k : α} (h : R i j) (g : Way R j k) : Way R i k
theorem Way.trans {α : Type} {R : α → α → Prop} {i j k : α} (h : Way R i j) (g : Way R j k) : Way R i k := by
  induction h with
  | one h => exact .cons h g
  | cons h _ ih => exact .cons h (ih g)
theorem Way.mono {α : Type} {R S : α → α → Prop} (hs : ∀ i j, R i j → S i j) {i j : α} (h : Way R i j) : Way S i j := by
  induction h with
  | one h => exact .one (hs _ _ h)
  | cons h _ ih => exact .cons (hs _ _ h) ih
/-- Edges of kinds up to m. -/
def Ed (es : List T3) (m : Int) (i j : Int) : Prop := ∃ k, (i, j, k) ∈ es ∧ k ≤ m
def AnomP (es : List T3) (kind : Nat) : Prop :=
  (kind = 1 ∧ ∃ i, Way (Ed es 1) i i) ∨ (kind = 2 ∧ ∃ i, Way (Ed es 2) i i) ∨ (kind = 3 ∧ ∃ i j, (i, j, 3) ∈ es ∧ Way (Ed es 2) j i) ∨ (kind = 4 ∧ ∃ i, Way (Ed es 3) i i)
noncomputable def anomB (es : List T3) (kind : Nat) : Bool := cd (AnomP es kind)
/-- One of the anomalies 1 .. k. -/
noncomputable def anyTo (es : List T3) : Nat → Bool
  | 0 => false
  | k + 1 => anyTo es k || anomB es (k + 1)
theorem anyTo_mono {es : List T3} {j : Nat} (h : anyTo es j = true) : ∀ k, j ≤ k → anyTo es k = true := by
  intro k
  induction k with
  | zero => intro hk; obtain rfl : j = 0 := by omega
            exact h
  | succ k ih =>
    intro hk
    show (anyTo es k || _) = true
    by_cases e : j = k + 1
    · subst e; exact h
    · rw [ih (by omega)]; rfl
theorem anyTo_hit {es : List T3} {k n : Nat} (h : anomB es (k + 1) = true) (hk : k + 1 ≤ n) : anyTo es n = true := anyTo_mono (j := k + 1) (by show (anyTo es k || _) = true; rw [h, Bool.or_true]) n hk
noncomputable def allowB (ts : List Tx) (os : List (List Int)) (lv : Nat) : Bool := !(anyTo (edgesL ts os) lv) && (decide (lv < 2) || rightB ts)
end Go.Proofs.YtcfkemchekmjbaaGreatDoor
