/- How many orders there are; if no transactions meet, all run or none does (plain). -/
import Derived.Test.YtieecneknljmdaaDoorSerH
import Derived.Test.YtieecneknljmdaaDoorMeetP
namespace Go.Proofs.YtieecneknljmdaaDoor
open Go.RowKit

def facM : Nat → Nat
  | 0 => 1
  | n + 1 => facM n * (n + 1)
theorem permsF_many' : ∀ (f : Nat) (l : List Int), l.length = f → (permsF f l).length = facM f
  | 0, l, _ => rfl
  | f + 1, l, h => by
    have h0 : l ≠ [] := fun e => by rw [e] at h; cases h
    simp only [permsF, if_neg h0, List.length_flatMap, List.length_map, facM]
    have : ∀ ks : List Nat, (∀ k ∈ ks, k < l.length) → (ks.map fun k => (permsF f (l.eraseIdx k)).length).sum = ks.length * facM f := by
      intro ks
      induction ks with
      | nil => intro _; simp
      | cons k ks ih =>
        intro hk
        have h1 := permsF_many' f (l.eraseIdx k) (by rw [List.length_eraseIdx_of_lt (hk k (by simp))]; omega)
        have h2 := ih (fun k hk' => hk k (by simp [hk']))
        simp only [List.map_cons, List.sum_cons, List.length_cons] at h2 ⊢
        rw [h1, h2, Nat.add_mul, Nat.one_mul, Nat.add_comm]
    rw [this _ (fun k hk => List.mem_range.1 hk), List.length_range, h, Nat.mul_comm]
theorem facM_le : ∀ {n : Nat}, n ≤ 6 → facM n ≤ 720 ∧ 1 ≤ facM n := by
  intro n h
  match n, h with
  | 0, _ => decide
  | 1, _ => decide
  | 2, _ => decide
  | 3, _ => decide
  | 4, _ => decide
  | 5, _ => decide
  | 6, _ => decide
theorem erase_perm : ∀ (l : List Int) (k : Nat) (hk : k < l.length), (l[k] :: l.eraseIdx k).Perm l
  | a :: l, 0, _ => by simp
  | a :: l, k + 1, hk => by
    have hk' : k < l.length := by simpa using hk
    rw [List.eraseIdx_cons_succ, List.getElem_cons_succ]
    exact (List.Perm.swap a l[k] _).trans (List.Perm.cons a (erase_perm l k hk'))
theorem permsF_perm : ∀ (f : Nat) (l : List Int), l.length ≤ f → ∀ x ∈ permsF f l, x.Perm l
  | 0, l, h, x, hx => by
    have : l = [] := List.eq_nil_of_length_eq_zero (by omega)
    simp [permsF] at hx; subst hx; subst this; exact List.Perm.refl _
  | f + 1, l, h, x, hx => by
    by_cases h0 : l = []
    · simp [permsF, h0] at hx; subst hx; subst h0; exact List.Perm.refl _
    · simp only [permsF, if_neg h0, List.mem_flatMap, List.mem_range, List.mem_map] at hx
      obtain ⟨k, hk, y, hy, rfl⟩ := hx
      have h1 := permsF_perm f (l.eraseIdx k) (by rw [List.length_eraseIdx_of_lt hk]; omega) y hy
      have e : l.getD k 0 = l[k] := by rw [List.getD_eq_getElem?_getD, List.getElem?_eq_getElem hk]; rfl
      rw [e]
      exact (List.Perm.cons _ h1).trans (erase_perm l k hk)
/-- Two stores that agree where the operations look. -/
theorem follow_agree : ∀ (os : List T3) (s t : List Int), s.length = t.length → (∀ o ∈ os, s.getD o.2.1.toNat 0 = t.getD o.2.1.toNat 0) → (followL s os).isSome = (followL t os).isSome
  | [], s, t, _, _ => rfl
  | o :: os, s, t, hl, h => by
    simp only [followL]
    by_cases hw : o.1 = 2
    · rw [if_pos hw, if_pos hw]
      refine follow_agree os _ _ (by simp [hl]) (fun p hp => ?_)
      have := h p (by simp [hp])
      simp only [List.getD_eq_getElem?_getD, List.getElem?_set, hl] at this ⊢
      split
      · rfl
      · exact this
    · rw [if_neg hw, if_neg hw, h o (by simp)]
      split
      · exact follow_agree os s t hl (fun p hp => h p (by simp [hp]))
      · rfl
theorem follow_far : ∀ (os : List T3) (s s' : List Int), followL s os = some s' → ∀ k, (∀ o ∈ os, o.1 = 2 → o.2.1.toNat ≠ k) → s'.getD k 0 = s.getD k 0
  | [], s, s', h, k, _ => by simp only [followL, Option.some.injEq] at h; rw [h]
  | o :: os, s, s', h, k, hk => by
    simp only [followL] at h
    split at h
    · rename_i hw
      rw [follow_far os _ s' h k (fun p hp => hk p (by simp [hp]))]
      simp only [List.getD_eq_getElem?_getD, List.getElem?_set]
      rw [if_neg (hk o (by simp) hw)]
    · split at h
      · exact follow_far os s s' h k (fun p hp => hk p (by simp [hp]))
      · cases h
theorem hitB_symm (o p : T3) : hitB o p = hitB p o := by
  unfold hitB
  rw [Bool.eq_iff_iff]
  simp only [Bool.and_eq_true, Bool.or_eq_true, beq_iff_eq]
  constructor
  · rintro ⟨h1, h2⟩; exact ⟨h1.symm, h2.symm⟩
  · rintro ⟨h1, h2⟩; exact ⟨h1.symm, h2.symm⟩
theorem meetB_symm (a b : List T3) : meetB a b = meetB b a := by
  unfold meetB
  rw [Bool.eq_iff_iff]
  simp only [List.any_eq_true]
  constructor
  · rintro ⟨o, ho, p, hp, h⟩; exact ⟨p, hp, o, ho, by rw [hitB_symm]; exact h⟩
  · rintro ⟨o, ho, p, hp, h⟩; exact ⟨p, hp, o, ho, by rw [hitB_symm]; exact h⟩
theorem meets_none (ts : List Tx) : ∀ l : List Int, meetsR ts l = 0 → ∀ a ∈ l, ∀ b ∈ l, a ≠ b → meetB (opsAt ts a) (opsAt ts b) = false
  | [], _, a, ha, _, _, _ => by simp at ha
  | x :: l, h, a, ha, b, hb, hne => by
    simp only [meetsR] at h
    have h1 : meetsR ts l = 0 := by omega
    have h2 : cntM ts x l = 0 := by omega
    have h3 : ∀ y ∈ l, meetB (opsAt ts x) (opsAt ts y) = false := fun y hy => by
      unfold cntM at h2
      have h4 := List.eq_nil_of_length_eq_zero h2
      cases hb : meetB (opsAt ts x) (opsAt ts y)
      · rfl
      · have : y ∈ l.filter fun b => meetB (opsAt ts x) (opsAt ts b) := List.mem_filter.2 ⟨hy, hb⟩
        rw [h4] at this; cases this
    rcases List.mem_cons.1 ha with e | ha'
    · rcases List.mem_cons.1 hb with e2 | hb'
      · exact absurd (e.trans e2.symm) hne
      · rw [e]; exact h3 b hb'
    · rcases List.mem_cons.1 hb with e2 | hb'
      · rw [meetB_symm, e2]; exact h3 a ha'
      · exact meets_none ts l h1 a ha' b hb' hne
/-- Where nothing meets, each transaction runs by itself. -/
theorem runs_apart (ts : List Tx) (hk : ∀ t ∈ ts, ∀ o ∈ t.2.1, (o.1 = 1 ∨ o.1 = 2) ∧ 0 ≤ o.2.1 ∧ o.2.1 ≤ 2) (t : List Int) :
    ∀ (l : List Int) (s : List Int), l.Nodup → (∀ a ∈ l, ∀ b ∈ l, a ≠ b → meetB (opsAt ts a) (opsAt ts b) = false) → s.length = t.length → (∀ a ∈ l, ∀ o ∈ opsAt ts a, s.getD o.2.1.toNat 0 = t.getD o.2.1.toNat 0) →
    runsF ts s l = l.all fun n => (followL t (opsAt ts n)).isSome
  | [], s, _, _, _, _ => rfl
  | n :: l, s, hn, hm, hl, ha => by
    have hops : ∀ a : Int, ∀ o ∈ opsAt ts a, 0 ≤ o.2.1 ∧ o.2.1 ≤ 2 := fun a o ho => by
      unfold opsAt opsOf at ho
      cases hx : ts[a.toNat]? with
      | none => rw [List.getD_eq_getElem?_getD, hx] at ho; simp at ho
      | some x =>
        rw [List.getD_eq_getElem?_getD, hx] at ho
        exact (hk x (List.mem_of_getElem? hx) o ho).2
    have h2 := List.nodup_cons.1 hn
    simp only [runsF, List.all_cons]
    rw [← follow_agree (opsAt ts n) s t hl (ha n (by simp))]
    show (match followL s (opsAt ts n) with | none => false | some s' => runsF ts s' l) = _
    cases hf : followL s (opsAt ts n) with
    | none => rfl
    | some s' =>
      simp only [Option.isSome_some, Bool.true_and]
      refine runs_apart ts hk t l s' h2.2 (fun a ha' b hb' => hm a (by simp [ha']) b (by simp [hb'])) ((followL_len _ _ _ hf).trans hl) (fun a ha' o ho => ?_)
      rw [follow_far _ _ _ hf o.2.1.toNat (fun p hp hw e => ?_)]
      · exact ha a (by simp [ha']) o ho
      · have hne : n ≠ a := fun e => h2.1 (e ▸ ha')
        have h3 := hm n (by simp) a (by simp [ha']) hne
        have h4 := hops n p hp
        have h5 := hops a o ho
        have h6 : meetB (opsAt ts n) (opsAt ts a) = true := by
          unfold meetB
          rw [List.any_eq_true]
          refine ⟨p, hp, List.any_eq_true.2 ⟨o, ho, ?_⟩⟩
          unfold hitB
          simp only [Bool.and_eq_true, Bool.or_eq_true, beq_iff_eq]
          exact ⟨by omega, .inl hw⟩
        rw [h6] at h3; cases h3
/-- If none meet, all orders run, or none does. -/
theorem all_or_none {ts : List Tx} {l : List Int} (hk : ∀ t ∈ ts, ∀ o ∈ t.2.1, (o.1 = 1 ∨ o.1 = 2) ∧ 0 ≤ o.2.1 ∧ o.2.1 ≤ 2) (hn : l.Nodup) (hm : meetsL ts l = 0) (s : List Int) :
    ((permsL l).filter (runsF ts s)).length = 0 ∨ ((permsL l).filter (runsF ts s)).length = facM l.length := by
  have h1 : ∀ x ∈ permsL l, runsF ts s x = l.all fun n => (followL s (opsAt ts n)).isSome := fun x hx => by
    have hp := permsF_perm l.length l (Nat.le_refl _) x hx
    rw [runs_apart ts hk s x s (hp.nodup_iff.2 hn) (fun a ha b hb => meets_none ts l.reverse hm a (by simp [hp.mem_iff.1 ha]) b (by simp [hp.mem_iff.1 hb])) rfl (fun _ _ _ _ => rfl)]
    rw [Bool.eq_iff_iff, List.all_eq_true, List.all_eq_true]
    exact ⟨fun h y hy => h y (hp.mem_iff.2 hy), fun h y hy => h y (hp.mem_iff.1 hy)⟩
  cases hb : l.all fun n => (followL s (opsAt ts n)).isSome
  · left
    rw [List.length_eq_zero_iff, List.filter_eq_nil_iff]
    intro x hx
    rw [h1 x hx, hb]; simp
  · right
    rw [List.filter_eq_self.2 (fun x hx => by rw [h1 x hx, hb])]
    exact permsF_many' l.length l rfl
theorem cnt_le_fac {ts : List Tx} {l : List Int} (s : List Int) : ((permsL l).filter (runsF ts s)).length ≤ facM l.length := by
  have := List.length_filter_le (runsF ts s) (permsL l)
  rw [show (permsL l).length = facM l.length from permsF_many' l.length l rfl] at this
  exact this
theorem fst_found (ts : List Tx) {all : List Int} (h : all.Nodup) (s : List Int) : (srch goFst ts all all.length s [] none).1.isSome = decide (0 < ((permsL all).filter (runsF ts s)).length) := by
  rw [← cntG_all ts h s]
  rcases srch_fst ts all all.length s [] none with ⟨h1, h2⟩ | ⟨h1, u, h2⟩
  · rw [h2, h1]; rfl
  · rw [h2]; simp [h1]

end Go.Proofs.YtieecneknljmdaaDoor
