/- Delivery is causal: a delivered message is behind all messages whose clocks are before its clock. -/
import Derived.Test.YtopjdidigfdhbaaDoorDeliverP
namespace Go.Proofs.YtopjdidigfdhbaaDoor

inductive DOk (ms : Ms) : List Nat → Prop
  | nil : DOk ms []
  | snoc {os : List Nat} {k : Nat} : DOk ms os → k < ms.length → canB ms os k = true → DOk ms (os ++ [k])
theorem DOk.run {ms : Ms} : ∀ (f : Nat) {os : List Nat}, DOk ms os → DOk ms (runD ms f os) := by
  intro f
  induction f with
  | zero => intro os h; exact h
  | succ f ih =>
    intro os h
    rw [runD]
    cases hn : nextD ms os with
    | none => exact h
    | some k =>
      refine ih (DOk.snoc h ?_ ?_)
      · unfold nextD at hn
        exact List.mem_range.1 (List.mem_of_find?_eq_some hn)
      · unfold nextD at hn
        exact List.find?_some hn
theorem DOk.take {ms : Ms} {os : List Nat} (h : DOk ms os) : ∀ k, DOk ms (os.take k) := by
  induction h with
  | nil => intro k; simpa using DOk.nil
  | @snoc os m h hm hc ih =>
    intro k
    by_cases hk : k ≤ os.length
    · rw [List.take_append_of_le_length hk]; exact ih k
    · rw [List.take_of_length_le (by simp; omega)]; exact .snoc h hm hc
theorem DOk.last {ms : Ms} {os : List Nat} {k : Nat} (h : DOk ms (os ++ [k])) : DOk ms os ∧ k < ms.length ∧ canB ms os k = true := by
  generalize he : os ++ [k] = l at h
  cases h with
  | nil => simp at he
  | @snoc os' m h hm hc =>
    obtain ⟨rfl, hk⟩ := List.append_inj' he rfl
    injection hk with hk; subst hk
    exact ⟨h, hm, hc⟩
theorem DOk.at_ {ms : Ms} {os : List Nat} (h : DOk ms os) {k m : Nat} (hk : os[k]? = some m) : DOk ms (os.take k) ∧ m < ms.length ∧ canB ms (os.take k) m = true := by
  have := h.take (k + 1)
  rw [List.take_add_one, hk] at this
  exact DOk.last this
theorem okAt_self {f : Nat} {c s : Int} (h : okAt f (f : Int) c s = true) : c = s + 1 := by simpa [okAt] using h
theorem okAt_other {k f : Nat} {c s : Int} (h : okAt k (f : Int) c s = true) (hn : k ≠ f) : c ≤ s := by
  unfold okAt at h
  rw [if_neg (by omega)] at h
  simpa using h
/-- What 'canB' says. -/
theorem can_parts {ms : Ms} {os : List Nat} {k : Nat} (h : canB ms os k = true) :
    k ∉ os ∧ ∃ f : Nat, f < 4 ∧ (atM ms k).1 = f ∧ clockB (atM ms k).2 = true ∧ ∀ j, j < 4 → okAt j (f : Int) ((atM ms k).2.getD j 0) ((seenV ms os).getD j 0) = true := by
  unfold canB mayB at h
  simp only [Bool.and_eq_true, Bool.not_eq_true', List.contains_eq_mem, decide_eq_false_iff_not] at h
  obtain ⟨h1, _, h2, h3, h4⟩ := h
  obtain ⟨f, hf⟩ : ∃ f : Nat, (atM ms k).1 = f := ⟨(atM ms k).1.toNat, by have := (inB_iff _ _ _).1 h3; omega⟩
  refine ⟨h1, f, by have := (inB_iff _ _ _).1 h3; omega, hf, h2, fun j hj => ?_⟩
  unfold mayAll at h4
  rw [List.all_eq_true] at h4
  have := h4 j (List.mem_range.2 hj)
  rw [hf] at this
  exact this
theorem DOk.cover {ms : Ms} {os : List Nat} (h : DOk ms os) : ∀ (g : Nat) (c : Int), g < 4 → 1 ≤ c → c ≤ (seenV ms os).getD g 0 → ∃ i, i ∈ os ∧ i < ms.length ∧ keyM (atM ms i) = ((g : Int), c) := by
  induction h with
  | nil => intro g c hg h1 h2; rw [seenV_nil] at h2; match g, hg with | 0, _ => simp at h2; omega | 1, _ => simp at h2; omega | 2, _ => simp at h2; omega | 3, _ => simp at h2; omega
  | @snoc os k h hm hc ih =>
    intro g c hg h1 h2
    obtain ⟨_, f, hf4, hf, _, hok⟩ := can_parts hc
    rw [seenV_snoc hf] at h2
    by_cases e : f = g
    · subst e
      have hs := okAt_self (hok f hf4)
      rw [List.getD, List.getElem?_set_self (by rw [seenV_len]; exact hf4)] at h2
      by_cases hc2 : c ≤ (seenV ms os).getD f 0
      · obtain ⟨i, h3, h4, h5⟩ := ih f c hg h1 hc2
        exact ⟨i, by simp [h3], h4, h5⟩
      · refine ⟨k, by simp, hm, ?_⟩
        unfold keyM cntM
        rw [hf]
        have : ((f : Int)).toNat = f := by omega
        rw [this, hs]
        simp only [Option.getD_some] at h2
        have : c = (seenV ms os).getD f 0 + 1 := by omega
        rw [this]
    · rw [List.getD, List.getElem?_set_ne e] at h2
      obtain ⟨i, h3, h4, h5⟩ := ih g c hg h1 h2
      exact ⟨i, by simp [h3], h4, h5⟩
theorem mv_parts {ms : Ms} (h : mvB ms = true) : MvTo ms ms.length ∧ ms.length ≤ 12 := by simpa [mvB] using h
theorem mv_inj {ms : Ms} (h : mvB ms = true) {i j : Nat} (hi : i < ms.length) (hj : j < ms.length) (he : keyM (atM ms i) = keyM (atM ms j)) : i = j := by
  have hv := (mv_parts h).1
  rcases Nat.lt_trichotomy i j with hl | hl | hl
  · exact absurd he ((hv j hj).2 i hl)
  · exact hl
  · exact absurd he.symm ((hv i hi).2 j hl)
theorem leAll_at : ∀ {xs ys : List Int} {k : Nat}, leAll xs ys = true → k < xs.length → k < ys.length → xs.getD k 0 ≤ ys.getD k 0 := by
  intro xs
  induction xs with
  | nil => intro ys k _ hk; simp at hk
  | cons x xs ih =>
    intro ys k h hk hk2
    cases ys with
    | nil => simp at hk2
    | cons y ys =>
      simp only [leAll, Bool.and_eq_true, decide_eq_true_eq] at h
      cases k with
      | zero => simpa using h.1
      | succ k => simpa using ih h.2 (by simpa using hk) (by simpa using hk2)
theorem causal {ms : Ms} {os : List Nat} (hv : mvB ms = true) (h : DOk ms os) {k m j : Nat} (hk : os[k]? = some m) (hj : j < ms.length) (hne : j ≠ m) (hnb : j ∉ os.take k) (hle : leAll (atM ms j).2 (atM ms m).2 = true) : False := by
  obtain ⟨hd, hm, hc⟩ := h.at_ hk
  obtain ⟨_, f, hf4, hf, hcl, hok⟩ := can_parts hc
  have hmj := ((mv_parts hv).1 j hj).1
  unfold msgOk at hmj
  simp only [Bool.and_eq_true, Bool.not_eq_true', decide_eq_false_iff_not] at hmj
  obtain ⟨hg, hcj, hnz⟩ := hmj
  obtain ⟨g, hgf⟩ : ∃ g : Nat, (atM ms j).1 = g := ⟨(atM ms j).1.toNat, by have := (inB_iff _ _ _).1 hg; omega⟩
  have hg4 : g < 4 := by have := (inB_iff _ _ _).1 hg; omega
  have l1 := ((clockB_iff _).1 hcj).1
  have l2 := ((clockB_iff _).1 hcl).1
  have hle2 := leAll_at hle (show g < _ by omega) (show g < _ by omega)
  have hcm : cntM (atM ms j) = (atM ms j).2.getD g 0 := by unfold cntM; rw [hgf]; rfl
  have hc1 : 1 ≤ (atM ms j).2.getD g 0 := by
    have hmem : (atM ms j).2.getD g 0 ∈ (atM ms j).2 := by
      rw [List.getD, List.getElem?_eq_getElem (by omega)]; exact List.getElem_mem _
    have := (inB_iff _ _ _).1 (((clockB_iff _).1 hcj).2 _ hmem)
    rw [hcm] at hnz
    omega
  have key : (atM ms j).2.getD g 0 ≤ (seenV ms (os.take k)).getD g 0 := by
    by_cases e : g = f
    · subst e
      have hs := okAt_self (hok g hf4)
      rcases Int.lt_or_le ((seenV ms (os.take k)).getD g 0) ((atM ms j).2.getD g 0) with hlt | hle3
      · exfalso
        have he : (atM ms j).2.getD g 0 = (atM ms m).2.getD g 0 := by omega
        exact hne (mv_inj hv hj hm (by unfold keyM cntM; rw [hgf, hf]; exact congrArg _ he))
      · exact hle3
    · have := okAt_other (hok g hg4) e
      omega
  obtain ⟨i, hi, hil, hik⟩ := hd.cover g _ hg4 hc1 key
  have : i = j := mv_inj hv hil hj (by rw [hik]; unfold keyM; rw [hcm, hgf])
  subst this
  exact hnb hi
theorem dlv_ok {ms : Ms} : DOk ms (dlvL ms) := by
  unfold dlvL; split
  · exact DOk.run _ .nil
  · exact .nil
theorem dlv_new {ms : Ms} {os : List Nat} (h : DOk ms os) {k m : Nat} (hk : os[k]? = some m) : m ∉ os.take k := (can_parts (h.at_ hk).2.2).1

end Go.Proofs.YtopjdidigfdhbaaDoor
