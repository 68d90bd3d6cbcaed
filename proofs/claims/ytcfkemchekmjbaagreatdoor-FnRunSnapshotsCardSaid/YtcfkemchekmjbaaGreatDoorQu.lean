/- Merged (what the law reaches): SsQ, MatP. -/
import Derived.Test.YtcfkemchekmjbaaGreatDoorQt
import Derived.Laws.Bits64
import Derived.Laws.BitsAllLaws
namespace Go.Proofs.YtcfkemchekmjbaaGreatDoor
open Go.RowKit
theorem cntW_take_le (ts : List Tx) (co : List Nat) (key : Nat) {p q : Nat} (h : p ≤ q) : cntW ts (co.take p) key ≤ cntW ts (co.take q) key := by
  unfold cntW
  exact List.Sublist.countP_le (List.take_sublist_take_left h)
theorem cntW_take_succ {ts : List Tx} {co : List Nat} {key p n : Nat} (h : co[p]? = some n) : cntW ts (co.take (p + 1)) key = cntW ts (co.take p) key + (if (wV ts n key).isSome then 1 else 0) := by
  rw [List.take_add_one, h]; exact cntW_snoc ts _ n key
theorem lastV_take_succ {ts : List Tx} {co : List Nat} {key p n : Nat} (h : co[p]? = some n) : lastV ts (co.take (p + 1)) key = (wV ts n key).getD (lastV ts (co.take p) key) := by
  rw [List.take_add_one, h]; exact lastV_snoc ts _ n key
/-- Where the last value comes from. -/
theorem lastV_from {ts : List Tx} {co : List Nat} {key : Nat} : ∀ q, q ≤ co.length → (lastV ts (co.take q) key = 0 ∧ cntW ts (co.take q) key = 0) ∨
    ∃ p n v, p < q ∧ co[p]? = some n ∧ wV ts n key = some v ∧ lastV ts (co.take q) key = v ∧ cntW ts (co.take q) key = cntW ts (co.take p) key + 1 := by
  intro q
  induction q with
  | zero => intro _; left; exact ⟨rfl, rfl⟩
  | succ q ih =>
    intro hq
    have hn : co[q]? = some (co[q]'(by omega)) := List.getElem?_eq_getElem _
    rw [lastV_take_succ hn, cntW_take_succ hn]
    cases hw : wV ts (co[q]'(by omega)) key with
    | some v => right; exact ⟨q, _, v, by omega, hn, hw, rfl, by simp⟩
    | none =>
      simp only [Option.getD_none, Option.isSome_none, Bool.false_eq_true, if_false, Nat.add_zero]
      rcases ih (by omega) with h | ⟨p, n, v, h1, h2⟩
      · exact .inl h
      · exact .inr ⟨p, n, v, by omega, h2⟩
def ordK (ts : List Tx) (co : List Nat) (key : Nat) : List Int := co.filterMap fun n => wV ts n key
def ordL (ts : List Tx) (co : List Nat) : List (List Int) := [ordK ts co 0, ordK ts co 1, ordK ts co 2]
theorem ordL_get {ts : List Tx} {co : List Nat} {key : Nat} (hk : key < 3) : (ordL ts co).getD key [] = ordK ts co key := by
  match key, hk with
  | 0, _ => rfl
  | 1, _ => rfl
  | 2, _ => rfl
/-- Where a value of an order comes from. -/
theorem ordK_from {ts : List Tx} {co : List Nat} {key i : Nat} {v : Int} (h : (ordK ts co key)[i]? = some v) : ∃ p n, co[p]? = some n ∧ wV ts n key = some v ∧ cntW ts (co.take p) key = i := by
  induction co generalizing i with
  | nil => simp [ordK] at h
  | cons n co ih =>
    have hs : ordK ts (n :: co) key = match wV ts n key with | none => ordK ts co key | some b => b :: ordK ts co key := by
      unfold ordK; rw [List.filterMap_cons]; cases wV ts n key <;> rfl
    rw [hs] at h
    cases hw : wV ts n key with
    | none =>
      rw [hw] at h
      obtain ⟨p, m, h1, h2, h3⟩ := ih h
      refine ⟨p + 1, m, by simpa using h1, h2, ?_⟩
      rw [List.take_succ_cons]
      unfold cntW at *
      rw [List.countP_cons, h3, hw]; simp
    | some b =>
      rw [hw] at h
      cases i with
      | zero =>
        simp at h; subst h
        exact ⟨0, n, by simp, hw, by simp [cntW]⟩
      | succ i =>
        obtain ⟨p, m, h1, h2, h3⟩ := ih (by simpa using h)
        refine ⟨p + 1, m, by simpa using h1, h2, ?_⟩
        rw [List.take_succ_cons]
        unfold cntW at *
        rw [List.countP_cons, h3, hw]; simp
theorem co_one {co : List Nat} (h : co.Nodup) {p q n : Nat} (hp : co[p]? = some n) (hq : co[q]? = some n) : p = q := by
  obtain ⟨h1, h2⟩ := List.getElem?_eq_some_iff.1 hp
  obtain ⟨h3, h4⟩ := List.getElem?_eq_some_iff.1 hq
  have hp := List.pairwise_iff_getElem.1 h
  rcases Nat.lt_trichotomy p q with hl | hl | hl
  · exact absurd (h2.trans h4.symm) (hp p q h1 h3 hl)
  · exact hl
  · exact absurd (h4.trans h2.symm) (hp q p h3 h1 hl)
/-- Behind a right schedule. -/
structure Fin (ts : List Tx) (S : SS) (b : Nat → Nat) : Prop extends SsI ts S b where
  hist : histB ts = true
  all : ∀ n, (txAt ts n).2.2 = true → n ∈ S.co
  own : badN ts 4 = 0
section
variable {ts : List Tx} {S : SS} {b : Nat → Nat} (h : Fin ts S b)
include h
theorem Fin.nd : (wl (allOps ts)).Nodup := (histB_parts h.hist).2.2
theorem Fin.pos {n : Nat} {t : Tx} (ht : ts[n]? = some t) {o : T3} (ho : o ∈ t.2.1) : opB o = true := by
  obtain ⟨j, hj, e⟩ := List.mem_iff_getElem.1 ho
  exact txnB_opH ((histB_parts h.hist).2.1 t (List.mem_of_getElem? ht)) (k := j) (by rw [← e]; exact List.getElem?_eq_getElem hj)
theorem Fin.wpos {key : Int} {v : Int} {n : Nat} (hw : IsW ts key v n) : 0 < v ∧ 0 ≤ key ∧ key ≤ 2 := by
  obtain ⟨t, ht, hm⟩ := hw
  have := h.pos ht hm
  unfold opB at this
  simp only [Bool.and_eq_true, Bool.or_eq_true, inB_iff, decide_eq_true_eq, beq_iff_eq] at this
  obtain ⟨_, h2, _, h3⟩ := this
  refine ⟨?_, h2⟩
  rcases h3 with h3 | h3
  · omega
  · exact h3
theorem Fin.orders : ordersB ts (ordL ts S.co) = true := by
  refine ordersB_mk h.hist rfl (fun key hk => ?_)
  rw [ordL_get hk]
  have hn : (ordK ts S.co key).Nodup := by
    refine List.pairwise_iff_getElem.2 ?_
    intro i j hi hj hij he
    have e1 := List.getElem?_eq_getElem hi
    have e2 := List.getElem?_eq_getElem hj
    obtain ⟨p, n, p1, p2, p3⟩ := ordK_from e1
    obtain ⟨q, m, q1, q2, q3⟩ := ordK_from e2
    rw [← he] at q2
    obtain rfl := (wV_isW p2).one h.nd (wV_isW q2)
    obtain rfl := co_one h.cnd p1 q1
    omega
  refine (List.perm_ext_iff_of_nodup hn (inst_nodup h.nd _)).2 (fun v => ?_)
  rw [mem_inst]
  constructor
  · intro hv
    obtain ⟨i, hi, e⟩ := List.mem_iff_getElem.1 hv
    obtain ⟨p, n, p1, p2, p3⟩ := ordK_from (List.getElem?_eq_getElem hi)
    rw [e] at p2
    have hd := h.bgd n (h.cod n (List.mem_of_getElem? p1))
    have hlt := done_lt hd
    have ht : ts[n]? = some (ts[n]'hlt) := List.getElem?_eq_getElem _
    refine ⟨n, _, ht, ?_, ?_⟩
    · rw [← txAt_get ht]; exact hd
    · rw [← txAt_get ht]; exact wV_lastK p2
  · rintro ⟨n, t, ht, hd, hl⟩
    have hm := h.all n (by rw [txAt_get ht]; exact hd)
    unfold ordK
    rw [List.mem_filterMap]
    refine ⟨n, hm, ?_⟩
    unfold wV
    rw [txAt_get ht, hl]; rfl
/-- A value that was seen at the beginning of n comes from a commit ahead of it. -/
theorem Fin.seen {n : Nat} (hn : n ∈ S.bg) {o : T3} (ho : o ∈ firstR (txAt ts n).2.1) (h0 : o.2.2 ≠ 0) : ∃ p m, p < b n ∧ S.co[p]? = some m ∧ wV ts m o.2.1.toNat = some o.2.2 ∧ cntW ts (S.co.take (b n)) o.2.1.toNat = cntW ts (S.co.take p) o.2.1.toNat + 1 := by
  have hr := h.reads n hn o ho
  rcases lastV_from (ts := ts) (co := S.co) (key := o.2.1.toNat) (b n) (h.ble n hn) with ⟨h1, _⟩ | ⟨p, m, v, h1, h2, h3, h4, h5⟩
  · exact absurd (hr.trans h1) h0
  · exact ⟨p, m, h1, h2, by rw [h3, hr, h4], h5⟩
theorem Fin.keyF {n : Nat} (hn : n ∈ S.bg) {o : T3} (ho : o ∈ firstR (txAt ts n).2.1) : ∃ k : Nat, k < 3 ∧ o.2.1 = k := by
  obtain ⟨i, hi, _⟩ := mem_firstR.1 ho
  have hlt := done_lt (h.bgd n hn)
  have ht : ts[n]? = some (ts[n]'hlt) := List.getElem?_eq_getElem _
  rw [txAt_get ht] at hi
  have := h.pos ht (List.mem_of_getElem? hi)
  unfold opB at this
  simp only [Bool.and_eq_true, inB_iff] at this
  exact ⟨o.2.1.toNat, by omega, by omega⟩
/-- A flow: its source is committed ahead of the beginning of where it goes. -/
def Flow (S : SS) (b : Nat → Nat) (i j : Int) : Prop := ∃ (p m n : Nat), i = m ∧ j = n ∧ S.co[p]? = some m ∧ n ∈ S.co ∧ p < b n
omit h in
theorem put_get {ts : List Tx} {f t : Int} (h : PutP ts f t) : ∃ a b : Nat, f = a ∧ t = b ∧ (txAt ts a).2.2 = true ∧ (txAt ts b).2.2 = true := by
  obtain ⟨a, b, p, q, h1, h2, _, h3, h4, h5, h6⟩ := h
  exact ⟨a, b, h1, h2, by rw [txAt_get h3]; exact h5, by rw [txAt_get h4]; exact h6⟩
theorem Fin.flow1 {e : T3} (he : SeenW ts (ordL ts S.co) 3 0 e) : Flow S b e.1 e.2.1 := by
  obtain ⟨key, j, v, v', hk, h1, h2, h3, h4⟩ := he
  have hk3 : key < 3 := by omega
  rw [ordL_get hk3] at h1 h2
  obtain ⟨p, n, p1, p2, p3⟩ := ordK_from h1
  obtain ⟨q, m, q1, q2, q3⟩ := ordK_from h2
  refine ⟨p, n, m, ?_, ?_, p1, List.mem_of_getElem? q1, ?_⟩
  · rw [h3]; exact writerV_is h.nd (wV_isW p2)
  · rw [h3]; exact writerV_is h.nd (wV_isW q2)
  · obtain ⟨_, hc⟩ := h.coms q m q1
    have hc := hc key hk3 (by rw [q2]; rfl)
    rcases Nat.lt_or_ge p (b m) with hlt | hge
    · exact hlt
    · have := cntW_take_le ts S.co key hge
      omega
theorem Fin.flow2 {n : Nat} {t : Tx} {o e : T3} (ht : ts[n]? = some t) (hd : t.2.2 = true) (ho : o ∈ firstR t.2.1) (he : EdR ts n o e) : Flow S b e.1 e.2.1 := by
  obtain ⟨h1, h2⟩ := he
  obtain ⟨a, c, ha, hc, _, _⟩ := put_get h2
  rw [h1] at ha hc
  dsimp only at ha hc
  have hn : n ∈ S.co := h.all n (by rw [txAt_get ht]; exact hd)
  have hnb := h.cod n hn
  have hw : IsW ts o.2.1 o.2.2 a := by
    cases e1 : writerN ts o.2.1 o.2.2 with
    | none => unfold writerV at ha; rw [e1] at ha; simp only [] at ha; omega
    | some a' => unfold writerV at ha; rw [e1] at ha; simp only [] at ha; obtain rfl : a' = a := by omega
                 exact writerN_some e1
  have ho' : o ∈ firstR (txAt ts n).2.1 := by rw [txAt_get ht]; exact ho
  obtain ⟨p, m, s1, s2, s3, _⟩ := h.seen hnb ho' (by have := (h.wpos hw).1; omega)
  obtain ⟨k, hk, ek⟩ := h.keyF hnb ho'
  rw [ek, Int.toNat_natCast] at s3
  have hw' : IsW ts (k : Int) o.2.2 a := by rw [← ek]; exact hw
  obtain rfl := (wV_isW s3).one h.nd hw'
  exact ⟨p, m, n, by rw [h1]; exact ha, by rw [h1], s2, hn, s1⟩
theorem Fin.flow {i j : Int} {m : Int} (hm : m ≤ 2) (he : Ed (edgesL ts (ordL ts S.co)) m i j) : Flow S b i j := by
  obtain ⟨k, h1, h2⟩ := he
  rcases (mem_edgesL.1 h1).2 with hw | ⟨n, i', t, o, _, ht, hd, ho, hr | ⟨⟨v', _, hv⟩, _⟩⟩
  · exact h.flow1 hw
  · exact h.flow2 ht hd (List.mem_of_getElem? ho) hr
  · injection hv with _ hv; injection hv with _ hv; omega
theorem Fin.way {i j : Int} {m : Int} (hm : m ≤ 2) (hw : Way (Ed (edgesL ts (ordL ts S.co)) m) i j) : Flow S b i j := by
  induction hw with
  | one he => exact h.flow hm he
  | cons he _ ih =>
    obtain ⟨p, m1, n1, rfl, rfl, a1, a2, a3⟩ := h.flow hm he
    obtain ⟨q, m2, n2, e1, rfl, c1, c2, c3⟩ := ih
    obtain rfl : n1 = m2 := by omega
    exact ⟨p, m1, n2, rfl, rfl, a1, c2, by have := (h.coms q n1 c1).1; omega⟩
theorem Fin.over {i j : Int} (he : (i, j, (3 : Int)) ∈ edgesL ts (ordL ts S.co)) : ∃ (q m n : Nat), i = n ∧ j = m ∧ S.co[q]? = some m ∧ b n ≤ q := by
  rcases (mem_edgesL.1 he).2 with ⟨_, _, _, _, _, _, _, hw, _⟩ | ⟨n, i', t, o, _, ht, hd, ho, ⟨hr, _⟩ | ⟨⟨v', hv, he⟩, _⟩⟩
  · injection hw with _ hw; injection hw with _ hw; omega
  · injection hr with _ hr; injection hr with _ hr; omega
  · injection he with e1 he; injection he with e2 _
    have hn : n ∈ S.co := h.all n (by rw [txAt_get ht]; exact hd)
    have hnb := h.cod n hn
    have ho' : o ∈ firstR (txAt ts n).2.1 := by rw [txAt_get ht]; exact List.mem_of_getElem? ho
    obtain ⟨k, hk, ek⟩ := h.keyF hnb ho'
    rw [ek, Int.toNat_natCast, ordL_get hk] at hv
    unfold nextV at hv
    split at hv
    · rename_i h0
      obtain ⟨q, m, q1, q2, q3⟩ := ordK_from hv
      refine ⟨q, m, n, e1, ?_, q1, ?_⟩
      · rw [e2, ek]; exact writerV_is h.nd (wV_isW q2)
      · have hr := h.reads n hnb o ho'
        rw [ek, Int.toNat_natCast, h0] at hr
        rcases lastV_from (ts := ts) (co := S.co) (key := k) (b n) (h.ble n hnb) with ⟨_, h1⟩ | ⟨p, m', v, _, _, h3, h4, _⟩
        · rcases Nat.lt_or_ge q (b n) with hlt | hge
          · have g1 := cntW_take_le ts S.co k (show q + 1 ≤ b n by omega)
            rw [cntW_take_succ q1, q2] at g1
            simp at g1; omega
          · exact hge
        · have := (h.wpos (wV_isW h3)).1
          omega
    · rename_i h0
      cases hi : (ordK ts S.co k).idxOf? o.2.2 with
      | none => rw [hi] at hv; cases hv
      | some i0 =>
        rw [hi] at hv
        have hv' : (ordK ts S.co k)[i0 + 1]? = some v' := hv
        have hi' : (ordK ts S.co k)[i0]? = some o.2.2 := by
          unfold List.idxOf? at hi
          rw [List.findIdx?_eq_some_iff_getElem] at hi
          obtain ⟨g1, g2, _⟩ := hi
          rw [List.getElem?_eq_getElem g1]
          simpa using g2
        obtain ⟨p, a, p1, p2, p3⟩ := ordK_from hi'
        obtain ⟨q, m, q1, q2, q3⟩ := ordK_from hv'
        refine ⟨q, m, n, e1, ?_, q1, ?_⟩
        · rw [e2, ek]; exact writerV_is h.nd (wV_isW q2)
        · obtain ⟨p', m', s1, s2, s3, s4⟩ := h.seen hnb ho' h0
          rw [ek, Int.toNat_natCast] at s3 s4
          obtain rfl := (wV_isW s3).one h.nd (wV_isW p2)
          obtain rfl := co_one h.cnd s2 p1
          rcases Nat.lt_or_ge q (b n) with hlt | hge
          · have g1 := cntW_take_le ts S.co k (show q + 1 ≤ b n by omega)
            rw [cntW_take_succ q1, q2] at g1
            simp at g1; omega
          · exact hge
theorem Fin.anom {kind : Nat} (hk : kind ≤ 3) : anomB (edgesL ts (ordL ts S.co)) kind = false := by
  refine cd_no ?_
  have cyc : ∀ (m i : Int), m ≤ 2 → ¬ Way (Ed (edgesL ts (ordL ts S.co)) m) i i := fun m i hm hw => by
    obtain ⟨p, a, c, e1, e2, h1, h2, h3⟩ := h.way hm hw
    obtain rfl : a = c := by omega
    have := (h.coms p a h1).1
    omega
  rintro (⟨_, i, hw⟩ | ⟨_, i, hw⟩ | ⟨_, i, j, he, hw⟩ | ⟨e, _⟩)
  · exact cyc 1 i (by omega) hw
  · exact cyc 2 i (by omega) hw
  · obtain ⟨q, m, n, e1, e2, h1, h2⟩ := h.over he
    obtain ⟨p, a, c, e3, e4, h3, h4, h5⟩ := h.way (m := 2) (by omega) hw
    obtain rfl : m = a := by omega
    obtain rfl : n = c := by omega
    obtain rfl := co_one h.cnd h1 h3
    omega
  · omega
/-- Nothing is read against what was done by oneself. -/
theorem Fin.ownOk {n : Nat} {t : Tx} (ht : ts[n]? = some t) (hd : t.2.2 = true) {j : Nat} {o p : T3} (ho : t.2.1[j]? = some o) (h1 : o.1 = 1) (hp : lastO (t.2.1.take j) o.2.1 = some p) : p.2.2 = o.2.2 := by
  apply Classical.byContradiction
  intro hne
  have hb : (if (4 : Int) = 4 then ownBad t.2.1 j o else decide (badK ts n o = 4)) = true := by
    rw [if_pos rfl]; unfold ownBad; rw [hp]; simp [h1, hne]
  have g1 := badTo_yes (ts := ts) (kind := 4) (who := n) ho hb
  have mono : ∀ j' k', j' ≤ k' → badTo ts 4 n t.2.1 j' ≤ badTo ts 4 n t.2.1 k' := by
    intro j' k' hjk
    induction k' with
    | zero => obtain rfl : j' = 0 := by omega
              exact Nat.le_refl _
    | succ k' ih =>
      by_cases e : j' = k' + 1
      · subst e; exact Nat.le_refl _
      · exact Nat.le_trans (ih (by omega)) (Nat.le_add_right _ _)
  have g2 := mono (j + 1) t.2.1.length (List.getElem?_eq_some_iff.1 ho).1
  have g3 := badAt_done (ts := ts) (kind := 4) ht hd
  have mono2 : ∀ j' k', j' ≤ k' → badAt ts 4 j' ≤ badAt ts 4 k' := by
    intro j' k' hjk
    induction k' with
    | zero => obtain rfl : j' = 0 := by omega
              exact Nat.le_refl _
    | succ k' ih =>
      by_cases e : j' = k' + 1
      · subst e; exact Nat.le_refl _
      · exact Nat.le_trans (ih (by omega)) (Nat.le_add_right _ _)
  have g4 := mono2 (n + 1) ts.length (List.getElem?_eq_some_iff.1 ht).1
  have g5 := h.own
  unfold badN at g5
  rw [if_pos ⟨h.hist, by omega, by omega⟩] at g5
  omega
omit h in
theorem lastO_place {ys : List T3} {key : Int} {p : T3} (hl : lastO ys key = some p) : ∃ i, ys[i]? = some p ∧ p.2.1 = key ∧ i < ys.length := by
  obtain ⟨h1, h2⟩ := lastO_some hl
  obtain ⟨i, hi, e⟩ := List.mem_iff_getElem.1 h1
  exact ⟨i, by rw [← e]; exact List.getElem?_eq_getElem hi, h2, hi⟩
/-- A read: of one's own write ahead of it, or as a first read. -/
theorem Fin.chain {n : Nat} {t : Tx} (ht : ts[n]? = some t) (hd : t.2.2 = true) : ∀ (j : Nat) (o : T3), t.2.1[j]? = some o → o.1 = 1 → (∃ i, i < j ∧ t.2.1[i]? = some (2, o.2.1, o.2.2)) ∨ o ∈ firstR t.2.1 := by
  intro j
  induction j using Nat.strongRecOn with
  | _ j ih =>
    intro o ho h1
    cases hl : lastO (t.2.1.take j) o.2.1 with
    | none => right; exact mem_firstR.2 ⟨j, ho, h1, hl⟩
    | some p =>
      have hv := h.ownOk ht hd ho h1 hl
      obtain ⟨i, hi, hk, hlt⟩ := lastO_place hl
      rw [List.length_take] at hlt
      have hij : i < j := by omega
      rw [List.getElem?_take_of_lt hij] at hi
      have hop := h.pos ht (List.mem_of_getElem? hi)
      unfold opB at hop
      simp only [Bool.and_eq_true, inB_iff] at hop
      have hk12 := hop.1
      by_cases e : p.1 = 2
      · left; refine ⟨i, hij, ?_⟩
        rw [hi, ← hk, ← hv, ← e]
      · have e1 : p.1 = 1 := by omega
        have hpo : p = o := by
          obtain ⟨a, c, d⟩ := p; obtain ⟨a', c', d'⟩ := o
          dsimp only at e1 hk hv h1
          subst e1; subst hk; subst hv; subst h1; rfl
        subst hpo
        rcases ih i hij p hi h1 with ⟨i', h2, h3⟩ | h2
        · left; exact ⟨i', by omega, h3⟩
        · right; exact h2
theorem Fin.right : rightB ts = true := by
  have hz : ∀ kind : Int, (kind = 1 ∨ kind = 2 ∨ kind = 3) → badN ts kind = 0 := by
    intro kind hkind
    have hk4 : kind ≠ 4 := by omega
    have hno : ∀ (n : Nat) (t : Tx), ts[n]? = some t → t.2.2 = true → ∀ j, badTo ts kind n t.2.1 j = 0 := by
      intro n t ht hd j
      induction j with
      | zero => rfl
      | succ j ih =>
        cases hj : t.2.1[j]? with
        | none =>
          show badTo ts kind n t.2.1 j + _ = 0
          rw [ih, hj]; rfl
        | some o =>
          rw [badTo_no hj, ih]
          rw [if_neg hk4, decide_eq_false_iff_not]
          have hn : n ∈ S.co := h.all n (by rw [txAt_get ht]; exact hd)
          have hnb := h.cod n hn
          have h0 : badK ts n o = 0 := by
            unfold badK
            split
            · rfl
            · rename_i hc
              rw [not_or, not_or] at hc
              obtain ⟨c1, c2, c3⟩ := hc
              have c1 : o.1 = 1 := Classical.not_not.1 c1
              rcases h.chain ht hd j o hj c1 with ⟨i, _, hi⟩ | hf
              · exact absurd (writerV_is h.nd ⟨t, ht, List.mem_of_getElem? hi⟩) c3
              · have hf' : o ∈ firstR (txAt ts n).2.1 := by rw [txAt_get ht]; exact hf
                obtain ⟨p, m, s1, s2, s3, _⟩ := h.seen hnb hf' c2
                obtain ⟨k, hk, ek⟩ := h.keyF hnb hf'
                rw [ek, Int.toNat_natCast] at s3
                have hw := writerN_is h.nd (wV_isW s3)
                rw [ek, hw]
                simp only []
                rw [if_pos (h.bgd m (h.cod m (List.mem_of_getElem? s2)))]
                have hl : lastB ts (k : Int) o.2.2 = true := by
                  unfold lastB; rw [hw]; simp only []; rw [wV_lastK s3]; simp
                rw [hl]; rfl
          rw [h0]; omega
    have hat : ∀ k, badAt ts kind k = 0 := by
      intro k
      induction k with
      | zero => rfl
      | succ k ih =>
        show badAt ts kind k + _ = 0
        rw [ih]
        split
        · rename_i hd
          have hlt := done_lt hd
          have ht : ts[k]? = some (ts[k]'hlt) := List.getElem?_eq_getElem _
          rw [txAt_get ht] at hd ⊢
          rw [hno k _ ht hd]
        · rfl
    unfold badN
    split
    · exact hat _
    · rfl
  unfold rightB
  rw [h.hist, hz 1 (by omega), hz 2 (by omega), hz 3 (by omega), h.own]
  simp only [decide_true, Bool.true_and, List.all_eq_true]
  intro t hm
  obtain ⟨n, hn, e⟩ := List.mem_iff_getElem.1 hm
  have ht : ts[n]? = some t := by rw [← e]; exact List.getElem?_eq_getElem hn
  cases hd : t.2.2
  · rfl
  · simp only [Bool.true_and, Bool.not_eq_true']
    cases he : earlyB t.2.1 with
    | false => rfl
    | true =>
      exfalso
      unfold earlyB at he
      rw [List.any_eq_true] at he
      obtain ⟨i, _, hi⟩ := he
      cases ho : t.2.1[i]? with
      | none => rw [ho] at hi; cases hi
      | some o =>
        rw [ho] at hi
        simp only [Bool.and_eq_true, decide_eq_true_eq, List.any_eq_true] at hi
        obtain ⟨h1, p, hp, hpe⟩ := hi
        obtain ⟨j, hj, ej⟩ := List.mem_iff_getElem.1 hp
        have hj2 : t.2.1[i + 1 + j]? = some (2, o.2.1, o.2.2) := by
          rw [← hpe, ← ej, ← List.getElem?_drop]; exact List.getElem?_eq_getElem hj
        have hw : IsW ts o.2.1 o.2.2 n := ⟨t, ht, List.mem_of_getElem? hj2⟩
        rcases h.chain ht hd i o ho h1 with ⟨i', hi', hi2⟩ | hf
        · have := (place_one h.nd ht hi2 ht hj2 rfl).2
          omega
        · have hn : n ∈ S.co := h.all n (by rw [txAt_get ht]; exact hd)
          have hnb := h.cod n hn
          have hf' : o ∈ firstR (txAt ts n).2.1 := by rw [txAt_get ht]; exact hf
          obtain ⟨q, m, s1, s2, s3, _⟩ := h.seen hnb hf' (by have := (h.wpos hw).1; omega)
          obtain ⟨k, hk, ek⟩ := h.keyF hnb hf'
          rw [ek, Int.toNat_natCast] at s3
          have hw' : IsW ts (k : Int) o.2.2 n := by rw [← ek]; exact hw
          obtain rfl := (wV_isW s3).one h.nd hw'
          have := (h.coms q m s2).1
          omega
theorem Fin.allows : allowB ts (ordL ts S.co) 3 = true := by
  have ha : anyTo (edgesL ts (ordL ts S.co)) 3 = false := by
    show ((((false || anomB _ 1) || anomB _ 2) || anomB _ 3) = false)
    rw [h.anom (by omega), h.anom (by omega), h.anom (by omega)]; rfl
  unfold allowB
  rw [ha, h.right]; rfl
end
/-- A right schedule, whole. -/
def rightS (ts : List Tx) (l : List Int) : Bool := histB ts && (decide (badN ts 4 = 0) && (decide (l.length = 2 * (doneL ts).length) && (runS ts ss0 l).isSome))
theorem nodup_len_le : ∀ {a b : List Nat}, a.Nodup → (∀ x ∈ a, x ∈ b) → a.length ≤ b.length
  | [], b, _, _ => Nat.zero_le _
  | x :: a, b, h, hs => by
    obtain ⟨h1, h2⟩ := List.nodup_cons.1 h
    have hx := hs x (by simp)
    have := nodup_len_le (a := a) (b := b.erase x) h2 (fun y hy => (List.mem_erase_of_ne (fun e => h1 (by rw [← e]; exact hy))).2 (hs y (by simp [hy])))
    rw [List.length_erase_of_mem hx] at this
    have := List.length_pos_of_mem hx
    rw [List.length_cons]; omega
theorem mem_of_len : ∀ {a b : List Nat}, a.Nodup → (∀ x ∈ a, x ∈ b) → b.length ≤ a.length → ∀ x ∈ b, x ∈ a := by
  intro a b h hs hl x hx
  apply Classical.byContradiction
  intro hn
  have h1 : (x :: a).Nodup := List.nodup_cons.2 ⟨hn, h⟩
  have := nodup_len_le h1 (b := b) (fun y hy => by
    rcases List.mem_cons.1 hy with rfl | hy
    · exact hx
    · exact hs y hy)
  rw [List.length_cons] at this; omega
theorem mem_doneTo {ts : List Tx} {x : Int} : ∀ k, x ∈ doneTo ts k ↔ ∃ n : Nat, n < k ∧ x = n ∧ (txAt ts n).2.2 = true := by
  intro k
  induction k with
  | zero => simp [doneTo]
  | succ k ih =>
    have hs : doneTo ts (k + 1) = doneTo ts k ++ (if (txAt ts k).2.2 then [(k : Int)] else []) := rfl
    rw [hs, List.mem_append, ih]
    constructor
    · rintro (⟨n, h1, h2⟩ | h)
      · exact ⟨n, by omega, h2⟩
      · split at h
        · rename_i hd; simp at h; exact ⟨k, by omega, h, hd⟩
        · simp at h
    · rintro ⟨n, h1, rfl, hd⟩
      by_cases e : n = k
      · subst e; right; rw [if_pos hd]; simp
      · left; exact ⟨n, by omega, rfl, hd⟩
theorem mem_doneL {ts : List Tx} {n : Nat} : (n : Int) ∈ doneL ts ↔ (txAt ts n).2.2 = true := by
  unfold doneL
  rw [mem_doneTo]
  constructor
  · rintro ⟨m, _, e, hd⟩; obtain rfl : n = m := by omega
    exact hd
  · intro hd; exact ⟨n, done_lt hd, rfl, hd⟩
theorem right_fin {ts : List Tx} {l : List Int} {S : SS} (h : rightS ts l = true) (hr : runS ts ss0 l = some S) : ∃ b, Fin ts S b := by
  unfold rightS at h
  simp only [Bool.and_eq_true, decide_eq_true_eq] at h
  obtain ⟨h1, h2, h3, h4⟩ := h
  obtain ⟨p1, p2, p3⟩ := histB_parts h1
  obtain ⟨⟨b, hI⟩, hl⟩ := SsI.run p1 p2 l ss0 S (fun _ => 0) (SsI.zero ts _) hr
  have hl : S.bg.length + S.co.length = l.length := by rw [hl]; simp [ss0]
  refine ⟨b, { hI with hist := h1, own := h2, all := ?_ }⟩
  have hd : (doneL ts).map Int.toNat = (doneL ts).map Int.toNat := rfl
  have hin : ∀ n ∈ S.bg, n ∈ (doneL ts).map Int.toNat := fun n hn => by
    rw [List.mem_map]; exact ⟨(n : Int), mem_doneL.2 (hI.bgd n hn), by simp⟩
  have l1 := nodup_len_le hI.bnd hin
  have l2 := nodup_len_le hI.cnd hI.cod
  rw [List.length_map] at l1
  intro n hn
  refine mem_of_len hI.cnd (b := (doneL ts).map Int.toNat) (fun x hx => hin x (hI.cod x hx)) (by rw [List.length_map]; omega) n ?_
  rw [List.mem_map]; exact ⟨(n : Int), mem_doneL.2 hn, by simp⟩
/-- The order of the commits of a schedule. -/
def commitL (ts : List Tx) (l : List Int) : List (List Int) := match runS ts ss0 l with | some S => ordL ts S.co | none => [[], [], []]
theorem right_law {ts : List Tx} {l : List Int} (h : rightS ts l = true) : ordersB ts (commitL ts l) = true ∧ allowB ts (commitL ts l) 3 = true := by
  have h' := h
  unfold rightS at h'
  simp only [Bool.and_eq_true, decide_eq_true_eq] at h'
  cases hr : runS ts ss0 l with
  | none => rw [hr] at h'; exact absurd h'.2.2.2 (by simp)
  | some S =>
    obtain ⟨b, hF⟩ := right_fin h hr
    unfold commitL; rw [hr]
    exact ⟨hF.orders, hF.allows⟩
end Go.Proofs.YtcfkemchekmjbaaGreatDoor

namespace Go.Proofs.YtcfkemchekmjbaaGreatDoor
open Go.RowKit
/-- Reached over the first k nodes. -/
def WK (R : Nat → Nat → Prop) : Nat → Nat → Nat → Prop
  | 0, i, j => R i j
  | k + 1, i, j => WK R k i j ∨ (WK R k i k ∧ WK R k k j)
theorem WK.way {R : Nat → Nat → Prop} : ∀ (k i j : Nat), WK R k i j → Way R i j
  | 0, _, _, h => .one h
  | k + 1, i, j, h => by
    rcases h with h | ⟨h, g⟩
    · exact WK.way k i j h
    · exact (WK.way k i k h).trans (WK.way k k j g)
theorem WK.to {R : Nat → Nat → Prop} {k i : Nat} : WK R (k + 1) i k ↔ WK R k i k := ⟨fun h => h.elim id (fun h => h.1), .inl⟩
theorem WK.from {R : Nat → Nat → Prop} {k j : Nat} : WK R (k + 1) k j ↔ WK R k k j := ⟨fun h => h.elim id (fun h => h.2), .inl⟩
theorem WK.trans {R : Nat → Nat → Prop} : ∀ (k m i j : Nat), m < k → WK R k i m → WK R k m j → WK R k i j
  | 0, m, i, j, hm, _, _ => by omega
  | k + 1, m, i, j, hm, h, g => by
    by_cases e : m = k
    · subst e
      exact .inr ⟨WK.to.1 h, WK.from.1 g⟩
    · have hm' : m < k := by omega
      rcases h with h | ⟨h1, h2⟩
      · rcases g with g | ⟨g1, g2⟩
        · exact .inl (WK.trans k m i j hm' h g)
        · exact .inr ⟨WK.trans k m i k hm' h g1, g2⟩
      · rcases g with g | ⟨g1, g2⟩
        · exact .inr ⟨h1, WK.trans k m k j hm' h2 g⟩
        · exact .inr ⟨h1, g2⟩
theorem WK.base {R : Nat → Nat → Prop} : ∀ (k i j : Nat), R i j → WK R k i j
  | 0, _, _, h => h
  | k + 1, i, j, h => .inl (WK.base k i j h)
theorem WK.of_way {R : Nat → Nat → Prop} {n : Nat} (hR : ∀ i j, R i j → j < n) {i j : Nat} (h : Way R i j) : WK R n i j := by
  induction h with
  | one h => exact WK.base _ _ _ h
  | cons h _ ih => exact WK.trans n _ _ _ (hR _ _ h) (WK.base _ _ _ h) ih
/-- A matrix of bits that is a relation. -/
def MatOf (ms : List Nat) (R : Nat → Nat → Prop) : Prop := ms.length = 6 ∧ (∀ x ∈ ms, x < 64) ∧ ∀ i j, i < 6 → j < 6 → ((ms.getD i 0).testBit j = true ↔ R i j)
theorem MatOf.lt {ms : List Nat} {R : Nat → Nat → Prop} (h : MatOf ms R) (i : Nat) : ms.getD i 0 < 64 := by
  rw [List.getD_eq_getElem?_getD]
  cases e : ms[i]? with
  | none => simp
  | some x => exact h.2.1 x (List.mem_of_getElem? e)
theorem MatOf.get {ms : List Nat} {R : Nat → Nat → Prop} (h : MatOf ms R) {i : Nat} (hi : i < 6) : ms[i]? = some (ms.getD i 0) := by
  have hl : i < ms.length := by rw [h.1]; exact hi
  rw [List.getD_eq_getElem?_getD, List.getElem?_eq_getElem hl]; rfl
theorem MatOf.congr {ms : List Nat} {R S : Nat → Nat → Prop} (h : MatOf ms R) (hs : ∀ i j, i < 6 → j < 6 → (R i j ↔ S i j)) : MatOf ms S :=
  ⟨h.1, h.2.1, fun i j hi hj => (h.2.2 i j hi hj).trans (hs i j hi hj)⟩
theorem getD_setN (xs : List Nat) (i j v : Nat) (hi : i < xs.length) : (xs.set i v).getD j 0 = if i = j then v else xs.getD j 0 := by
  simp only [List.getD_eq_getElem?_getD]
  by_cases e : i = j
  · subst e; rw [if_pos rfl, List.getElem?_set_self hi]; rfl
  · rw [if_neg e, List.getElem?_set_ne e]
theorem or64 {a b : Nat} (ha : a < 64) (hb : b < 64) : a ||| b < 64 := Nat.or_lt_two_pow (n := 6) ha hb
theorem MatOf.or {ms : List Nat} {R : Nat → Nat → Prop} (h : MatOf ms R) {i x : Nat} (hi : i < 6) (hx : x < 64) (Q : Nat → Prop) (hq : ∀ j, j < 6 → (x.testBit j = true ↔ Q j)) :
    MatOf (ms.set i (ms.getD i 0 ||| x)) (fun a b => R a b ∨ (a = i ∧ Q b)) := by
  refine ⟨by rw [List.length_set]; exact h.1, fun y hy => ?_, fun a b ha hb => ?_⟩
  · rcases List.mem_or_eq_of_mem_set hy with hy | rfl
    · exact h.2.1 y hy
    · exact or64 (h.lt i) hx
  · rw [getD_setN _ _ _ _ (by rw [h.1]; exact hi)]
    by_cases e : i = a
    · subst e
      rw [if_pos rfl, Nat.testBit_or, Bool.or_eq_true, h.2.2 i b hi hb, hq b hb]
      constructor
      · rintro (x | x)
        · exact .inl x
        · exact .inr ⟨rfl, x⟩
      · rintro (x | ⟨_, x⟩)
        · exact .inl x
        · exact .inr x
    · rw [if_neg e, h.2.2 a b ha hb]
      constructor
      · exact .inl
      · rintro (x | ⟨x, _⟩)
        · exact x
        · exact absurd x.symm e
/-- In the middle of a round. -/
def WM (R : Nat → Nat → Prop) (k i : Nat) (a b : Nat) : Prop := if a < i then WK R (k + 1) a b else WK R k a b
theorem MatOf.hit {ms : List Nat} {R : Nat → Nat → Prop} {k i : Nat} (h : MatOf ms (WM R k i)) (hk : k < 6) (hi : i < 6) (hb : (ms.getD i 0).testBit k = true) : MatOf (ms.set i (ms.getD i 0 ||| ms.getD k 0)) (WM R k (i + 1)) := by
  have h1 : WK R k i k := by have := (h.2.2 i k hi hk).1 hb; unfold WM at this; rw [if_neg (by omega)] at this; exact this
  refine (h.or hi (h.lt k) (fun j => WK R k k j) (fun j hj => ?_)).congr (fun a b ha hb => ?_)
  · rw [h.2.2 k j hk hj]
    unfold WM
    by_cases e : k < i
    · rw [if_pos e]; exact WK.from
    · rw [if_neg e]
  · unfold WM
    by_cases e : a = i
    · subst e
      rw [if_neg (by omega), if_pos (by omega)]
      constructor
      · rintro (x | ⟨_, x⟩)
        · exact .inl x
        · exact .inr ⟨h1, x⟩
      · rintro (x | ⟨_, x⟩)
        · exact .inl x
        · exact .inr ⟨rfl, x⟩
    · by_cases e2 : a < i
      · rw [if_pos e2, if_pos (by omega)]
        exact ⟨fun x => x.elim id (fun x => absurd x.1 e), .inl⟩
      · rw [if_neg e2, if_neg (by omega)]
        exact ⟨fun x => x.elim id (fun x => absurd x.1 e), .inl⟩
theorem MatOf.miss {ms : List Nat} {R : Nat → Nat → Prop} {k i : Nat} (h : MatOf ms (WM R k i)) (hk : k < 6) (hi : i < 6) (hb : (ms.getD i 0).testBit k = false) : MatOf ms (WM R k (i + 1)) := by
  have h1 : ¬ WK R k i k := fun hw => by
    have := (h.2.2 i k hi hk).2 (by unfold WM; rw [if_neg (by omega)]; exact hw)
    rw [hb] at this; cases this
  refine h.congr (fun a b ha hb => ?_)
  unfold WM
  by_cases e : a = i
  · subst e
    rw [if_neg (by omega), if_pos (by omega)]
    constructor
    · exact .inl
    · rintro (x | ⟨x, _⟩)
      · exact x
      · exact absurd x h1
  · by_cases e2 : a < i
    · rw [if_pos e2, if_pos (by omega)]
    · rw [if_neg e2, if_neg (by omega)]
theorem MatOf.start {ms : List Nat} {R : Nat → Nat → Prop} {k : Nat} (h : MatOf ms (WK R k)) : MatOf ms (WM R k 0) := h.congr fun a b _ _ => by unfold WM; rw [if_neg (by omega)]
theorem MatOf.end_ {ms : List Nat} {R : Nat → Nat → Prop} {k : Nat} (h : MatOf ms (WM R k 6)) : MatOf ms (WK R (k + 1)) := h.congr fun a b ha _ => by unfold WM; rw [if_pos ha]
theorem MatOf.zero : MatOf [0, 0, 0, 0, 0, 0] (fun _ _ => False) := ⟨rfl, fun x hx => by simp at hx; omega, fun i j hi _ => by
  have : ([0, 0, 0, 0, 0, 0] : List Nat).getD i 0 = 0 := by
    match i, hi with
    | 0, _ => rfl
    | 1, _ => rfl
    | 2, _ => rfl
    | 3, _ => rfl
    | 4, _ => rfl
    | 5, _ => rfl
  rw [this]; simp⟩
theorem bit_and {g m : Nat} (h1 : g < 64) : (bits .and .u64 ((g : Int) / 2 ^ m) 1 == 1) = g.testBit m := by
  have e : ((g : Int) / 2 ^ m) = ((g / 2 ^ m : Nat) : Int) := by
    rw [Int.natCast_ediv]; congr 1
  have hq : g / 2 ^ m ≤ g := Nat.div_le_self _ _
  rw [e, show (1 : Int) = ((1 : Nat) : Int) from rfl, u64_and_nat _ _ (by omega) (by omega)]
  rw [Nat.and_one_is_mod, Nat.testBit_eq_decide_div_mod_eq, Bool.eq_iff_iff]
  simp
  omega
theorem bit_or {a b : Nat} (ha : a < 64) (hb : b < 64) : bits .or .u64 (a : Int) (b : Int) = ((a ||| b : Nat) : Int) := u64_or_nat a b (by omega) (by omega)
theorem pow64 {m : Nat} (hm : m < 6) : 2 ^ m < 64 := Nat.pow_lt_pow_right (by omega) hm
theorem wrap_pow {m : Nat} (hm : m < 6) : IntKind.u64.wrap (2 ^ m) = ((2 ^ m : Nat) : Int) := by
  match m, hm with
  | 0, _ => rfl
  | 1, _ => rfl
  | 2, _ => rfl
  | 3, _ => rfl
  | 4, _ => rfl
  | 5, _ => rfl
/-- The matrix as a value. -/
def matV (ms : List Nat) : Array Value := (ms.map fun (x : Nat) => Value.int .u64 (x : Int)).toArray
theorem matV_get {ms : List Nat} {i x : Nat} (h : ms[i]? = some x) : (matV ms)[i]? = some (.int .u64 (x : Int)) := by unfold matV; simp [h]
theorem matV_set (ms : List Nat) (i x : Nat) : (matV ms).setIfInBounds i (.int .u64 (x : Int)) = matV (ms.set i x) := by
  unfold matV; simp [List.map_set]
theorem six_of {l : List Nat} (h : l.length = 6) : ∃ a b c d e f, l = [a, b, c, d, e, f] := by
  match l, h with
  | [a, b, c, d, e, f], _ => exact ⟨a, b, c, d, e, f, rfl⟩
/-- Edges between nodes, as a relation of numbers. -/
def Nd (es : List T3) (m : Int) (i j : Nat) : Prop := Ed es m (i : Int) (j : Int)
theorem Way.nat {es : List T3} {m : Int} (h6 : ∀ e ∈ es, (0 ≤ e.1 ∧ e.1 < 6) ∧ (0 ≤ e.2.1 ∧ e.2.1 < 6)) {x y : Int} (h : Way (Ed es m) x y) : ∃ i j : Nat, x = i ∧ y = j ∧ i < 6 ∧ j < 6 ∧ Way (Nd es m) i j := by
  induction h with
  | @one i j h =>
    obtain ⟨k, h1, h2⟩ := h
    have := h6 _ h1
    dsimp only at this
    refine ⟨i.toNat, j.toNat, by omega, by omega, by omega, by omega, .one ⟨k, ?_, h2⟩⟩
    rw [show ((i.toNat : Nat) : Int) = i by omega, show ((j.toNat : Nat) : Int) = j by omega]; exact h1
  | @cons i j l h _ ih =>
    obtain ⟨k, h1, h2⟩ := h
    have := h6 _ h1
    dsimp only at this
    obtain ⟨a, b, rfl, rfl, ha, hb, hw⟩ := ih
    refine ⟨i.toNat, b, by omega, rfl, by omega, hb, .cons ⟨k, ?_, h2⟩ hw⟩
    rw [show ((i.toNat : Nat) : Int) = i by omega]; exact h1
theorem Way.int {es : List T3} {m : Int} {i j : Nat} (h : Way (Nd es m) i j) : Way (Ed es m) i j := by
  induction h with
  | one h => exact .one h
  | cons h _ ih => exact .cons h ih
theorem WK.ed {es : List T3} {m : Int} (h6 : ∀ e ∈ es, (0 ≤ e.1 ∧ e.1 < 6) ∧ (0 ≤ e.2.1 ∧ e.2.1 < 6)) {i j : Nat} : WK (Nd es m) 6 i j ↔ Way (Ed es m) (i : Int) (j : Int) := by
  constructor
  · intro h; exact (WK.way _ _ _ h).int
  · intro h
    obtain ⟨a, b, ha, hb, _, _, hw⟩ := h.nat h6
    obtain rfl : i = a := by omega
    obtain rfl : j = b := by omega
    refine WK.of_way (fun a b hab => ?_) hw
    obtain ⟨k, h1, _⟩ := hab
    have := h6 _ h1
    dsimp only at this; omega
end Go.Proofs.YtcfkemchekmjbaaGreatDoor
