/- Merged (what the law reaches): Lal, DirtyP, RsP, RsQ, RsR. -/
import Derived.Test.YtcfkemchekmjbaaGreatDoorQzi
namespace Go.Proofs.YtcfkemchekmjbaaGreatDoor
open Go.RowKit
theorem edgesL_edgesB {ts : List Tx} {os : Ls} {n : Nat} (hn : ts.length = n) (h6 : n ≤ 6) : edgesB (n : Int) (edgesL ts os) = true := by
  have hlen : (edgesL ts os).length ≤ 144 := by
    cases h : ordersB ts os
    · rw [edgesL_no h]; simp
    · rw [edgesL_yes h]; exact canonL_len _
  have hall : (edgesL ts os).all (edgeB ((n : Int) - 1)) = true := by
    rw [List.all_eq_true]
    intro e he
    obtain ⟨_, h⟩ := mem_edgesL.1 he
    obtain ⟨h1, h2, h3⟩ := h.put
    obtain ⟨⟨a, b⟩, ⟨c, d⟩, g⟩ := h1.range
    unfold edgeB
    simp only [Bool.and_eq_true, inB_iff, Bool.not_eq_true', beq_eq_false_iff_ne]
    exact ⟨⟨a, by omega⟩, ⟨c, by omega⟩, g, h2, by omega⟩
  unfold edgesB
  rw [hall, (inB_iff _ _ _).2 ⟨by omega, by omega⟩, decide_eq_true hlen]; rfl
set_option maxRecDepth 100000 in
set_option maxHeartbeats 4000000 in
theorem LevelAllows_c {A Ao : Option Addr} {n c no co lv : Nat} {ts : List Tx} {os : Ls} {w : World} (hr : RTs w A n ts) (hh : histB ts = true) (ho : RL w Ao no os) (hno : no ≤ co) (h4 : lv ≤ 4) :
    Calls Tryz.prog 15 #[.slice A n c, .slice Ao no co, .int .i64 (lv : Int)] w fun e w' => e = .returned (.bool (ordersB ts os && allowB ts os lv)) ∧ Below w.heap.size w w' := by
  have h6 : n ≤ 6 := by rw [← hr.1]; exact (histB_parts hh).1
  have HE := hide (edgesL_edgesB (os := os) hr.1 h6)
  have HH := hide hh
  have hi1 : inB (lv : Int) 0 4 = true := (inB_iff _ _ _).2 (by omega)
  clear hh
  go_enter Tryz.func15, Tryz.ntmps15
  go_wp2_with fail
  refine (impl_OrdersValid_c hr HH.out ho hno).mono ?_
  rintro e w2 ⟨rfl, b2⟩
  cases hord : ordersB ts os
  · have B2 := hide b2
    have F := hide (show (ordersB ts os && allowB ts os lv) = false by rw [hord]; rfl)
    clear b2 hord
    go_wp2_with fail
    go_ret
    exact ⟨congrArg (fun q => Ending.returned (.bool q)) F.out.symm, B2.out⟩
  · have HO := hide hord
    have F := hide (show (ordersB ts os && allowB ts os lv) = allowB ts os lv by rw [hord]; rfl)
    have hr2 := hr.below b2
    have ho2 := ho.below b2
    clear hord
    go_wp2_with fail
    refine (within_c).mono ?_
    rintro e w2' ⟨rfl, rfl⟩
    rw [hi1]
    go_wp2_with fail
    refine (impl_EdgesOf_c hr2 HH.out ho2 hno).mono ?_
    rintro e w3 ⟨A', k, rfl, hk, r3, b3⟩
    have hr3 := hr2.below b3
    have s3 : S3 w3 (.slice A' k k) k (edgesL ts os) := S3.of_args (Nat.le_refl _) (by omega) r3
    have B3 := b2.trans (b3.mono b2.size)
    clear b2 b3 hr2 ho2 r3
    go_wp2_with fail
    refine (allows_c hr3 HH.out s3 HE.out h4).mono ?_
    rintro e w4 ⟨rfl, b4⟩
    have B4 := hide (B3.trans (b4.mono B3.size))
    have hal : allB ts (edgesL ts os) lv = allowB ts os lv := rfl
    rw [hal]
    clear B3 b4
    go_wp2_with fail
    go_ret
    exact ⟨congrArg (fun q => Ending.returned (.bool q)) F.out.symm, B4.out⟩
end Go.Proofs.YtcfkemchekmjbaaGreatDoor

namespace Go.Proofs.YtcfkemchekmjbaaGreatDoor
def OpsOk (ts : List Tx) : Prop := ∀ (n : Nat) (t : Tx), ts[n]? = some t → ∀ (j : Nat) (o : T3), t.2.1[j]? = some o → opB o = true ∧ (o.1 = 2 → o.2.2 = valOf n j)
theorem OpsOk.step {ts : List Tx} (h : OpsOk ts) {n : Nat} {t : Tx} (ht : ts[n]? = some t) {o : T3} (ho : opB o = true ∧ (o.1 = 2 → o.2.2 = valOf n t.2.1.length)) (f : Int) (dn : Bool) : OpsOk (ts.set n (f, t.2.1 ++ [o], dn)) := by
  intro m u hu j p hp
  by_cases e : n = m
  · subst e
    rw [List.getElem?_set_self (List.getElem?_eq_some_iff.1 ht).1] at hu
    injection hu with hu; subst hu
    by_cases hj : j < t.2.1.length
    · rw [List.getElem?_append_left hj] at hp
      exact h n t ht j p hp
    · have hp' : (t.2.1 ++ [o])[j]? = some p := hp
      have : j = t.2.1.length := by have := (List.getElem?_eq_some_iff.1 hp').1; simp at this; omega
      subst this
      simp at hp'; subst hp'; exact ho
  · rw [List.getElem?_set_ne e] at hu
    exact h m u hu j p hp
theorem OpsOk.empty (ds : Ds) : OpsOk (emptyT ds) := fun n t ht j o ho => by
  unfold emptyT at ht
  rw [List.getElem?_map] at ht
  cases hd : ds[n]? <;> rw [hd] at ht <;> simp at ht
  subst ht; simp at ho
/-- Values ascend. -/
def Asc (l : List (Int × Int)) (m : Int) : Prop := l.Pairwise (fun a b => a.2 < b.2) ∧ ∀ q ∈ l, q.2 < m
theorem Asc.push {l : List (Int × Int)} {m m' : Int} (h : Asc l m) (k : Int) (hm : m < m') : Asc (l ++ [(k, m)]) m' := by
  refine ⟨List.pairwise_append.2 ⟨h.1, List.pairwise_singleton _ _, fun a ha b hb => ?_⟩, fun q hq => ?_⟩
  · simp at hb; subst hb; exact h.2 a ha
  · rcases List.mem_append.1 hq with hq | hq
    · have := h.2 q hq; omega
    · simp at hq; subst hq; exact hm
theorem Asc.mono {l : List (Int × Int)} {m m' : Int} (h : Asc l m) (hm : m ≤ m') : Asc l m' := ⟨h.1, fun q hq => by have := h.2 q hq; omega⟩
theorem Asc.nodup {l : List (Int × Int)} {m : Int} (h : Asc l m) : l.Nodup := h.1.imp (fun {a b} hab e => by subst e; omega)
theorem asc_ops {ts : List Tx} (h : OpsOk ts) {n : Nat} {t : Tx} (ht : ts[n]? = some t) (h0 : Asc (wl (opsTo ts n 0)) (valOf n 0)) : ∀ j, j ≤ t.2.1.length → Asc (wl (opsTo ts n j)) (valOf n j)
  | 0, _ => h0
  | j + 1, hj => by
    have ih := asc_ops h ht h0 j (by omega)
    have ho : t.2.1[j]? = some (t.2.1[j]'(by omega)) := List.getElem?_eq_getElem _
    have hlt : valOf n j < valOf n (j + 1) := by unfold valOf; omega
    by_cases hw : (t.2.1[j]'(by omega)).1 = 2
    · rw [wl_step_w ht ho hw, (h n t ht j _ ho).2 hw]
      exact ih.push _ hlt
    · rw [wl_step_r ht ho hw]; exact ih.mono (by omega)
theorem asc_txns {ts : List Tx} (h : OpsOk ts) (h4 : ∀ t ∈ ts, t.2.1.length ≤ 4) : ∀ n, n ≤ ts.length → Asc (wl (opsTo ts n 0)) (valOf n 0)
  | 0, _ => by rw [opsTo_zero]; exact ⟨List.Pairwise.nil, fun q hq => by simp [wl] at hq⟩
  | n + 1, hn => by
    have ih := asc_txns h h4 n (by omega)
    have ht : ts[n]? = some (ts[n]'(by omega)) := List.getElem?_eq_getElem _
    have h1 := asc_ops h ht ih _ (Nat.le_refl _)
    rw [opsTo_next ht (Nat.le_refl _)]
    exact h1.mono (by have := h4 _ (List.mem_of_getElem? ht); unfold valOf; omega)
theorem OpsOk.valid {ts : List Tx} (h : OpsOk ts) (h4 : Lean4 ts) (hs : ∀ t ∈ ts, 0 ≤ t.1 ∧ t.1 ≤ 3) : histB ts = true := by
  refine histB_mk (by have := h4.1; omega) (fun t ht => ?_) ?_
  · obtain ⟨i, hi, he⟩ := List.mem_iff_getElem.1 ht
    have h1 : ts[i]? = some t := by rw [← he]; exact List.getElem?_eq_getElem hi
    unfold txnB
    simp only [Bool.and_eq_true, List.all_eq_true, decide_eq_true_eq, inB_iff]
    refine ⟨fun o ho => ?_, hs t ht, by have := h4.2 t ht; omega⟩
    obtain ⟨j, hj, hg⟩ := List.mem_iff_getElem.1 ho
    exact (h i t h1 j o (by rw [← hg]; exact List.getElem?_eq_getElem hj)).1
  · have := (asc_txns h h4.2 ts.length (Nat.le_refl _)).nodup
    rwa [opsTo_all (Nat.le_refl _)] at this
end Go.Proofs.YtcfkemchekmjbaaGreatDoor

namespace Go.Proofs.YtcfkemchekmjbaaGreatDoor
/-- A step that does something. -/
def StepS (S : Sn) (n : Nat) (S' : Sn) : Prop := ∃ (t : Tx) (s : T3) (dn : Bool), S.ts[n]? = some t ∧ t.2.2 = false ∧ (s.1 = 1 ∨ s.1 = 2) ∧ (0 ≤ s.2.1 ∧ s.2.1 ≤ 2) ∧ S'.ts = S.ts.set n (t.1, t.2.1 ++ [snO S n t s], dn) ∧
  S'.kept = snKept S n ∧ S'.began = snBegan S n ∧ (dn = false → S'.st = S.st ∧ S'.ver = S.ver) ∧
  (dn = true → goodTo S.ver ((snBegan S n).getD n []) (lastW (t.2.1 ++ [snO S n t s])) (lastW (t.2.1 ++ [snO S n t s])).length = true ∧ S'.st = commitS (t.2.1 ++ [snO S n t s]) S.st ∧ S'.ver = bumpTo S.ver (lastW (t.2.1 ++ [snO S n t s])) (lastW (t.2.1 ++ [snO S n t s])).length)
theorem snap_cases {ms : Ds} {S : Sn} {n : Nat} (hi : SnI ms S) (hn : n < ms.length) (hdb : ∀ d ∈ ms, draftB d = true) : snap1 ms S n = S ∨ StepS S n (snap1 ms S n) := by
  obtain ⟨d, t, hd, ht, hst, hop, hse, hle, hdn⟩ := hi.fits.at_ hn
  have hdp := draftB_parts (hdb d (List.mem_of_getElem? hd))
  by_cases hfull : t.2.1.length = d.2.length
  · exact .inl (snap1_none hst hop hfull)
  · right
    obtain ⟨s, hs⟩ : ∃ s, d.2[t.2.1.length]? = some s := ⟨_, List.getElem?_eq_getElem (by omega)⟩
    obtain ⟨hk12, hy, _⟩ := hdp.2.2.2 s (List.mem_of_getElem? hs)
    have hf := hdn (by omega)
    by_cases hm : t.2.1.length + 1 = d.2.length
    · cases hg : goodTo S.ver ((snBegan S n).getD n []) (lastW (t.2.1 ++ [snO S n t s])) (lastW (t.2.1 ++ [snO S n t s])).length
      · rw [snap1_bad hst hop hse hs hm hg]
        exact ⟨t, s, false, ht, hf, hk12, hy, rfl, rfl, rfl, fun _ => ⟨rfl, rfl⟩, fun h => (by cases h)⟩
      · rw [snap1_good hst hop hse hs hm hg]
        exact ⟨t, s, true, ht, hf, hk12, hy, rfl, rfl, rfl, fun h => (by cases h), fun _ => ⟨hg, rfl, rfl⟩⟩
    · rw [snap1_more hst hop hse hs hm]
      exact ⟨t, s, false, ht, hf, hk12, hy, rfl, rfl, rfl, fun _ => ⟨rfl, rfl⟩, fun h => (by cases h)⟩
/-- What the operations' values are. -/
structure RdI (S : Sn) : Prop where
  wr : ∀ (n : Nat) (t : Tx), S.ts[n]? = some t → ∀ (j : Nat) (o : T3), t.2.1[j]? = some o → o.1 = 2 → o.2.2 = valOf n j
  rd : ∀ (n : Nat) (t : Tx), S.ts[n]? = some t → ∀ (j : Nat) (o : T3), t.2.1[j]? = some o → o.1 = 1 → o.2.2 = seesV (t.2.1.take j) (S.kept.getD n []) o.2.1.toNat
theorem ops_eq {ts : List Tx} {n : Nat} {t : Tx} (ht : ts[n]? = some t) : opsOf ts n = t.2.1 := by unfold opsOf; rw [List.getD_eq_getElem?_getD, ht]; rfl
theorem RdI.step {S S' : Sn} {n : Nat} (h : RdI S) (hs : StepS S n S') : RdI S' := by
  obtain ⟨t, s, dn, ht, hf, hk, hy, hts, hke, hbe, _, _⟩ := hs
  have hlt := (List.getElem?_eq_some_iff.1 ht).1
  refine ⟨fun m u hu j o ho h2 => ?_, fun m u hu j o ho h1 => ?_⟩
  · rw [hts] at hu
    by_cases e : n = m
    · subst e
      rw [List.getElem?_set_self hlt] at hu; injection hu with hu; subst hu
      dsimp only at ho
      by_cases hj : j < t.2.1.length
      · rw [List.getElem?_append_left hj] at ho; exact h.wr n t ht j o ho h2
      · have hj' := (List.getElem?_eq_some_iff.1 ho).1
        rw [List.length_append] at hj'; simp at hj'
        obtain rfl : j = t.2.1.length := by omega
        rw [List.getElem?_append_right (Nat.le_refl _)] at ho
        simp at ho; subst ho
        have e1 : s.1 = 2 := h2
        show lockV t.2.1 _ n s = _
        unfold lockV; rw [if_pos e1]
    · rw [List.getElem?_set_ne e] at hu; exact h.wr m u hu j o ho h2
  · rw [hts] at hu
    by_cases e : n = m
    · subst e
      rw [List.getElem?_set_self hlt] at hu; injection hu with hu; subst hu
      dsimp only at ho ⊢
      by_cases hj : j < t.2.1.length
      · rw [List.getElem?_append_left hj] at ho
        rw [List.take_append_of_le_length (by omega), hke, snKept_later (ops_eq ht) (fun e => by rw [e] at hj; simp at hj)]
        exact h.rd n t ht j o ho h1
      · have hj' := (List.getElem?_eq_some_iff.1 ho).1
        rw [List.length_append] at hj'; simp at hj'
        obtain rfl : j = t.2.1.length := by omega
        rw [List.getElem?_append_right (Nat.le_refl _)] at ho
        simp at ho; subst ho
        have e1 : s.1 = 1 := h1
        rw [List.take_append_of_le_length (Nat.le_refl _), List.take_length, hke]
        show lockV t.2.1 _ n s = _
        unfold lockV; rw [if_neg (by omega)]; rfl
    · rw [List.getElem?_set_ne e] at hu
      rw [hke, snKept_other S (fun e' => e e'.symm)]
      exact h.rd m u hu j o ho h1
/-- What stays. -/
def PerS (S S' : Sn) : Prop := ∀ (m : Nat) (t : Tx), S.ts[m]? = some t → ∃ t', S'.ts[m]? = some t' ∧ (t.2.2 = true → t' = t) ∧ (t.2.1 ≠ [] → t'.2.1 ≠ [] ∧ S'.kept.getD m [] = S.kept.getD m [] ∧ S'.began.getD m [] = S.began.getD m [])
theorem PerS.refl (S : Sn) : PerS S S := fun _ t ht => ⟨t, ht, fun _ => rfl, fun h => ⟨h, rfl, rfl⟩⟩
theorem PerS.trans {a b c : Sn} (h : PerS a b) (g : PerS b c) : PerS a c := fun m t ht => by
  obtain ⟨t1, h1, h2, h3⟩ := h m t ht
  obtain ⟨t2, g1, g2, g3⟩ := g m t1 h1
  refine ⟨t2, g1, fun hd => ?_, fun hne => ?_⟩
  · have e1 := h2 hd
    subst e1; exact g2 hd
  · obtain ⟨p1, p2, p3⟩ := h3 hne
    obtain ⟨q1, q2, q3⟩ := g3 p1
    exact ⟨q1, q2.trans p2, q3.trans p3⟩
theorem StepS.per {S S' : Sn} {n : Nat} (hs : StepS S n S') : PerS S S' := by
  obtain ⟨t, s, dn, ht, hf, hk, hy, hts, hke, hbe, _, _⟩ := hs
  have hlt := (List.getElem?_eq_some_iff.1 ht).1
  intro m u hu
  by_cases e : n = m
  · subst e
    rw [ht] at hu; injection hu with hu; subst hu
    refine ⟨_, by rw [hts, List.getElem?_set_self hlt], fun hd => (by rw [hf] at hd; cases hd), fun hne => ⟨by simp, ?_, ?_⟩⟩
    · rw [hke, snKept_later (ops_eq ht) hne]
    · rw [hbe, snBegan_later (ops_eq ht) (fun e => hne (List.eq_nil_of_length_eq_zero e))]
  · refine ⟨u, by rw [hts, List.getElem?_set_ne e]; exact hu, fun _ => rfl, fun hne => ⟨hne, ?_, ?_⟩⟩
    · rw [hke, snKept_other S (fun e' => e e'.symm)]
    · rw [hbe, snBegan_other S (fun e' => e e'.symm)]
end Go.Proofs.YtcfkemchekmjbaaGreatDoor

namespace Go.Proofs.YtcfkemchekmjbaaGreatDoor
def evB (T : List Tx) (S S' : Sn) (n : Nat) : List Int := if (txAt S.ts n).2.1 = [] ∧ (txAt S'.ts n).2.1 ≠ [] ∧ (txAt T n).2.2 = true then [(n : Int)] else []
def evC (S S' : Sn) (n : Nat) : List Int := if (txAt S.ts n).2.2 = false ∧ (txAt S'.ts n).2.2 = true then [(n : Int)] else []
structure EvI (T : List Tx) (S : Sn) (R : SS) : Prop where
  st : R.st = S.st
  ver : R.ver = S.ver
  beg : ∀ n ∈ R.bg, R.beg.getD n [] = S.began.getD n []
  bg : ∀ n, n ∈ R.bg ↔ ((txAt T n).2.2 = true ∧ (txAt S.ts n).2.1 ≠ [])
  co : ∀ n, n ∈ R.co ↔ (txAt S.ts n).2.2 = true
  b6 : R.beg.length = 6
theorem run_one {T : List Tx} {R R' : SS} {n : Nat} (hn : n < T.length) (h : nxt T R n = some R') : runS T R [(n : Int)] = some R' := by
  show (if (0 : Int) ≤ n ∧ (n : Int) < T.length then (nxt T R ((n : Int)).toNat).bind fun S' => runS T S' [] else none) = some R'
  rw [if_pos ⟨by omega, by omega⟩, Int.toNat_natCast, h]; rfl
theorem txAt_set_self {ts : List Tx} {n : Nat} {t : Tx} (h : n < ts.length) : txAt (ts.set n t) n = t := txAt_get (List.getElem?_set_self h)
theorem txAt_set_ne {ts : List Tx} {n m : Nat} {t : Tx} (h : n ≠ m) : txAt (ts.set n t) m = txAt ts m := by
  unfold txAt; rw [List.getD_eq_getElem?_getD, List.getElem?_set_ne h, ← List.getD_eq_getElem?_getD]
/-- A first read shows what was kept. -/
theorem first_kept {F : Sn} (hF : RdI F) {n : Nat} {t : Tx} (ht : F.ts[n]? = some t) (hpos : ∀ o ∈ t.2.1, 0 ≤ o.2.1) {o : T3} (ho : o ∈ firstR t.2.1) : o.2.2 = (F.kept.getD n []).getD o.2.1.toNat 0 := by
  obtain ⟨i, hi, h1, hl⟩ := mem_firstR.1 ho
  rw [hF.rd n t ht i o hi h1]
  unfold seesV
  have : lastK (t.2.1.take i) (o.2.1.toNat : Int) = none := by
    cases e : lastK (t.2.1.take i) (o.2.1.toNat : Int) with
    | none => rfl
    | some p =>
      obtain ⟨a1, a2, a3⟩ := lastK_some e
      unfold lastO at hl
      rw [List.find?_eq_none] at hl
      have hk := hpos o (List.mem_of_getElem? hi)
      exact absurd (by rw [a3]; simp; omega) (hl p (List.mem_reverse.2 a1))
  rw [this]
theorem EvI.step {T : List Tx} {S S' F : Sn} {R : SS} {n : Nat} (h : EvI T S R) (hs : StepS S n S') (hp : PerS S' F) (hT : F.ts = T) (hF : RdI F) (hpos : ∀ (n : Nat) (t : Tx), F.ts[n]? = some t → ∀ o ∈ t.2.1, 0 ≤ o.2.1) (hn4 : n < 4) (hk4 : S.kept.length = 4) (hb4 : S.began.length = 4) :
    ∃ R', runS T R (evB T S S' n ++ evC S S' n) = some R' ∧ EvI T S' R' := by
  obtain ⟨t, s, dn, ht, hf, hk, hy, hts, hke, hbe, hno, hyes⟩ := hs
  have hlt := (List.getElem?_eq_some_iff.1 ht).1
  have htx : txAt S.ts n = t := txAt_get ht
  have htx' : txAt S'.ts n = (t.1, t.2.1 ++ [snO S n t s], dn) := by rw [hts]; exact txAt_set_self hlt
  have hoth : ∀ m, n ≠ m → txAt S'.ts m = txAt S.ts m := fun m hm => by rw [hts]; exact txAt_set_ne hm
  obtain ⟨tF, hF1, hF2, hF3⟩ := hp n _ (by rw [hts]; exact List.getElem?_set_self hlt)
  dsimp only at hF2 hF3
  obtain ⟨_, hkF, _⟩ := hF3 (by simp)
  have hTn : txAt T n = tF := by rw [← hT]; exact txAt_get hF1
  have hnT : n < T.length := by rw [← hT]; exact (List.getElem?_eq_some_iff.1 hF1).1
  have hnc : n ∉ R.co := fun hc => by rw [h.co, htx, hf] at hc; cases hc
  have st1 : ∃ R1, runS T R (evB T S S' n) = some R1 ∧ R1.st = S.st ∧ R1.ver = S.ver ∧ (∀ m ∈ R1.bg, R1.beg.getD m [] = S'.began.getD m []) ∧ (∀ m, m ∈ R1.bg ↔ ((txAt T m).2.2 = true ∧ (txAt S'.ts m).2.1 ≠ [])) ∧ R1.co = R.co ∧ R1.beg.length = 6 := by
    by_cases hne : t.2.1 = []
    · have hlen : (opsOf S.ts n).length = 0 := by rw [ops_eq ht, hne]; rfl
      by_cases hd : (txAt T n).2.2 = true
      · have hev : evB T S S' n = [(n : Int)] := by unfold evB; rw [if_pos ⟨by rw [htx]; exact hne, by rw [htx']; simp, hd⟩]
        have hnb : n ∉ R.bg := fun hb => by rw [h.bg, htx] at hb; exact hb.2 hne
        have hkeep : F.kept.getD n [] = S.st := by
          rw [hkF, hke, snKept_first (ops_eq ht) (by rw [hne]; rfl), getD_setL _ _ _ _ (by rw [hk4]; exact hn4), if_pos rfl]
        have hro : readsOk R.st (firstR (txAt T n).2.1) = true := readsOk_all (fun j o ho => by
          rw [hTn] at ho
          rw [h.st, ← hkeep]
          exact (first_kept hF hF1 (hpos n tF hF1) (List.mem_of_getElem? ho)).symm)
        refine ⟨{ R with bg := R.bg ++ [n], beg := R.beg.set n R.ver }, by rw [hev]; exact run_one hnT (by rw [nxt_begin hd hnc hnb, hro]; rfl), h.st, h.ver, fun m hm => ?_, fun m => ?_, rfl, by simp [h.b6]⟩
        · dsimp only at hm ⊢
          rw [getD_setLL _ _ _ _ (by rw [h.b6]; omega)]
          by_cases e : n = m
          · subst e
            rw [if_pos rfl, hbe, snBegan_first (ops_eq ht) (by rw [hne]; rfl), getD_setL _ _ _ _ (by rw [hb4]; exact hn4), if_pos rfl]; exact h.ver
          · rw [if_neg e, hbe, snBegan_other S (fun e' => e e'.symm)]
            rcases List.mem_append.1 hm with hm | hm
            · exact h.beg m hm
            · simp at hm; exact absurd hm.symm e
        · dsimp only
          rw [List.mem_append, h.bg m]
          by_cases e : n = m
          · subst e
            rw [htx']
            simp [hd]
          · rw [hoth m e]
            simp only [List.mem_singleton]
            constructor
            · rintro (h1 | h1)
              · exact h1
              · exact absurd h1.symm e
            · exact .inl
      · have hev : evB T S S' n = [] := by unfold evB; rw [if_neg (fun h => hd h.2.2)]
        refine ⟨R, by rw [hev]; rfl, h.st, h.ver, fun m hm => ?_, fun m => ?_, rfl, h.b6⟩
        · have e : n ≠ m := fun e => by subst e; exact hd ((h.bg n).1 hm).1
          rw [hbe, snBegan_other S (fun e' => e e'.symm)]; exact h.beg m hm
        · rw [h.bg m]
          by_cases e : n = m
          · subst e; simp [hd]
          · rw [hoth m e]
    · have hev : evB T S S' n = [] := by unfold evB; rw [if_neg (fun h => hne (by rw [htx] at h; exact h.1))]
      refine ⟨R, by rw [hev]; rfl, h.st, h.ver, fun m hm => ?_, fun m => ?_, rfl, h.b6⟩
      · by_cases e : n = m
        · subst e
          rw [hbe, snBegan_later (ops_eq ht) (fun e => hne (List.eq_nil_of_length_eq_zero e))]; exact h.beg n hm
        · rw [hbe, snBegan_other S (fun e' => e e'.symm)]; exact h.beg m hm
      · rw [h.bg m]
        by_cases e : n = m
        · subst e; rw [htx, htx']; simp [hne]
        · rw [hoth m e]
  obtain ⟨R1, r1, r2, r3, r4, r5, r6, r7⟩ := st1
  rw [runS_append, r1]
  show ∃ R', runS T R1 (evC S S' n) = some R' ∧ EvI T S' R'
  cases dn
  · have hev : evC S S' n = [] := by unfold evC; rw [if_neg (fun h => by rw [htx'] at h; cases h.2)]
    obtain ⟨g1, g2⟩ := hno rfl
    refine ⟨R1, by rw [hev]; rfl, ⟨r2.trans g1.symm, r3.trans g2.symm, r4, r5, fun m => ?_, r7⟩⟩
    rw [r6, h.co m]
    by_cases e : n = m
    · subst e; rw [htx, htx', hf]
    · rw [hoth m e]
  · have hev : evC S S' n = [(n : Int)] := by unfold evC; rw [if_pos ⟨by rw [htx]; exact hf, by rw [htx']⟩]
    obtain ⟨g0, g1, g2⟩ := hyes rfl
    have e1 := hF2 rfl
    have hTd : (txAt T n).2.2 = true := by rw [hTn, e1]
    have hTo : (txAt T n).2.1 = t.2.1 ++ [snO S n t s] := by rw [hTn, e1]
    have hb : n ∈ R1.bg := (r5 n).2 ⟨hTd, by rw [htx']; simp⟩
    have hbn : R1.beg.getD n [] = (snBegan S n).getD n [] := by rw [r4 n hb, hbe]
    refine ⟨_, by rw [hev]; exact run_one hnT (by rw [nxt_commit hTd (by rw [r6]; exact hnc) hb, hTo, r3, hbn, g0]; rfl), ⟨?_, ?_, ?_, ?_, fun m => ?_, ?_⟩⟩
    · dsimp only; rw [r2]; exact g1.symm
    · exact g2.symm
    · exact r4
    · exact r5
    · dsimp only
      rw [List.mem_append, r6, h.co m]
      by_cases e : n = m
      · subst e; rw [htx']; simp
      · rw [hoth m e]
        simp only [List.mem_singleton]
        constructor
        · rintro (h1 | h1)
          · exact h1
          · exact absurd h1.symm e
        · exact .inl
    · exact r7
theorem snap_parts {ms : Ds} {xs : List Int} (h : runB ms xs = true) : ∀ k, k ≤ xs.length → RdI (snapR ms (xs.take k)) ∧ PerS (snapR ms (xs.take k)) (snapR ms xs) := by
  obtain ⟨hn4, hdb, _, hxb⟩ := runB_parts h
  have hrd : ∀ k, k ≤ xs.length → RdI (snapR ms (xs.take k)) := by
    intro k
    induction k with
    | zero =>
      intro _
      refine ⟨fun n t ht j o ho => ?_, fun n t ht j o ho => ?_⟩
      · exfalso
        have ht : (emptyT ms)[n]? = some t := ht
        unfold emptyT at ht
        rw [List.getElem?_map] at ht
        cases hd : ms[n]? <;> rw [hd] at ht <;> simp at ht
        subst ht; simp at ho
      · exfalso
        have ht : (emptyT ms)[n]? = some t := ht
        unfold emptyT at ht
        rw [List.getElem?_map] at ht
        cases hd : ms[n]? <;> rw [hd] at ht <;> simp at ht
        subst ht; simp at ho
    | succ k ih =>
      intro hk
      have hx : xs[k]? = some (xs[k]'(by omega)) := List.getElem?_eq_getElem _
      obtain ⟨h0, h1⟩ := hxb _ (List.mem_of_getElem? hx)
      rw [snapR_snoc hx]
      rcases snap_cases (n := (xs[k]'(by omega)).toNat) (snapR_inv h k (by omega)) (by omega) hdb with e | e
      · rw [e]; exact ih (by omega)
      · exact (ih (by omega)).step e
  have hper : ∀ j k, k + j = xs.length → PerS (snapR ms (xs.take k)) (snapR ms xs) := by
    intro j
    induction j with
    | zero =>
      intro k hk
      have : xs.take k = xs := List.take_of_length_le (by omega)
      rw [this]; exact PerS.refl _
    | succ j ih =>
      intro k hk
      have hx : xs[k]? = some (xs[k]'(by omega)) := List.getElem?_eq_getElem _
      obtain ⟨h0, h1⟩ := hxb _ (List.mem_of_getElem? hx)
      have h2 := ih (k + 1) (by omega)
      rw [snapR_snoc hx] at h2
      rcases snap_cases (n := (xs[k]'(by omega)).toNat) (snapR_inv h k (by omega)) (by omega) hdb with e | e
      · rw [e] at h2; exact h2
      · exact e.per.trans h2
  exact fun k hk => ⟨hrd k hk, hper (xs.length - k) k (by omega)⟩
end Go.Proofs.YtcfkemchekmjbaaGreatDoor

namespace Go.Proofs.YtcfkemchekmjbaaGreatDoor
theorem empty_tx (ms : Ds) (n : Nat) : (txAt (emptyT ms) n).2.1 = [] ∧ (txAt (emptyT ms) n).2.2 = false := by
  unfold txAt emptyT
  rw [List.getD_eq_getElem?_getD, List.getElem?_map]
  cases ms[n]? <;> exact ⟨rfl, rfl⟩
theorem EvI.zero (T : List Tx) (ms : Ds) : EvI T (snap0 ms) ss0 :=
  ⟨rfl, rfl, fun n h => by simp [ss0] at h, fun n => ⟨fun h => by simp [ss0] at h, fun h => absurd (empty_tx ms n).1 h.2⟩, fun n => ⟨fun h => by simp [ss0] at h, fun h => by
    have := (empty_tx ms n).2
    have h : (txAt (emptyT ms) n).2.2 = true := h
    rw [this] at h; cases h⟩, rfl⟩
theorem snapL_eq {ms : Ds} {xs : List Int} (h : runB ms xs = true) : snapL ms xs = (snapR ms xs).ts := by simp [snapL, h]
theorem SnI.pos {ds : Ds} {S : Sn} (h : SnI ds S) {n : Nat} {t : Tx} (ht : S.ts[n]? = some t) {o : T3} (ho : o ∈ t.2.1) : 0 ≤ o.2.1 := by
  have := h.ops n t ht o ho
  unfold opB at this
  simp only [Bool.and_eq_true, inB_iff] at this
  exact this.2.1.1
theorem ev_all {ms : Ds} {xs : List Int} (h : runB ms xs = true) : ∀ k, k ≤ xs.length → ∃ l R, runS (snapR ms xs).ts ss0 l = some R ∧ EvI (snapR ms xs).ts (snapR ms (xs.take k)) R := by
  obtain ⟨hn4, hdb, _, hxb⟩ := runB_parts h
  have hF := (snap_parts h xs.length (Nat.le_refl _)).1
  have hI := snapR_inv h xs.length (Nat.le_refl _)
  rw [List.take_length] at hF hI
  intro k
  induction k with
  | zero => intro _; exact ⟨[], ss0, rfl, EvI.zero _ ms⟩
  | succ k ih =>
    intro hk
    obtain ⟨l, R, hr, he⟩ := ih (by omega)
    have hx : xs[k]? = some (xs[k]'(by omega)) := List.getElem?_eq_getElem _
    obtain ⟨h0, h1⟩ := hxb _ (List.mem_of_getElem? hx)
    have hper := (snap_parts h (k + 1) hk).2
    rw [snapR_snoc hx] at hper ⊢
    have hik := snapR_inv h k (by omega)
    rcases snap_cases (n := (xs[k]'(by omega)).toNat) hik (by omega) hdb with e | e
    · rw [e]; exact ⟨l, R, hr, he⟩
    · obtain ⟨R', hr', he'⟩ := he.step e hper rfl hF (fun n t ht o ho => hI.pos ht ho) (by omega) hik.klen hik.blen
      exact ⟨_, R', by rw [runS_append, hr]; exact hr', he'⟩
theorem lastO_sees {F : Sn} (hF : RdI F) {n : Nat} {t : Tx} (ht : F.ts[n]? = some t) (_hpos : ∀ o ∈ t.2.1, 0 ≤ o.2.1) (hk : ∀ o ∈ t.2.1, o.1 = 1 ∨ o.1 = 2) : ∀ j, j ≤ t.2.1.length → ∀ (key : Nat) (p : T3), lastO (t.2.1.take j) (key : Int) = some p → p.2.2 = seesV (t.2.1.take j) (F.kept.getD n []) key := by
  intro j
  induction j with
  | zero => intro _ key p h; simp [lastO] at h
  | succ j ih =>
    intro hj key p h
    have ho : t.2.1[j]? = some (t.2.1[j]'(by omega)) := List.getElem?_eq_getElem _
    have e : t.2.1.take (j + 1) = t.2.1.take j ++ [t.2.1[j]'(by omega)] := by rw [List.take_add_one, ho]; rfl
    rw [e, lastO_snoc] at h
    rw [e]
    unfold seesV
    rw [lastK_snoc]
    generalize t.2.1[j]'(by omega) = o at ho h ⊢
    by_cases ek : o.2.1 = key
    · rw [if_pos ek] at h; injection h with h; subst h
      rcases hk o (List.mem_of_getElem? ho) with e1 | e2
      · rw [if_neg (fun h => by omega)]
        have := hF.rd n t ht j o ho e1
        rw [show o.2.1.toNat = key by omega] at this
        exact this
      · rw [if_pos ⟨e2, ek⟩]
    · rw [if_neg ek] at h
      rw [if_neg (fun h => ek h.2)]
      exact ih (by omega) key p h
theorem snap_right {ms : Ds} {xs : List Int} (h : runB ms xs = true) : histB (snapL ms xs) = true ∧ badN (snapL ms xs) 4 = 0 ∧ (doneL (snapL ms xs)).length ≤ 4 ∧ ∃ l, rightS (snapL ms xs) l = true := by
  obtain ⟨hn4, hdb, _, hxb⟩ := runB_parts h
  have hF := (snap_parts h xs.length (Nat.le_refl _)).1
  have hI := snapR_inv h xs.length (Nat.le_refl _)
  obtain ⟨l, R, hr, he⟩ := ev_all h xs.length (Nat.le_refl _)
  rw [List.take_length] at hF hI he
  have h4 := snapL_four ms xs
  rw [snapL_eq h] at h4 ⊢
  have hok : OpsOk (snapR ms xs).ts := fun n t ht j o ho => ⟨hI.ops n t ht o (List.mem_of_getElem? ho), hF.wr n t ht j o ho⟩
  have hses : ∀ t ∈ (snapR ms xs).ts, 0 ≤ t.1 ∧ t.1 ≤ 3 := fun t ht => by
    obtain ⟨i, hi, e⟩ := List.mem_iff_getElem.1 ht
    have h1 : (snapR ms xs).ts[i]? = some t := by rw [← e]; exact List.getElem?_eq_getElem hi
    have hl : i < ms.length := by rw [← hI.fits.1]; exact hi
    have := (hI.fits.2 i _ t (List.getElem?_eq_getElem hl) h1).1
    rw [this]
    exact (draftB_parts (hdb _ (List.getElem_mem hl))).2.2.1
  have hh : histB (snapR ms xs).ts = true := hok.valid h4 hses
  have hk12 : ∀ (n : Nat) (t : Tx), (snapR ms xs).ts[n]? = some t → ∀ o ∈ t.2.1, o.1 = 1 ∨ o.1 = 2 := fun n t ht o ho => by
    have := hI.ops n t ht o ho
    unfold opB at this
    simp only [Bool.and_eq_true, Bool.or_eq_true, decide_eq_true_eq, beq_iff_eq, inB_iff] at this
    omega
  have hb4 : badN (snapR ms xs).ts 4 = 0 := by
    have hz : ∀ (n : Nat) (t : Tx), (snapR ms xs).ts[n]? = some t → ∀ j, badTo (snapR ms xs).ts 4 n t.2.1 j = 0 := by
      intro n t ht j
      induction j with
      | zero => rfl
      | succ j ih =>
        cases hj : t.2.1[j]? with
        | none =>
          show badTo (snapR ms xs).ts 4 n t.2.1 j + _ = 0
          rw [ih, hj]; rfl
        | some o =>
          rw [badTo_no hj, ih]
          rw [if_pos rfl]
          unfold ownBad
          by_cases h1 : o.1 = 1
          · have hp := hI.pos ht (List.mem_of_getElem? hj)
            cases hl : lastO (t.2.1.take j) o.2.1 with
            | none => simp
            | some p =>
              have e1 := hF.rd n t ht j o hj h1
              have e2 := lastO_sees hF ht (fun o ho => hI.pos ht ho) (hk12 n t ht) j (by have := (List.getElem?_eq_some_iff.1 hj).1; omega) o.2.1.toNat p (by rw [show ((o.2.1.toNat : Nat) : Int) = o.2.1 by omega]; exact hl)
              have : p.2.2 = o.2.2 := e2.trans e1.symm
              simp [this]
          · simp [h1]
    have hat : ∀ k, badAt (snapR ms xs).ts 4 k = 0 := by
      intro k
      induction k with
      | zero => rfl
      | succ k ih =>
        show badAt (snapR ms xs).ts 4 k + _ = 0
        rw [ih]
        split
        · rename_i hd
          have hlt := done_lt hd
          have ht : (snapR ms xs).ts[k]? = some ((snapR ms xs).ts[k]'hlt) := List.getElem?_eq_getElem _
          rw [txAt_get ht, hz k _ ht]
        · rfl
    unfold badN
    split
    · exact hat _
    · rfl
  have hd4 : (doneL (snapR ms xs).ts).length ≤ 4 := by unfold doneL; exact Nat.le_trans (doneTo_len _ _) h4.1
  refine ⟨hh, hb4, hd4, l, ?_⟩
  obtain ⟨p1, p2, p3⟩ := histB_parts hh
  obtain ⟨⟨b, hS⟩, hl⟩ := SsI.run p1 p2 l ss0 R (fun _ => 0) (SsI.zero _ _) hr
  have hl : R.bg.length + R.co.length = l.length := by rw [hl]; simp [ss0]
  have hdn : ((doneL (snapR ms xs).ts).map Int.toNat).Nodup := by
    have h1 := doneL_nodup (snapR ms xs).ts
    unfold List.Nodup at h1 ⊢
    rw [List.pairwise_map]
    refine h1.imp_of_mem (fun {a b} ha hb hab e => hab ?_)
    unfold doneL at ha hb
    obtain ⟨i, _, rfl, _⟩ := (mem_doneTo _).1 ha
    obtain ⟨j, _, rfl, _⟩ := (mem_doneTo _).1 hb
    simp at e; rw [e]
  have hD : ∀ n : Nat, n ∈ (doneL (snapR ms xs).ts).map Int.toNat ↔ (txAt (snapR ms xs).ts n).2.2 = true := fun n => by
    rw [List.mem_map]
    constructor
    · rintro ⟨x, hx, rfl⟩
      have hx' := hx
      unfold doneL at hx'
      obtain ⟨i, _, rfl, hd⟩ := (mem_doneTo _).1 hx'
      simpa using hd
    · intro hd; exact ⟨(n : Int), mem_doneL.2 hd, by simp⟩
  have l1 := nodup_len_le hS.bnd (fun n hn => (hD n).2 (hS.bgd n hn))
  have l2 := nodup_len_le hS.cnd hS.cod
  have l3 := nodup_len_le hdn (fun n hn => (he.co n).2 ((hD n).1 hn))
  rw [List.length_map] at l1 l3
  unfold rightS
  rw [hh, decide_eq_true hb4, decide_eq_true (show l.length = 2 * (doneL (snapR ms xs).ts).length by omega), hr]; rfl
end Go.Proofs.YtcfkemchekmjbaaGreatDoor
