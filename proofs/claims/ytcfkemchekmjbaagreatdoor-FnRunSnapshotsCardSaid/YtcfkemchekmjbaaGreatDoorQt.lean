/- Merged (what the law reaches): SsP. -/
import Derived.Test.YtcfkemchekmjbaaGreatDoorQs
namespace Go.Proofs.YtcfkemchekmjbaaGreatDoor
open Go.RowKit
structure SS where
  st : List Int
  ver : List Int
  beg : List (List Int)
  bg : List Nat
  co : List Nat
def ss0 : SS := ⟨z3, z3, [z3, z3, z3, z3, z3, z3], [], []⟩
def readsOk (st : List Int) (zs : List T3) : Bool := zs.all fun o => st.getD o.2.1.toNat 0 == o.2.2
def nxt (ts : List Tx) (S : SS) (n : Nat) : Option SS :=
  if (txAt ts n).2.2 = true ∧ n ∉ S.co then
    if n ∉ S.bg then
      if readsOk S.st (firstR (txAt ts n).2.1) then some { S with bg := S.bg ++ [n], beg := S.beg.set n S.ver } else none
    else if goodTo S.ver (S.beg.getD n []) (lastW (txAt ts n).2.1) (lastW (txAt ts n).2.1).length then
      some { S with st := commitS (txAt ts n).2.1 S.st, ver := bumpTo S.ver (lastW (txAt ts n).2.1) (lastW (txAt ts n).2.1).length, co := S.co ++ [n] } else none
  else none
def runS (ts : List Tx) : SS → List Int → Option SS
  | S, [] => some S
  | S, x :: l => if 0 ≤ x ∧ x < ts.length then (nxt ts S x.toNat).bind fun S' => runS ts S' l else none
theorem runS_append (ts : List Tx) : ∀ (l l' : List Int) (S : SS), runS ts S (l ++ l') = (runS ts S l).bind fun S' => runS ts S' l'
  | [], l', S => rfl
  | x :: l, l', S => by
    show (if 0 ≤ x ∧ x < ts.length then (nxt ts S x.toNat).bind fun S' => runS ts S' (l ++ l') else none) = _
    show _ = ((if 0 ≤ x ∧ x < ts.length then (nxt ts S x.toNat).bind fun S' => runS ts S' l else none).bind fun S' => runS ts S' l')
    split
    · cases nxt ts S x.toNat with
      | none => rfl
      | some S' => exact runS_append ts l l' S'
    · rfl
/-- What transaction n installs for a key. -/
def wV (ts : List Tx) (n : Nat) (key : Nat) : Option Int := (lastK (txAt ts n).2.1 (key : Int)).map (·.2.2)
def lastV (ts : List Tx) (co : List Nat) (key : Nat) : Int := co.foldl (fun v n => (wV ts n key).getD v) 0
def cntW (ts : List Tx) (co : List Nat) (key : Nat) : Nat := co.countP fun n => (wV ts n key).isSome
theorem lastV_snoc (ts : List Tx) (co : List Nat) (n key : Nat) : lastV ts (co ++ [n]) key = (wV ts n key).getD (lastV ts co key) := by unfold lastV; rw [List.foldl_append]; rfl
theorem cntW_snoc (ts : List Tx) (co : List Nat) (n key : Nat) : cntW ts (co ++ [n]) key = cntW ts co key + (if (wV ts n key).isSome then 1 else 0) := by
  unfold cntW; rw [List.countP_append]; simp [List.countP_cons]
theorem wV_lastK {ts : List Tx} {n key : Nat} {v : Int} (h : wV ts n key = some v) : lastK (txAt ts n).2.1 (key : Int) = some (2, (key : Int), v) := by
  unfold wV at h
  cases hl : lastK (txAt ts n).2.1 (key : Int) with
  | none => rw [hl] at h; cases h
  | some o => rw [hl] at h; injection h with h; have h : o.2.2 = v := h; rw [lastK_w hl, h]
theorem wV_isW {ts : List Tx} {n key : Nat} {v : Int} (h : wV ts n key = some v) : IsW ts key v n := by
  have h1 := wV_lastK h
  have h2 := (lastK_some h1).1
  cases hk : ts[n]? with
  | none =>
    have : txAt ts n = (0, [], false) := by simp [txAt, List.getD, hk]
    rw [this] at h2; simp at h2
  | some t => rw [txAt_get hk] at h2; exact ⟨t, hk, h2⟩
theorem commitS_get {os : List T3} {st : List Int} {key : Nat} (hk : key < 3) : (commitS os st).getD key 0 = seesV os st key := by
  match key, hk with
  | 0, _ => rfl
  | 1, _ => rfl
  | 2, _ => rfl
theorem seesV_wV (ts : List Tx) (n : Nat) (st : List Int) (key : Nat) : seesV (txAt ts n).2.1 st key = (wV ts n key).getD (st.getD key 0) := by
  unfold seesV wV
  cases lastK (txAt ts n).2.1 (key : Int) <;> rfl
theorem three_of' {l : List Int} (h : l.length = 3) : ∃ x y z, l = [x, y, z] := by
  match l, h with
  | [x, y, z], _ => exact ⟨x, y, z, rfl⟩
theorem bump_get {os : List T3} {ver : List Int} (hv : ver.length = 3) {key : Nat} (hk : key < 3) : (bumpTo ver (lastW os) (lastW os).length).getD key 0 = ver.getD key 0 + (if (lastK os (key : Int)).isSome then 1 else 0) := by
  obtain ⟨x, y, z, rfl⟩ := three_of' hv
  have h0 : ∀ o, lastK os 0 = some o → o.2.1 = 0 := fun o h => (lastK_some h).2.2
  have h1 : ∀ o, lastK os 1 = some o → o.2.1 = 1 := fun o h => (lastK_some h).2.2
  have h2 : ∀ o, lastK os 2 = some o → o.2.1 = 2 := fun o h => (lastK_some h).2.2
  unfold lastW bumpTo
  rw [List.take_length]
  have e0 : ((0 : Nat) : Int) = 0 := rfl
  have e1 : ((1 : Nat) : Int) = 1 := rfl
  have e2 : ((2 : Nat) : Int) = 2 := rfl
  cases g0 : lastK os 0 <;> cases g1 : lastK os 1 <;> cases g2 : lastK os 2 <;>
    (match key, hk with
     | 0, _ => simp_all
     | 1, _ => simp_all
     | 2, _ => simp_all)
theorem goodTo_key {os : List T3} {ver beg : List Int} (h : goodTo ver beg (lastW os) (lastW os).length = true) {key : Nat} (hk : key < 3) {o : T3} (ho : lastK os (key : Int) = some o) : ver.getD key 0 = beg.getD key 0 := by
  unfold goodTo at h
  rw [List.take_length, List.all_eq_true] at h
  have hm : o ∈ lastW os := by
    unfold lastW
    simp only [List.mem_append, Option.mem_toList]
    match key, hk with
    | 0, _ => exact .inl ho
    | 1, _ => exact .inr (.inl ho)
    | 2, _ => exact .inr (.inr ho)
  have := h o hm
  rw [(lastK_some ho).2.2] at this
  simpa using this
/-- What holds of a state: b n commits were made when n began. -/
structure SsI (ts : List Tx) (S : SS) (b : Nat → Nat) : Prop where
  bgd : ∀ n ∈ S.bg, (txAt ts n).2.2 = true
  cod : ∀ n ∈ S.co, n ∈ S.bg
  bnd : S.bg.Nodup
  cnd : S.co.Nodup
  st3 : S.st.length = 3
  ver3 : S.ver.length = 3
  beg6 : S.beg.length = 6
  vals : ∀ key : Nat, key < 3 → S.st.getD key 0 = lastV ts S.co key
  vers : ∀ key : Nat, key < 3 → S.ver.getD key 0 = (cntW ts S.co key : Nat)
  ble : ∀ n ∈ S.bg, b n ≤ S.co.length
  begs : ∀ n ∈ S.bg, ∀ key : Nat, key < 3 → (S.beg.getD n []).getD key 0 = (cntW ts (S.co.take (b n)) key : Nat)
  reads : ∀ n ∈ S.bg, ∀ o ∈ firstR (txAt ts n).2.1, o.2.2 = lastV ts (S.co.take (b n)) o.2.1.toNat
  coms : ∀ (p n : Nat), S.co[p]? = some n → b n ≤ p ∧ ∀ key : Nat, key < 3 → (wV ts n key).isSome → cntW ts (S.co.take p) key = cntW ts (S.co.take (b n)) key
  bgl : ∀ x ∈ S.beg, x.length = 3
theorem SsI.zero (ts : List Tx) (b : Nat → Nat) : SsI ts ss0 b := by
  refine ⟨fun n h => by simp [ss0] at h, fun n h => by simp [ss0] at h, by simp [ss0], by simp [ss0], rfl, rfl, rfl, fun key hk => ?_, fun key hk => ?_, fun n h => by simp [ss0] at h, fun n h => by simp [ss0] at h, fun n h => by simp [ss0] at h, fun p n h => by simp [ss0] at h, fun x hx => ?_⟩
  · match key, hk with
    | 0, _ => rfl
    | 1, _ => rfl
    | 2, _ => rfl
  · match key, hk with
    | 0, _ => rfl
    | 1, _ => rfl
    | 2, _ => rfl
  · have : x = z3 := by simpa [ss0] using hx
    rw [this]; rfl
theorem getD_setLL (xs : List (List Int)) (i j : Nat) (v : List Int) (hi : i < xs.length) : (xs.set i v).getD j [] = if i = j then v else xs.getD j [] := by
  simp only [List.getD_eq_getElem?_getD]
  by_cases e : i = j
  · subst e; rw [if_pos rfl, List.getElem?_set_self hi]; rfl
  · rw [if_neg e, List.getElem?_set_ne e]
theorem done_lt {ts : List Tx} {n : Nat} (h : (txAt ts n).2.2 = true) : n < ts.length := by
  rcases Nat.lt_or_ge n ts.length with h1 | h1
  · exact h1
  · have : txAt ts n = (0, [], false) := by simp [txAt, List.getD, List.getElem?_eq_none h1]
    rw [this] at h; cases h
/-- A step keeps what holds. -/
theorem SsI.step {ts : List Tx} {S S' : SS} {b : Nat → Nat} {n : Nat} (h : SsI ts S b) (h6 : ts.length ≤ 6) (hk : ∀ t ∈ ts, txnB t = true) (hn : nxt ts S n = some S') : ∃ b', SsI ts S' b' := by
  unfold nxt at hn
  split at hn
  rotate_left
  · cases hn
  rename_i hc
  obtain ⟨hd, hco⟩ := hc
  have hlt := done_lt hd
  have hkey : ∀ o ∈ firstR (txAt ts n).2.1, 0 ≤ o.2.1 ∧ o.2.1 ≤ 2 := fun o ho => by
    obtain ⟨i, hi, _⟩ := mem_firstR.1 ho
    have ht : ts[n]? = some (ts[n]'hlt) := List.getElem?_eq_getElem _
    rw [txAt_get ht] at hi
    have := txnB_opH (hk _ (List.mem_of_getElem? ht)) hi
    unfold opB at this
    simp only [Bool.and_eq_true, inB_iff] at this
    exact this.2.1
  split at hn
  · rename_i hbg
    split at hn
    rotate_left
    · cases hn
    rename_i hr
    injection hn with hn; subst hn
    refine ⟨fun m => if m = n then S.co.length else b m, ?_⟩
    have hne : ∀ m ∈ S.bg, m ≠ n := fun m hm e => hbg (e ▸ hm)
    refine ⟨fun m hm => ?_, fun m hm => List.mem_append_left _ (h.cod m hm), nodup_snoc h.bnd hbg, h.cnd, h.st3, h.ver3, by simp [h.beg6], h.vals, h.vers, fun m hm => ?_, fun m hm key hkk => ?_, fun m hm o ho => ?_, fun p m hp => ?_, fun x hx => ?_⟩
    · rcases List.mem_append.1 hm with hm | hm
      · exact h.bgd m hm
      · simp at hm; subst hm; exact hd
    · dsimp only
      split
      · exact Nat.le_refl _
      · rename_i e
        rcases List.mem_append.1 hm with hm | hm
        · exact h.ble m hm
        · simp at hm; exact absurd hm e
    · dsimp only
      rw [getD_setLL _ _ _ _ (by rw [h.beg6]; omega)]
      by_cases e : m = n
      · subst e
        rw [if_pos rfl, if_pos rfl, List.take_length]; exact h.vers key hkk
      · rw [if_neg (fun e' => e e'.symm), if_neg e]
        rcases List.mem_append.1 hm with hm | hm
        · exact h.begs m hm key hkk
        · simp at hm; exact absurd hm e
    · dsimp only
      by_cases e : m = n
      · subst e
        rw [if_pos rfl, List.take_length]
        unfold readsOk at hr
        rw [List.all_eq_true] at hr
        have h1 := hr o ho
        have h2 := hkey o ho
        rw [← h.vals _ (by omega)]
        have h3 : S.st.getD o.2.1.toNat 0 = o.2.2 := by simpa using h1
        exact h3.symm
      · rw [if_neg e]
        rcases List.mem_append.1 hm with hm | hm
        · exact h.reads m hm o ho
        · simp at hm; exact absurd hm e
    · dsimp only at hp ⊢
      have hm := h.cod m (List.mem_of_getElem? hp)
      rw [if_neg (hne m hm)]
      exact h.coms p m hp
    · dsimp only at hx
      rcases List.mem_or_eq_of_mem_set hx with hx | rfl
      · exact h.bgl x hx
      · exact h.ver3
  · rename_i hbg
    have hbg : n ∈ S.bg := Classical.not_not.1 hbg
    split at hn
    rotate_left
    · cases hn
    rename_i hg
    injection hn with hn; subst hn
    refine ⟨b, ?_⟩
    have htk : ∀ q, q ≤ S.co.length → (S.co ++ [n]).take q = S.co.take q := fun q hq => List.take_append_of_le_length hq
    refine ⟨h.bgd, fun m hm => ?_, h.bnd, nodup_snoc h.cnd hco, rfl, by rw [bumpTo_len]; exact h.ver3, h.beg6, fun key hkk => ?_, fun key hkk => ?_, fun m hm => ?_, fun m hm key hkk => ?_, fun m hm o ho => ?_, fun p m hp => ?_, h.bgl⟩
    · rcases List.mem_append.1 hm with hm | hm
      · exact h.cod m hm
      · simp at hm; subst hm; exact hbg
    · dsimp only
      rw [commitS_get hkk, seesV_wV, lastV_snoc, h.vals key hkk]
    · dsimp only
      rw [bump_get h.ver3 hkk, cntW_snoc, h.vers key hkk]
      unfold wV
      rw [Option.isSome_map]
      split <;> simp
    · dsimp only; rw [List.length_append]; have := h.ble m hm; omega
    · dsimp only; rw [htk _ (h.ble m hm)]; exact h.begs m hm key hkk
    · dsimp only; rw [htk _ (h.ble m hm)]; exact h.reads m hm o ho
    · dsimp only at hp ⊢
      by_cases e : p < S.co.length
      · rw [List.getElem?_append_left e] at hp
        have hm := h.cod m (List.mem_of_getElem? hp)
        obtain ⟨h1, h2⟩ := h.coms p m hp
        refine ⟨h1, fun key hkk hw => ?_⟩
        rw [htk _ (by omega), htk _ (h.ble m hm)]
        exact h2 key hkk hw
      · have hp2 := (List.getElem?_eq_some_iff.1 hp).1
        rw [List.length_append] at hp2
        simp at hp2
        obtain rfl : p = S.co.length := by omega
        rw [List.getElem?_append_right (Nat.le_refl _)] at hp
        simp at hp; subst hp
        refine ⟨h.ble n hbg, fun key hkk hw => ?_⟩
        rw [htk _ (Nat.le_refl _), htk _ (h.ble n hbg), List.take_length]
        cases hl : wV ts n key with
        | none => rw [hl] at hw; cases hw
        | some v =>
          have g1 := goodTo_key hg hkk (wV_lastK hl)
          have g2 := h.vers key hkk
          have g3 := h.begs n hbg key hkk
          omega
theorem nxt_len {ts : List Tx} {S S' : SS} {n : Nat} (hn : nxt ts S n = some S') : S'.bg.length + S'.co.length = S.bg.length + S.co.length + 1 := by
  unfold nxt at hn
  split at hn
  · split at hn
    · split at hn
      · injection hn with hn; subst hn; dsimp only; rw [List.length_append]; simp; omega
      · cases hn
    · split at hn
      · injection hn with hn; subst hn; dsimp only; rw [List.length_append]; simp; omega
      · cases hn
  · cases hn
theorem SsI.run {ts : List Tx} (h6 : ts.length ≤ 6) (hk : ∀ t ∈ ts, txnB t = true) : ∀ (l : List Int) (S S' : SS) (b : Nat → Nat), SsI ts S b → runS ts S l = some S' → (∃ b', SsI ts S' b') ∧ S'.bg.length + S'.co.length = S.bg.length + S.co.length + l.length
  | [], S, S', b, h, hr => by injection hr with hr; subst hr; exact ⟨⟨b, h⟩, rfl⟩
  | x :: l, S, S', b, h, hr => by
    have hr' : (if 0 ≤ x ∧ x < ts.length then (nxt ts S x.toNat).bind fun S' => runS ts S' l else none) = some S' := hr
    split at hr'
    · cases hn : nxt ts S x.toNat with
      | none => rw [hn] at hr'; cases hr'
      | some S1 =>
        rw [hn] at hr'
        obtain ⟨b1, h1⟩ := h.step h6 hk hn
        obtain ⟨h2, h3⟩ := SsI.run h6 hk l S1 S' b1 h1 hr'
        have := nxt_len hn
        exact ⟨h2, by rw [h3, List.length_cons]; omega⟩
    · cases hr'
end Go.Proofs.YtcfkemchekmjbaaGreatDoor
