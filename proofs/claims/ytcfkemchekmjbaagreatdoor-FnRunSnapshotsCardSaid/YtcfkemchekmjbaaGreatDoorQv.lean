/- Merged (what the law reaches): SsM, DrawH1, First, Fst. -/
import Derived.Test.YtcfkemchekmjbaaGreatDoorQu
namespace Go.Proofs.YtcfkemchekmjbaaGreatDoor
open Go.RowKit
/-- A mask of numbers below six. -/
def MaskN (g : Nat) (l : List Nat) : Prop := g < 64 ∧ ∀ m, m < 6 → g.testBit m = decide (m ∈ l)
theorem MaskN.zero : MaskN 0 [] := ⟨by omega, fun m _ => by simp⟩
theorem MaskN.snoc {g m : Nat} {l : List Nat} (h : MaskN g l) (hm : m < 6) : MaskN (g ||| 2 ^ m) (l ++ [m]) := by
  refine ⟨or64 h.1 (pow64 hm), fun k hk => ?_⟩
  rw [Nat.testBit_or, h.2 k hk, Nat.testBit_two_pow, Bool.eq_iff_iff]
  simp only [Bool.or_eq_true, decide_eq_true_eq, List.mem_append, List.mem_singleton]
  constructor
  · rintro (h | h)
    · exact .inl h
    · exact .inr h.symm
  · rintro (h | h)
    · exact .inl h
    · exact .inr h.symm
theorem maskN_and {g m : Nat} (h1 : g < 64) (hm : m < 6) : bits .and .u64 (g : Int) (IntKind.u64.wrap (2 ^ m)) = ((g &&& 2 ^ m : Nat) : Int) := by
  have := pow64 hm
  rw [wrap_pow hm, u64_and_nat _ _ (by omega) (by omega)]
theorem maskN_or {g m : Nat} (h1 : g < 64) (hm : m < 6) : bits .or .u64 (g : Int) (IntKind.u64.wrap (2 ^ m)) = ((g ||| 2 ^ m : Nat) : Int) := by
  rw [wrap_pow hm]; exact bit_or h1 (pow64 hm)
theorem MaskN.no {g m : Nat} {l : List Nat} (h : MaskN g l) (hm : m < 6) (hn : m ∉ l) : bits .and .u64 (g : Int) (IntKind.u64.wrap (2 ^ m)) = 0 := by
  rw [maskN_and h.1 hm]
  have : g &&& 2 ^ m = 0 := by
    apply Nat.eq_of_testBit_eq
    intro i
    rw [Nat.testBit_and, Nat.testBit_two_pow, Nat.zero_testBit]
    by_cases e : m = i
    · subst e; rw [h.2 m hm, decide_eq_false hn]; rfl
    · rw [decide_eq_false e, Bool.and_false]
  rw [this]; rfl
theorem MaskN.yes {g m : Nat} {l : List Nat} (h : MaskN g l) (hm : m < 6) (hn : m ∈ l) : bits .and .u64 (g : Int) (IntKind.u64.wrap (2 ^ m)) ≠ 0 := by
  rw [maskN_and h.1 hm]
  intro e
  have e : g &&& 2 ^ m = 0 := by omega
  have := congrArg (fun q => q.testBit m) e
  simp only [Nat.testBit_and, Nat.testBit_two_pow, Nat.zero_testBit, decide_true, Bool.and_true] at this
  rw [h.2 m hm, decide_eq_true hn] at this
  cases this
/-- The cells. -/
def flS (S : SS) : List Int := S.st ++ (S.ver ++ S.beg.flatten)
def ssC (fl : List Int) (g c : Nat) : Array Value := (fl.map (Value.int .i64) ++ [Value.int .u64 (g : Int), Value.int .u64 (c : Int)]).toArray
theorem ssC_get {fl : List Int} {g c i : Nat} {x : Int} (h : fl[i]? = some x) : (ssC fl g c)[i]? = some (.int .i64 x) := by
  have hi := (List.getElem?_eq_some_iff.1 h).1
  unfold ssC
  rw [List.getElem?_toArray, List.getElem?_append_left (by simpa using hi), List.getElem?_map, h]; rfl
theorem ssC_g {fl : List Int} {g c : Nat} (h : fl.length = 24) : (ssC fl g c)[24]? = some (.int .u64 (g : Int)) := by
  unfold ssC
  rw [List.getElem?_toArray, List.getElem?_append_right (by simp [h])]; simp [h]
theorem ssC_c {fl : List Int} {g c : Nat} (h : fl.length = 24) : (ssC fl g c)[25]? = some (.int .u64 (c : Int)) := by
  unfold ssC
  rw [List.getElem?_toArray, List.getElem?_append_right (by simp [h])]; simp [h]
theorem ssC_set {fl : List Int} {g c i : Nat} (x : Int) (h : i < fl.length) : (ssC fl g c).setIfInBounds i (.int .i64 x) = ssC (fl.set i x) g c := by
  unfold ssC
  rw [List.setIfInBounds_toArray, List.set_append_left _ _ (by simpa using h), List.map_set]
theorem ssC_setg {fl : List Int} {g c : Nat} (g' : Nat) (h : fl.length = 24) : (ssC fl g c).setIfInBounds 24 (.int .u64 (g' : Int)) = ssC fl g' c := by
  unfold ssC
  rw [List.setIfInBounds_toArray, List.set_append_right _ _ (by simp [h])]; simp [h]
theorem ssC_setc {fl : List Int} {g c : Nat} (c' : Nat) (h : fl.length = 24) : (ssC fl g c).setIfInBounds 25 (.int .u64 (c' : Int)) = ssC fl g c' := by
  unfold ssC
  rw [List.setIfInBounds_toArray, List.set_append_right _ _ (by simp [h])]; simp [h]
/-- A state's shape. -/
structure SsO (S : SS) : Prop where
  st3 : S.st.length = 3
  ver3 : S.ver.length = 3
  beg6 : S.beg.length = 6
  bgl : ∀ x ∈ S.beg, x.length = 3
theorem flat_len : ∀ (L : List (List Int)) (_ : ∀ r ∈ L, r.length = 3), L.flatten.length = L.length * 3
  | [], _ => rfl
  | r :: L, h => by
    rw [List.flatten_cons, List.length_append, h r (by simp), flat_len L (fun x hx => h x (by simp [hx])), List.length_cons]; omega
theorem SsO.len {S : SS} (h : SsO S) : (flS S).length = 24 := by
  unfold flS
  rw [List.length_append, List.length_append, flat_len _ h.bgl, h.st3, h.ver3, h.beg6]
section
variable {S : SS}
theorem SsO.stAt (h : SsO S) {key : Nat} (hk : key < 3) : (flS S)[key]? = some (S.st.getD key 0) := by
  unfold flS
  rw [List.getElem?_append_left (by rw [h.st3]; exact hk), List.getD_eq_getElem?_getD, List.getElem?_eq_getElem (by rw [h.st3]; exact hk)]; rfl
theorem SsO.verAt (h : SsO S) {key : Nat} (hk : key < 3) : (flS S)[3 + key]? = some (S.ver.getD key 0) := by
  unfold flS
  rw [List.getElem?_append_right (by rw [h.st3]; omega), h.st3, Nat.add_sub_cancel_left, List.getElem?_append_left (by rw [h.ver3]; exact hk), List.getD_eq_getElem?_getD, List.getElem?_eq_getElem (by rw [h.ver3]; exact hk)]; rfl
theorem SsO.begAt (h : SsO S) {n key : Nat} (hn : n < 6) (hk : key < 3) : (flS S)[6 + n * 3 + key]? = some ((S.beg.getD n []).getD key 0) := by
  have hnl : n < S.beg.length := by rw [h.beg6]; exact hn
  have hb : S.beg[n]? = some S.beg[n] := List.getElem?_eq_getElem hnl
  have hl : (S.beg[n]).length = 3 := h.bgl _ (List.getElem_mem hnl)
  have hx : (S.beg[n])[key]? = some ((S.beg[n])[key]'(by omega)) := List.getElem?_eq_getElem _
  have hf := flat_get S.beg h.bgl n key _ _ hb hx
  unfold flS
  rw [List.getElem?_append_right (by rw [h.st3]; omega), h.st3, List.getElem?_append_right (by rw [h.ver3]; omega), h.ver3, show 6 + n * 3 + key - 3 - 3 = n * 3 + key by omega, hf]
  simp [List.getD, hb, hx]
theorem SsO.setSt (h : SsO S) {key : Nat} (hk : key < 3) (x : Int) : flS { S with st := S.st.set key x } = (flS S).set key x := by
  unfold flS
  rw [List.set_append_left _ _ (by rw [h.st3]; exact hk)]
theorem SsO.setVer (h : SsO S) {key : Nat} (hk : key < 3) (x : Int) : flS { S with ver := S.ver.set key x } = (flS S).set (3 + key) x := by
  unfold flS
  rw [List.set_append_right _ _ (by rw [h.st3]; omega), h.st3, Nat.add_sub_cancel_left, List.set_append_left _ _ (by rw [h.ver3]; exact hk)]
theorem SsO.setBeg (h : SsO S) {n : Nat} (hn : n < 6) (a b c : Int) : flS { S with beg := S.beg.set n [a, b, c] } = (((flS S).set (6 + n * 3) a).set (6 + n * 3 + 1) b).set (6 + n * 3 + 2) c := by
  unfold flS
  dsimp only
  rw [flat_set _ h.bgl n a b c (by rw [h.beg6]; exact hn)]
  have e : ∀ (X Y Z : List Int) (i : Nat) (x : Int), X.length = 3 → Y.length = 3 → (X ++ (Y ++ Z)).set (6 + i) x = X ++ (Y ++ Z.set i x) := fun X Y Z i x hX hY => by
    rw [List.set_append_right _ _ (by omega), hX, List.set_append_right _ _ (by omega), hY, show 6 + i - 3 - 3 = i by omega]
  rw [show 6 + n * 3 + 1 = 6 + (n * 3 + 1) by omega, show 6 + n * 3 + 2 = 6 + (n * 3 + 2) by omega, e _ _ _ _ _ h.st3 h.ver3, e _ _ _ _ _ h.st3 h.ver3, e _ _ _ _ _ h.st3 h.ver3]
end
/-- The last writes are of different keys. -/
theorem lastW_keys {os : List T3} : (lastW os).Pairwise (fun a b => a.2.1 ≠ b.2.1) := by
  have h0 : ∀ o, lastK os 0 = some o → o.2.1 = 0 := fun o h => (lastK_some h).2.2
  have h1 : ∀ o, lastK os 1 = some o → o.2.1 = 1 := fun o h => (lastK_some h).2.2
  have h2 : ∀ o, lastK os 2 = some o → o.2.1 = 2 := fun o h => (lastK_some h).2.2
  unfold lastW
  cases g0 : lastK os 0 <;> cases g1 : lastK os 1 <;> cases g2 : lastK os 2 <;> simp_all
theorem bump_other {ver : List Int} {ws : List T3} {k : Nat} : ∀ j, (∀ o ∈ ws.take j, o.2.1.toNat ≠ k) → (bumpTo ver ws j).getD k 0 = ver.getD k 0 := by
  intro j
  induction j with
  | zero => intro _; rfl
  | succ j ih =>
    intro h
    cases hj : ws[j]? with
    | none =>
      have e1 : ws.take (j + 1) = ws.take j := by rw [List.take_add_one, hj]; simp
      have e2 : bumpTo ver ws (j + 1) = bumpTo ver ws j := by unfold bumpTo; rw [e1]
      rw [e2]; exact ih (by rw [← e1]; exact h)
    | some o =>
      have e1 : ws.take (j + 1) = ws.take j ++ [o] := by rw [List.take_add_one, hj]; rfl
      rw [e1] at h
      rw [bumpTo_succ hj]
      have hne : o.2.1.toNat ≠ k := h o (by simp)
      rw [List.getD_eq_getElem?_getD, List.getElem?_set_ne hne, ← List.getD_eq_getElem?_getD]
      exact ih (fun o' ho' => h o' (List.mem_append_left _ ho'))
theorem bump_at {ver : List Int} {os : List T3} {j : Nat} {o : T3} (h : (lastW os)[j]? = some o) (hk : ∀ o ∈ lastW os, 0 ≤ o.2.1) : (bumpTo ver (lastW os) j).getD o.2.1.toNat 0 = ver.getD o.2.1.toNat 0 := by
  refine bump_other j (fun o' ho' => ?_)
  obtain ⟨i, hi, e⟩ := List.mem_iff_getElem.1 ho'
  have hij : i < j := by rw [List.length_take] at hi; omega
  have hjl := (List.getElem?_eq_some_iff.1 h).1
  rw [List.getElem_take] at e
  have := List.pairwise_iff_getElem.1 (lastW_keys (os := os)) i j (by omega) hjl hij
  rw [e, (List.getElem?_eq_some_iff.1 h).2] at this
  have h1 := hk o (List.mem_of_getElem? h)
  have h2 := hk o' (by rw [← e]; exact List.getElem_mem _)
  omega
theorem goodTo_part {ver beg : List Int} {ws : List T3} {j : Nat} (h : goodTo ver beg ws ws.length = true) : goodTo ver beg ws j = true := by
  unfold goodTo at h ⊢
  rw [List.take_length] at h
  rw [List.all_eq_true] at h ⊢
  exact fun o ho => h o (List.mem_of_mem_take ho)
/-- A step's outcome by its parts. -/
theorem nxt_off {ts : List Tx} {S : SS} {n : Nat} (h : ¬ ((txAt ts n).2.2 = true ∧ n ∉ S.co)) : nxt ts S n = none := by unfold nxt; rw [if_neg h]
theorem nxt_begin {ts : List Tx} {S : SS} {n : Nat} (h : (txAt ts n).2.2 = true) (hc : n ∉ S.co) (hb : n ∉ S.bg) : nxt ts S n = if readsOk S.st (firstR (txAt ts n).2.1) then some { S with bg := S.bg ++ [n], beg := S.beg.set n S.ver } else none := by
  unfold nxt; rw [if_pos ⟨h, hc⟩, if_pos hb]
theorem nxt_commit {ts : List Tx} {S : SS} {n : Nat} (h : (txAt ts n).2.2 = true) (hc : n ∉ S.co) (hb : n ∈ S.bg) : nxt ts S n = if goodTo S.ver (S.beg.getD n []) (lastW (txAt ts n).2.1) (lastW (txAt ts n).2.1).length then
      some { S with st := commitS (txAt ts n).2.1 S.st, ver := bumpTo S.ver (lastW (txAt ts n).2.1) (lastW (txAt ts n).2.1).length, co := S.co ++ [n] } else none := by
  unfold nxt; rw [if_pos ⟨h, hc⟩, if_neg (fun hn => hn hb)]
theorem readsOk_no {st : List Int} {zs : List T3} {o : T3} (h : o ∈ zs) (hn : st.getD o.2.1.toNat 0 ≠ o.2.2) : readsOk st zs = false := by
  unfold readsOk
  rw [List.all_eq_false]
  exact ⟨o, h, by simpa using hn⟩
theorem readsOk_all {st : List Int} {zs : List T3} (h : ∀ (j : Nat) (o : T3), zs[j]? = some o → st.getD o.2.1.toNat 0 = o.2.2) : readsOk st zs = true := by
  unfold readsOk
  rw [List.all_eq_true]
  intro o ho
  obtain ⟨j, hj⟩ := List.getElem?_of_mem ho
  simpa using h j o hj
end Go.Proofs.YtcfkemchekmjbaaGreatDoor

namespace Go.Proofs.YtcfkemchekmjbaaGreatDoor
open Go.RowKit
theorem infoOh : (Tryz.prog.info? 61).map (fun i => (i.zero, i.size, i.bytes)) = some (some (.agg #[.int .i64 0, .int .i64 0, .int .i64 0]), 3, 24) := by kernel_rfl
/-- The operations of a transaction: a row of the call's own, at most 100. -/
def EO (w : World) (lo : Nat) (u : Value) : Prop := ∃ (m : Nat) (ys : List T3), O3 61 w lo u m ys ∧ m ≤ 100
def MT (w : World) (lo : Nat) (cs : List Value) (n : Nat) : Prop := cs.length = n * 3 ∧ ∀ j, j < n → ∃ f u d, cs[j * 3]? = some (.int .i64 f) ∧ cs[j * 3 + 1]? = some u ∧ cs[j * 3 + 2]? = some (.bool d) ∧ EO w lo u
/-- n transactions in a row of the call's own. -/
def TO (w : World) (lo : Nat) (v : Value) (n : Nat) : Prop := ∃ cs, w.ownsRow lo 66 3 v n cs ∧ MT w lo cs n
section
variable {w w' : World} {g lo n : Nat} {v : Value}
theorem own_ne {t t' : TypeId} {s s' B B' k : Nat} {q : Value} {xs ys : List Value} (h : w.ownsRow B t s q k xs) (hv : w.ownsRow B' t' s' v n ys) (ht : t ≠ t') : q.ownBlock = none ∨ q.ownBlock ≠ v.ownBlock := by
  rcases h.2 with ⟨rfl, _⟩ | ⟨g1, cap, cur, rfl, _, hh, _⟩
  · left; rfl
  · right
    rcases hv.2 with ⟨rfl, _⟩ | ⟨g2, cap2, cur2, rfl, _, hh2, _⟩
    · simp [Value.ownBlock]
    · intro he
      have e : g1 = g2 := by have h : some g1 = some g2 := he; injection h
      subst e
      rw [hh] at hh2; injection hh2 with hh2; injection hh2 with _ h2; exact absurd h2 ht
theorem own_neB {t t' : TypeId} {s B k b : Nat} {q : Value} {xs : List Value} {cs : Array Value} (h : w.ownsRow B t s q k xs) (hb : Blk w b t' cs) (ht : t ≠ t') : q.ownBlock = none ∨ q.ownBlock ≠ some b := by
  rcases h.2 with ⟨rfl, _⟩ | ⟨g1, cap, cur, rfl, _, hh, _⟩
  · left; rfl
  · right
    intro he
    have e : g1 = b := by have h : some g1 = some b := he; injection h
    subst e
    unfold Blk at hb; rw [hh] at hb; injection hb with hb; injection hb with _ h2; exact absurd h2 ht
theorem own_bne {t : TypeId} {s B k : Nat} {q : Value} {xs : List Value} (h : w.ownsRow B t s q k xs) (hg : g < B) : q.ownBlock = none ∨ q.ownBlock ≠ some g := by
  cases hv : q.ownBlock with
  | none => exact .inl rfl
  | some k => right; intro e; injection e with e; have := (World.ownsRow.lt h k hv).1; omega
theorem own_bel {t : TypeId} {s B k : Nat} {q : Value} {xs : List Value} (h : w.ownsRow B t s q k xs) (hb : Below w.heap.size w w') : w'.ownsRow B t s q k xs :=
  h.kept (row := none) ⟨hb.os, hb.tape, hb.output, hb.size, fun k hk _ => hb.block k hk⟩ (by cases hv : q.ownBlock <;> simp)
theorem own_low {t : TypeId} {s B B' k : Nat} {q : Value} {xs : List Value} (h : w.ownsRow B t s q k xs) (hB : B' ≤ B) : w.ownsRow B' t s q k xs := by
  refine ⟨h.1, ?_⟩
  rcases h.2 with h2 | ⟨g, cap, cur, hv, hb, r⟩
  · exact .inl h2
  · exact .inr ⟨g, cap, cur, hv, by omega, r⟩
theorem EO.map {u : Value} {lo' : Nat} (h : EO w lo u) (f : ∀ m ys, O3 61 w lo u m ys → O3 61 w' lo' u m ys) : EO w' lo' u := by
  obtain ⟨m, ys, o, hm⟩ := h; exact ⟨m, ys, f m ys o, hm⟩
theorem MT.map {cs : List Value} {lo' : Nat} (h : MT w lo cs n) (f : ∀ u, EO w lo u → EO w' lo' u) : MT w' lo' cs n :=
  ⟨h.1, fun j hj => by obtain ⟨a, u, d, h1, h2, h3, h4⟩ := h.2 j hj; exact ⟨a, u, d, h1, h2, h3, f u h4⟩⟩
theorem EO.kp {u : Value} (h : EO w lo u) (hg : w.grownBy w' (some g)) (hl : g < lo) : EO w' lo u := h.map (fun _ _ o => ⟨o.1.kept hg (own_bne o.1 hl), o.2⟩)
theorem TO.kp (h : TO w lo v n) (hg : w.grownBy w' (some g)) (hl : g < lo) : TO w' lo v n := by
  obtain ⟨cs, h1, h2⟩ := h
  exact ⟨cs, h1.kept hg (own_bne h1 hl), h2.map (fun _ h => h.kp hg hl)⟩
theorem TO.below (h : TO w lo v n) (hb : Below w.heap.size w w') : TO w' lo v n := by
  obtain ⟨cs, h1, h2⟩ := h
  exact ⟨cs, own_bel h1 hb, h2.map (fun _ h => h.map (fun _ _ o => o.below hb))⟩
theorem TO.alloc (h : TO w lo v n) (o : Obj) : TO (w.alloc o) lo v n := h.below (beB0 _ _)
theorem TO.mono {lo' : Nat} (h : TO w lo v n) (hl : lo' ≤ lo) : TO w lo' v n := by
  obtain ⟨cs, h1, h2⟩ := h
  exact ⟨cs, own_low h1 hl, h2.map (fun _ h => h.map (fun _ _ o => o.mono hl))⟩
theorem TO.empty (w : World) : TO (w.alloc (.cells #[] 66)) w.heap.size (.slice (some ⟨w.heap.size, 0, none⟩) 0 0) 0 :=
  ⟨[], ⟨rfl, .inr ⟨w.heap.size, 0, #[], rfl, Nat.le_refl _, Blk.new w _ _, Nat.le_refl _, by simp [maxLen], rfl, rfl⟩⟩, rfl, fun j hj => absurd hj (by omega)⟩
theorem TO.rd {P : Nat} (o : TO w lo v n) (r : RD w g P) (hB : g < lo) (k : w.grownBy w' v.ownBlock) : RD w' g P := by
  obtain ⟨cs, o, _⟩ := o
  exact r.grown k fun i hi => by have := (World.ownsRow.lt o i hi).1; omega
theorem TO.int {q : Value} {k B : Nat} {xs : List Int} (o : TO w lo v n) (h : OI w B q k xs) (hk : w.grownBy w' v.ownBlock) : OI w' B q k xs := by
  obtain ⟨cs, o, _⟩ := o
  exact ⟨h.1.kept hk (own_ne h.1 o (by decide)), h.2⟩
theorem Rd.three' {b : Nat} {t : TypeId} {x y z : Value} (h : Blk w b t #[x, y, z]) : Rd w 3 (some ⟨b, 0, none⟩) 1 [x, y, z] :=
  ⟨rfl, fun _ => ⟨b, 0, rfl, h.lt, fun k u hu => by
    rw [Nat.zero_add, h.cell]
    match k, hu with
    | 0, hu => simpa using hu
    | 1, hu => simpa using hu
    | 2, hu => simpa using hu⟩⟩
theorem MT.snoc {cs : List Value} {f : Int} {u : Value} {d : Bool} (h : MT w lo cs n) (hu : EO w lo u) : MT w lo (cs ++ [.int .i64 f, u, .bool d]) (n + 1) := by
  have hl := h.1
  refine ⟨by simp [hl]; omega, fun j hj => ?_⟩
  by_cases e : j < n
  · obtain ⟨a, x, dd, h1, h2, h3, h4⟩ := h.2 j e
    exact ⟨a, x, dd, by rw [List.getElem?_append_left (by omega)]; exact h1, by rw [List.getElem?_append_left (by omega)]; exact h2, by rw [List.getElem?_append_left (by omega)]; exact h3, h4⟩
  · obtain rfl : j = n := by omega
    exact ⟨f, u, d, by rw [List.getElem?_append_right (by omega), show j * 3 - cs.length = 0 by omega]; rfl, by rw [List.getElem?_append_right (by omega), show j * 3 + 1 - cs.length = 1 by omega]; rfl, by rw [List.getElem?_append_right (by omega), show j * 3 + 2 - cs.length = 2 by omega]; rfl, hu⟩
end
end Go.Proofs.YtcfkemchekmjbaaGreatDoor

namespace Go.Proofs.YtcfkemchekmjbaaGreatDoor
open Go.RowKit Go.Maps
theorem lawIntF : Keyed Tryz.prog 3 := int_keyed Tryz.underlying3
def kF (x : Int) : Lit := .int .i64 x
theorem keyF {x : Int} (h0 : 0 ≤ x) (h1 : x ≤ 1000) : keyOf Tryz.prog 3 (.int .i64 x) = some (kF x) := keyOf_int_mk Tryz.underlying3 (WalkArith.wf_i64 (by omega))
set_option maxRecDepth 100000 in
theorem zeroBo (w : World) : (zeroValue 4).run Tryz.prog w = .ok (.bool false) w := by kernel_rfl
set_option maxRecDepth 100000 in
theorem plainB {H : Type} (x : Bool) : (plainElem Tryz.prog 4 (.bool x) : Option (DataW H × List MemPlace)) = some (.lit (.bool x), []) := by
  unfold plainElem; rw [Tryz.underlying4]
set_option maxRecDepth 100000 in
theorem plainB_inv {H : Type} {v : Value} {z : DataW H × List MemPlace} (h : plainElem Tryz.prog 4 v = some z) : ∃ x, v = .bool x := by
  unfold plainElem at h
  rw [Tryz.underlying4] at h
  cases v <;> simp at h
  exact ⟨_, rfl⟩
/-- A map of bools of the call's own. -/
def TM (w : World) (b n : Nat) : Prop := ∃ D : DataW Unit, w.ownsMap Tryz.prog 3 (plainElem Tryz.prog 4) b n D
theorem TM.zero (w : World) : TM (w.alloc (.map #[] 0)) w.heap.size 0 := ⟨_, World.ownsMap_made w _ _ _⟩
theorem TM.lt {w : World} {b n : Nat} (h : TM w b n) : b < w.heap.size := by obtain ⟨D, ho⟩ := h; exact ho.lt
theorem TM.below {w w' : World} {b n : Nat} (h : TM w b n) (hb : Below w.heap.size w w') : TM w' b n := by
  obtain ⟨D, ho⟩ := h
  have hlt := ho.lt
  obtain ⟨es, cl, h3, h4⟩ := ho
  exact ⟨D, es, cl, (hb.block b hlt).trans h3, h4⟩
theorem TM.grown {w w' : World} {b n : Nat} {row : Option Nat} (h : TM w b n) (hg : w.grownBy w' row) (hne : some b ≠ row) : TM w' b n := by
  obtain ⟨D, ho⟩ := h
  have hlt := ho.lt
  obtain ⟨es, cl, h3, h4⟩ := ho
  exact ⟨D, es, cl, (hg.block b hlt hne).trans h3, h4⟩
theorem TM.alloc {w : World} {b n : Nat} (h : TM w b n) (o : Obj) : TM (w.alloc o) b n := h.below ((Below.refl _ _).alloc (Nat.le_refl _) _)
theorem TM.mono {w : World} {b n m : Nat} (h : TM w b n) (hm : n ≤ m) : TM w b m := by obtain ⟨D, h⟩ := h; exact ⟨D, h.mono hm⟩
/-- A row is no map. -/
theorem TM.ne {w : World} {b n k s B : Nat} {t : TypeId} {q : Value} {xs : List Value} (h : TM w b n) (ho : w.ownsRow B t s q k xs) : some b ≠ q.ownBlock := fun e => by
  obtain ⟨D, es, cl, h3, _⟩ := h
  rcases ho.2 with ⟨rfl, _⟩ | ⟨g, cap, cur, rfl, _, hh, _⟩
  · simp [Value.ownBlock] at e
  · have e1 : b = g := by have h : some b = some g := e; injection h
    subst e1
    rw [hh] at h3; injection h3 with h3; cases h3
set_option maxRecDepth 100000 in
theorem TM.look {w : World} {b n : Nat} {y : Int} (h : TM w b n) (h0 : 0 ≤ y) (h1 : y ≤ 1000) : ∃ c, (Instr.lookup 179 (.map (some b)) (.int .i64 y) false).run Tryz.prog w = .ok (.bool c) w := by
  obtain ⟨D, hown⟩ := h
  obtain ⟨v, ps, hrun, hv⟩ := hown.lookup lawIntF Tryz.underlying179 (zeroBo w) (plainB false) (keyF h0 h1)
  obtain ⟨c, rfl⟩ := plainB_inv hv
  exact ⟨c, by simpa using hrun⟩
theorem O3.fresh {te : TypeId} {w : World} {B : Nat} {v : Value} {n : Nat} {ts : List T3} (h : O3 te w B v n ts) : some w.heap.size ≠ v.ownBlock := fun e => by have := (World.ownsRow.lt h.1 _ e.symm).2; omega
set_option maxRecDepth 100000 in
theorem made3 (w : World) : (Instr.makeSlice 64 (.int .i64 0) (.int .i64 3)).run Tryz.prog w = .ok (.slice (some ⟨w.heap.size, 0, none⟩) 0 3) (w.alloc (.cells (madeCells #[.int .i64 0, .int .i64 0, .int .i64 0] 9) 61)) := by
  obtain ⟨i, hi, hz, hs, hb⟩ := info_parts infoOh
  have := run_make_rowN 64 61 i (.agg #[.int .i64 0, .int .i64 0, .int .i64 0]) Tryz.underlying64 hi hz .i64 .i64 0 3 (Nat.zero_le _) (by rw [hb]; omega) (by omega) w
  rw [hs] at this
  exact this
theorem made3_o (w : World) : O3 61 (w.alloc (.cells (madeCells #[.int .i64 0, .int .i64 0, .int .i64 0] 9) 61)) w.heap.size (.slice (some ⟨w.heap.size, 0, none⟩) 0 3) 0 [] :=
  ⟨⟨rfl, .inr ⟨w.heap.size, 3, _, rfl, Nat.le_refl _, Blk.new w _ _, Nat.zero_le _, by simp [maxLen], by simp [size_madeCells], by simp [flat3]⟩⟩, by omega⟩
/-- A slice of operations in a row of operations. -/
def SO (w : World) (v : Value) (n : Nat) (zs : List T3) : Prop := ∃ A, v = .slice A n n ∧ n ≤ 1048576 ∧ zs.length = n ∧ (0 < n → ∃ b cur, A = some ⟨b, 0, none⟩ ∧ Blk w b 61 cur ∧ ∀ (k : Nat) (x : Int), (flat3 zs)[k]? = some x → cur[k]? = some (.int .i64 x))
theorem SO.below {w w' : World} {v : Value} {n : Nat} {zs : List T3} (h : SO w v n zs) (hb : Below w.heap.size w w') : SO w' v n zs := by
  obtain ⟨A, h1, h2, h3, h4⟩ := h
  exact ⟨A, h1, h2, h3, fun hn => by obtain ⟨b, cur, e, hB, hc⟩ := h4 hn; exact ⟨b, cur, e, hB.belowAll hb, hc⟩⟩
theorem SO.row {w w' : World} {v q : Value} {n m s B : Nat} {t : TypeId} {xs : List Value} {zs : List T3} (h : SO w v n zs) (ho : w.ownsRow B t s q m xs) (ht : t ≠ 61) (hg : w.grownBy w' q.ownBlock) : SO w' v n zs := by
  obtain ⟨A, h1, h2, h3, h4⟩ := h
  exact ⟨A, h1, h2, h3, fun hn => by
    obtain ⟨b, cur, e, hB, hc⟩ := h4 hn
    exact ⟨b, cur, e, hB.grown hg (fun e => by
      rcases own_neB ho hB ht with q | q
      · rw [q] at e; cases e
      · exact q e.symm), hc⟩⟩
theorem SO.s3 {w : World} {v : Value} {n : Nat} {zs : List T3} (h : SO w v n zs) : ∃ A, v = .slice A n n ∧ n ≤ 1048576 ∧ R3 w A n zs := by
  obtain ⟨A, h1, h2, h3, h4⟩ := h
  refine ⟨A, h1, h2, h3, fun hn => ?_⟩
  obtain ⟨b, cur, e, hB, hc⟩ := h4 hn
  exact ⟨b, 0, e, hB.lt, fun k x hk => by
    rw [Nat.zero_add]
    exact (hB.cell _).trans (hc k x hk)⟩
theorem slice3 {A : Option Addr} {n c B : Nat} {ys : List T3} {w : World} (h : O3 61 w B (.slice A n c) n ys) :
    ∃ A', (∀ w', (Instr.slice 64 (.slice A n c) none (some (.int .i64 (n : Int))) (some (.int .i64 (n : Int)))).run Tryz.prog w' = .ok (.slice A' n n) w') ∧ SO w (.slice A' n n) n ys := by
  have hl := h.len
  obtain ⟨A0, c0, e, hnc, hn, hr⟩ := h.s3
  injection e with e1 e2 e3
  subst e1; subst e3
  obtain ⟨i, hi, hz, hsz, hb⟩ := info_parts infoOh
  refine ⟨if n = 0 then A else A.map (·.add (0 * i.size)), fun w' => ?_, _, rfl, hn, hl, fun hk0 => ?_⟩
  · simp [Instr.slice, Instr.sliceBounds, Instr.sliceBound, run_underlying Tryz.underlying64, sizeOf, typeInfo, hi, asIntOf, hnc]
  · rcases h.1.2 with ⟨_, h0⟩ | ⟨g, cap, cur, e, hB, hg, hc, hcm, hs, ht⟩
    · omega
    · injection e with e _ _
      subst e
      refine ⟨g, cur, ?_, hg, fun k x hk => ?_⟩
      · rw [if_neg (by omega), Nat.zero_mul]; simp [addr_add]
      · have hkl : k < n * 3 := by have := (List.getElem?_eq_some_iff.1 hk).1; rw [flat3_len, hl] at this; exact this
        have : (cur.toList.take (n * 3))[k]? = some (.int .i64 x) := by rw [ht]; simp [hk]
        rw [List.getElem?_take_of_lt hkl] at this
        simpa using this
end Go.Proofs.YtcfkemchekmjbaaGreatDoor

namespace Go.Proofs.YtcfkemchekmjbaaGreatDoor
open Go.RowKit Go.Maps
theorem kF_inj {x y : Int} (h : kF x = kF y) : x = y := by unfold kF at h; injection h
set_option maxRecDepth 100000 in
theorem plainB_inv2 {H : Type} {v : Value} {z : DataW H × List MemPlace} (h : plainElem Tryz.prog 4 v = some z) : ∃ x, v = .bool x ∧ z = (.lit (.bool x), []) := by
  unfold plainElem at h
  rw [Tryz.underlying4] at h
  cases v <;> simp at h
  exact ⟨_, rfl, h.symm⟩
/-- The map at block b: the keys of os. -/
def TX (w : World) (b n : Nat) (os : List T3) : Prop := ∃ D : DataW Unit, w.ownsMap Tryz.prog 3 (plainElem Tryz.prog 4) b n D ∧ ∀ q, D.atKey (kF q) (.lit (.bool false)) = .lit (.bool (lastO os q).isSome)
theorem TX.zero (w : World) : TX (w.alloc (.map #[] 0)) w.heap.size 0 [] := ⟨_, World.ownsMap_made w _ _ _, fun _ => rfl⟩
theorem TX.lt {w : World} {b n : Nat} {os : List T3} (h : TX w b n os) : b < w.heap.size := by obtain ⟨D, ho, _⟩ := h; exact ho.lt
theorem TX.below {w w' : World} {b n : Nat} {os : List T3} (h : TX w b n os) (hb : Below w.heap.size w w') : TX w' b n os := by
  obtain ⟨D, ho, h2⟩ := h
  have hlt := ho.lt
  obtain ⟨es, cl, h3, h4⟩ := ho
  exact ⟨D, ⟨es, cl, (hb.block b hlt).trans h3, h4⟩, h2⟩
theorem TX.grown {w w' : World} {b n : Nat} {row : Option Nat} {os : List T3} (h : TX w b n os) (hg : w.grownBy w' row) (hne : some b ≠ row) : TX w' b n os := by
  obtain ⟨D, ho, h2⟩ := h
  have hlt := ho.lt
  obtain ⟨es, cl, h3, h4⟩ := ho
  exact ⟨D, ⟨es, cl, (hg.block b hlt hne).trans h3, h4⟩, h2⟩
theorem TX.alloc {w : World} {b n : Nat} {os : List T3} (h : TX w b n os) (o : Obj) : TX (w.alloc o) b n os := h.below ((Below.refl _ _).alloc (Nat.le_refl _) _)
theorem TX.tm {w : World} {b n : Nat} {os : List T3} (h : TX w b n os) : TM w b n := by obtain ⟨D, ho, _⟩ := h; exact ⟨D, ho⟩
set_option maxRecDepth 100000 in
theorem TX.look {w : World} {b n : Nat} {os : List T3} {y : Int} (h : TX w b n os) (h0 : 0 ≤ y) (h1 : y ≤ 1000) : (Instr.lookup 179 (.map (some b)) (.int .i64 y) false).run Tryz.prog w = .ok (.bool (lastO os y).isSome) w := by
  obtain ⟨D, hown, hD⟩ := h
  obtain ⟨v, ps, hrun, hv⟩ := hown.lookup lawIntF Tryz.underlying179 (zeroBo w) (plainB false) (keyF h0 h1)
  obtain ⟨c, rfl, hc⟩ := plainB_inv2 hv
  have hc1 := congrArg Prod.fst hc
  have e : c = (lastO os y).isSome := by
    have := (hD y).symm.trans hc1
    injection this with this; injection this with this; exact this.symm
  rw [← e]
  simpa using hrun
theorem TX.step {w' : World} {b n k : Nat} {os : List T3} {o : T3} {D : DataW Unit} (hm : IsMap D) (h2 : ∀ q, D.atKey (kF q) (.lit (.bool false)) = .lit (.bool (lastO (os.take k) q).isSome))
    (hk : os[k]? = some o) (h : w'.ownsMap Tryz.prog 3 (plainElem Tryz.prog 4) b n (D.put (kF o.2.1) (.lit (.bool true)))) : TX w' b n (os.take (k + 1)) := by
  refine ⟨_, h, fun q => ?_⟩
  rw [List.take_add_one, hk]
  simp only [Option.toList_some]
  rw [lastO_snoc]
  by_cases e : o.2.1 = q
  · subst e
    rw [if_pos rfl, atKey_put_same hm (show Go.WideAt.IsKeyLit (kF _) from trivial)]; rfl
  · rw [if_neg e, atKey_put_other (fun h => e (kF_inj h).symm)]
    exact h2 q
set_option maxRecDepth 100000 in
set_option maxHeartbeats 8000000 in
theorem firstReads_x {u : Value} {m : Nat} {ys : List T3} {f : Int} {dn : Bool} {w : World} (hu : S3 w u m ys) (hm : m ≤ 6) (hk : ∀ o ∈ ys, 0 ≤ o.2.1 ∧ o.2.1 ≤ 2) :
    Calls Tryz.prog 101 #[.agg #[.int .i64 f, u, .bool dn]] w fun e w' => ∃ A n, e = .returned (.slice A n n) ∧ n ≤ m ∧ SO w' (.slice A n n) n (firstR ys) ∧ Below w.heap.size w w' := by
  obtain ⟨A, c, rfl, hnc, hmm, hr⟩ := hu
  have hl := hide hr.len
  have hmk := fun (v : World) => run_makeMap (P := Tryz.prog) 179 v
  have hm3 := made3
  have KB := Blk.new w 66 #[.int .i64 f, .slice A m c, .bool dn]
  have o0 := ((made3_o (w.alloc (.cells #[.int .i64 f, .slice A m c, .bool dn] 66))).mono (B' := w.heap.size) (by simp)).alloc (.map #[] 0)
  have T0 := TX.zero ((w.alloc (.cells #[.int .i64 f, .slice A m c, .bool dn] 66)).alloc (.cells (madeCells #[.int .i64 0, .int .i64 0, .int .i64 0] 9) 61))
  have B0 : Below w.heap.size w (((w.alloc (.cells #[.int .i64 f, .slice A m c, .bool dn] 66)).alloc (.cells (madeCells #[.int .i64 0, .int .i64 0, .int .i64 0] 9) 61)).alloc (.map #[] 0)) := (((Below.refl w.heap.size w).alloc (Nat.le_refl _) _).alloc (by simp) _).alloc (by simp <;> omega) _
  simp only [World.size_alloc] at o0 T0
  have O0 := hide o0; have T0' := hide T0; have B0' := hide B0
  clear o0 T0 B0 KB
  go_enter Tryz.func101, Tryz.ntmps101
  go_wp2_with fail
  go_loopw [3, 12] (fun v i W => ∃ (k n : Nat), i = .int .i64 k ∧ k ≤ m ∧ O3 61 W w.heap.size v n (firstTo ys k) ∧ n ≤ k ∧ TX W (w.heap.size + 1 + 1) k (ys.take k) ∧ Below w.heap.size w W) (fun _ i _ => m - (intOf i).toNat)
  case atStart => exact ⟨0, 0, rfl, Nat.zero_le _, O0.out, Nat.le_refl _, T0'.out, B0'.out⟩
  case round =>
    clear O0 T0' B0' hm3 hmk
    rename World => wr
    obtain ⟨k, n, rfl, hkm, ho, hnk, hT, bw⟩ := hrel
    by_cases hlt : k < m
    · obtain ⟨b, off, x, y, z, rfl, hbb, hx, p0, p1, p2⟩ := hr.at_ hlt
      have a0 := (bw.cell (p := ⟨b, off + k * 3, none⟩) hbb).trans p0
      have a1 := (bw.cell (p := ⟨b, off + k * 3 + 1, none⟩) hbb).trans p1
      have a2 := (bw.cell (p := ⟨b, off + k * 3 + 2, none⟩) hbb).trans p2
      obtain ⟨hy0, hy2⟩ := hk _ (List.mem_of_getElem? hx)
      dsimp only at hy0 hy2
      have HX := hide hx
      clear hx p0 p1 p2
      have k0 : (0 : Int) ≤ k := by omega
      have k2 : (k : Int) < m := by omega
      have K1 := Blk.new wr 61 #[.int .i64 x, .int .i64 y, .int .i64 z]
      have b1 : Below w.heap.size w (wr.alloc (.cells #[.int .i64 x, .int .i64 y, .int .i64 z] 61)) := bw.alloc bw.size _
      have ho1 := ho.alloc (.cells #[.int .i64 x, .int .i64 y, .int .i64 z] 61)
      have hT1 := hT.alloc (.cells #[.int .i64 x, .int .i64 y, .int .i64 z] 61)
      have hfr := ho.fresh
      clear ho hT
      go_wp2_with fail
      refine (readsOp_c).mono ?_
      rintro e w2 ⟨rfl, b2⟩
      have B2 := below_step b1 b2
      have K2 := K1.belowAll b2
      have ho2 := ho1.below b2
      have hT2 := hT1.below b2
      have hlt2 := hT2.lt
      obtain ⟨f0, f1, f2⟩ := K2.three
      clear K1 ho1 hT1 b1 b2 bw a0 a1 a2
      by_cases hx1 : x = 1
      · subst hx1
        rw [show ((1 : Int) == 1) = true by rfl]
        have hlk := hT2.look hy0 (by omega)
        by_cases hlo : lastO (ys.take k) y = none
        · rw [hlo] at hlk
          have HF := hide (firstTo_yes HX.out rfl hlo)
          have KN := Blk.new w2 61 #[.int .i64 1, .int .i64 y, .int .i64 z]
          have ho3 := ho2.alloc (.cells #[.int .i64 1, .int .i64 y, .int .i64 z] 61)
          have hT3 := hT2.alloc (.cells #[.int .i64 1, .int .i64 y, .int .i64 z] 61)
          have B3 := B2.alloc B2.size (.cells #[.int .i64 1, .int .i64 y, .int .i64 z] 61)
          have K3 := K2.alloc (.cells #[.int .i64 1, .int .i64 y, .int .i64 z] 61)
          have hs3 := B2.size
          clear ho2 hT2 K2 hlo
          have f0' := K3.three
          obtain ⟨e0, e1, e2⟩ := f0'
          go_upto_region 8 with (at_builtin; refine wpList_app3 rfl _ _ rfl Tryz.underlying64 infoOh rfl ho3 rfl (S3.one KN (Nat.le_refl _)) (by omega) (by simp <;> omega) ?_; intro v4 w4 o4 hg4 hat4)
          have hT4 := hT3.grown hg4 (TM.ne hT3.tm ho3.1)
          have B4 := below_app3 B3 ho3 (Nat.le_refl _) hg4
          have K4 : w4.cell? ⟨wr.heap.size, 1, none⟩ = some (.int .i64 y) := (K3.grown hg4 hfr).cell 1
          rw [← HF.out] at o4
          clear f0 f1 f2 ho3 hT3 K3 KN hlk
          obtain ⟨D, hown, hD⟩ := hT4
          have HD := hide hD
          have hown2 := hown
          have HM := hide hown.isMap
          have hneO := TM.ne ⟨D, hown⟩ o4.1
          have KF := hide (keyF (x := y) (by omega) (by omega))
          clear hD
          go_wp2_with (at_mapUpdate; refine wpList_mapUpdate_own _ rfl _ _ _ 179 rfl 3 4 lawIntF Tryz.underlying179 (plainElem Tryz.prog 4) (w.heap.size + 1 + 1) k D rfl hown2 (by unfold maxLen; omega) _ _ _ rfl rfl KF.out _ [] (plainB true) ?_; intro w9 hown9 hg9)
          go_roundw
          case rel => exact ⟨k + 1, n + 1, by go_num, by omega, O3.grown o4 hg9 (.inr (fun e => hneO e.symm)), by omega, TX.step HM.out HD.out HX.out hown9, B4.grown hg9 B4.size (fun j e => by injection e with e; omega)⟩
          case measure => simp [intOf]; omega
        · have hsm : (lastO (ys.take k) y).isSome = true := by cases h : lastO (ys.take k) y with
            | none => exact absurd h hlo
            | some p => rfl
          rw [hsm] at hlk
          have HF := hide (firstTo_no HX.out (fun h => hlo h.2))
          clear K2 hlo hsm
          obtain ⟨D, hown, hD⟩ := hT2
          have HD := hide hD
          have hown2 := hown
          have HM := hide hown.isMap
          have hneO := TM.ne ⟨D, hown⟩ ho2.1
          have KF := hide (keyF (x := y) (by omega) (by omega))
          clear hD
          go_wp2_with (at_mapUpdate; refine wpList_mapUpdate_own _ rfl _ _ _ 179 rfl 3 4 lawIntF Tryz.underlying179 (plainElem Tryz.prog 4) (w.heap.size + 1 + 1) k D rfl hown2 (by unfold maxLen; omega) _ _ _ rfl rfl KF.out _ [] (plainB true) ?_; intro w9 hown9 hg9)
          go_roundw
          case rel => exact ⟨k + 1, n, by go_num, by omega, by rw [HF.out]; exact O3.grown ho2 hg9 (.inr (fun e => hneO e.symm)), by omega, TX.step HM.out HD.out HX.out hown9, B2.grown hg9 B2.size (fun j e => by injection e with e; omega)⟩
          case measure => simp [intOf]; omega
      · have hxb : (x == 1) = false := by simpa using hx1
        have HF := hide (firstTo_no HX.out (fun h => hx1 h.1))
        rw [hxb]
        go_upto_region 8 with fail
        clear K2 hx1
        obtain ⟨D, hown, hD⟩ := hT2
        have HD := hide hD
        have hown2 := hown
        have HM := hide hown.isMap
        have hneO := TM.ne ⟨D, hown⟩ ho2.1
        have KF := hide (keyF (x := y) (by omega) (by omega))
        clear hD
        go_wp2_with (at_mapUpdate; refine wpList_mapUpdate_own _ rfl _ _ _ 179 rfl 3 4 lawIntF Tryz.underlying179 (plainElem Tryz.prog 4) (w.heap.size + 1 + 1) k D rfl hown2 (by unfold maxLen; omega) _ _ _ rfl rfl KF.out _ [] (plainB true) ?_; intro w9 hown9 hg9)
        go_roundw
        case rel => exact ⟨k + 1, n, by go_num, by omega, by rw [HF.out]; exact O3.grown ho2 hg9 (.inr (fun e => hneO e.symm)), by omega, TX.step HM.out HD.out HX.out hown9, B2.grown hg9 B2.size (fun j e => by injection e with e; omega)⟩
        case measure => simp [intOf]; omega
    · obtain rfl : k = m := by omega
      obtain ⟨Ao, co, rfl⟩ := ho.shape
      obtain ⟨A', rc, sc⟩ := slice3 ho
      have hfr : firstTo ys k = firstR ys := by unfold firstR; rw [hl.out]
      rw [hfr] at sc
      have HR3 := hide sc
      clear sc hfr
      go_wp2_with fail
      go_ret
      exact ⟨A', n, rfl, hnk, HR3.out, bw⟩
end Go.Proofs.YtcfkemchekmjbaaGreatDoor
