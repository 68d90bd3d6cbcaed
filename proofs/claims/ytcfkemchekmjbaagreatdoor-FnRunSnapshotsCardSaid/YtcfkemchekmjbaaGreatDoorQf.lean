/- Merged (what the law reaches): RegInv, RunS. -/
import Derived.Test.YtcfkemchekmjbaaGreatDoorQe
import Derived.Deep.RegionHeld3
import Derived.Deep.RegionLaw
import Derived.Deep.RegionWith
import Derived.BigRegion
namespace Go.Proofs.YtcfkemchekmjbaaGreatDoor
open Go.RowKit
section
variable {P : Program} {ops : Array Oper} {Q : Exit → Act → World → Prop} {md : Region.Mode}
theorem count_set : ∀ (l : List Bool) (i : Nat), l[i]? = some false → (l.set i true).count false + 1 = l.count false
  | [], i, h => by simp at h
  | b :: l, 0, h => by simp at h; subst h; simp
  | b :: l, i + 1, h => by
    have := count_set l i (by simpa using h)
    simp only [List.set_cons_succ, List.count_cons]
    omega
/-- What holds behind the operations that are listed. -/
abbrev RInv := Array Bool → Act → World → Prop
/-- The dependencies of an operation. -/
def depsOf (md : Region.Mode) (o : Oper) : List Nat := (o.after.toList.filter fun e => Region.binds md e).map (·.on)
/-- One obligation an operation, from number k on. -/
def StepsOK (P : Program) (md : Region.Mode) (ops : Array Oper) (Q : Exit → Act → World → Prop) (Inv : RInv) : Nat → List Oper → Prop
  | _, [] => True
  | k, o :: os => (∀ (l : Array Bool) (a : Act) (w : World) (K' : Act → World → Prop), Shut (∀ a w, Inv (l.setIfInBounds k true) a w → K' a w) → l[k]? = some false → (∀ d ∈ depsOf md o, l.getD d false = true) → Inv l a w →
      if Region.wanted o (yielded ops a.tmps) = true then Oper.wp P o a w K' Q else K' (a.put o.dst undef) w) ∧ StepsOK P md ops Q Inv (k + 1) os
theorem StepsOK.get {Inv : RInv} : ∀ (os : List Oper) (k : Nat), StepsOK P md ops Q Inv k os → ∀ (i : Nat) (o : Oper), os[i]? = some o →
    ∀ (l : Array Bool) (a : Act) (w : World) (K' : Act → World → Prop), Shut (∀ a w, Inv (l.setIfInBounds (k + i) true) a w → K' a w) → l[k + i]? = some false → (∀ d ∈ depsOf md o, l.getD d false = true) → Inv l a w →
      if Region.wanted o (yielded ops a.tmps) = true then Oper.wp P o a w K' Q else K' (a.put o.dst undef) w
  | [], _, _, i, o, h => by simp at h
  | o' :: os, k, hs, 0, o, h => by
    have : o' = o := by simpa using h
    subst this
    exact hs.1
  | o' :: os, k, hs, i + 1, o, h => by
    have := StepsOK.get os (k + 1) hs.2 i o (by simpa using h)
    rw [show k + 1 + i = k + (i + 1) by omega] at this
    exact this
/-- In the text's order nothing waits for a later one. -/
def forward (md : Region.Mode) (ops : Array Oper) : Bool := (List.range ops.size).all fun i => match ops[i]? with | some o => (depsOf md o).all (fun d => decide (d < i)) | none => true
theorem all_listed (hf : forward md ops = true) {l : Array Bool} (hsz : l.size = ops.size) (hr : Region.ready md ops l = []) : ∀ i, i < ops.size → l.getD i false = true := by
  intro i
  induction i using Nat.strongRecOn with
  | _ i ih =>
    intro hi
    cases hb : l.getD i false with
    | true => rfl
    | false =>
      exfalso
      have hmem : i ∈ Region.ready md ops l := by
        refine mem_ready.2 ⟨?_, ops[i], Array.getElem?_eq_getElem hi, fun e he hbi => ?_⟩
        · have his : i < l.size := by omega
          simpa [Array.getD, his] using hb
        · have h1 := List.all_eq_true.1 hf i (List.mem_range.2 hi)
          rw [Array.getElem?_eq_getElem hi] at h1
          have h2 := List.all_eq_true.1 h1 e.on (by
            unfold depsOf
            exact List.mem_map.2 ⟨e, List.mem_filter.2 ⟨Array.mem_toList_iff.2 he, hbi⟩, rfl⟩)
          have h3 : e.on < i := by simpa using h2
          exact ih e.on h3 (by omega)
      rw [hr] at hmem; cases hmem
/-- Does i wait for j, straight or through others? -/
def reaches (md : Region.Mode) (ops : Array Oper) : Nat → Nat → Nat → Bool
  | 0, _, _ => false
  | f + 1, i, j => match ops[i]? with | some o => (depsOf md o).any fun d => d == j || reaches md ops f d j | none => false
def Down (md : Region.Mode) (ops : Array Oper) (l : Array Bool) : Prop := ∀ i o, ops[i]? = some o → l.getD i false = true → ∀ d ∈ depsOf md o, l.getD d false = true
theorem reaches_sound {l : Array Bool} (hD : Down md ops l) : ∀ (f i j : Nat) (o : Oper), ops[i]? = some o → (∀ d ∈ depsOf md o, l.getD d false = true) → reaches md ops f i j = true → l.getD j false = true
  | 0, i, j, o, _, _, h => by simp [reaches] at h
  | f + 1, i, j, o, ho, hd, h => by
    unfold reaches at h
    rw [ho] at h
    obtain ⟨d, hdm, h1⟩ := List.any_eq_true.1 h
    have hld := hd d hdm
    rcases Bool.or_eq_true_iff.1 h1 with h2 | h2
    · rw [← beq_iff_eq.1 h2]; exact hld
    · cases ho2 : ops[d]? with
      | none => cases f <;> simp [reaches, ho2] at h2
      | some o2 => exact reaches_sound hD f d j o2 ho2 (hD d o2 ho2 hld) h2
/-- All behind the first T wait for all of the first T. -/
def tailB (md : Region.Mode) (ops : Array Oper) (T : Nat) : Bool := (List.range ops.size).all fun i => decide (i < T) || (List.range T).all fun j => reaches md ops 40 i j
/-- The first T listed, no others. -/
def firstT (T n : Nat) : Array Bool := (Array.replicate T true) ++ (Array.replicate (n - T) false)
theorem firstT_eq {l : Array Bool} {T n : Nat} (hT : T ≤ n) (hs : l.size = n) (h1 : ∀ i, i < T → l.getD i false = true) (h2 : ∀ i, T ≤ i → l.getD i false = false) : l = firstT T n := by
  apply Array.ext_getElem?
  intro i
  unfold firstT
  rw [Array.getElem?_append]
  simp only [Array.size_replicate, Array.getElem?_replicate]
  by_cases hi : i < n
  · have e : l[i]? = some (l.getD i false) := by simp [Array.getD_eq_getD_getElem?, Array.getElem?_eq_getElem (show i < l.size by omega)]
    by_cases e1 : i < T
    · rw [if_pos e1, if_pos e1, e, h1 i e1]
    · rw [if_neg e1, if_pos (by omega), e, h2 i (by omega)]
  · rw [Array.getElem?_eq_none (by omega), if_neg (by omega), if_neg (by omega)]
theorem getD_set_self {l : Array Bool} {i : Nat} (h : l[i]? = some false) : (l.setIfInBounds i true).getD i false = true := by
  have his := (Array.getElem?_eq_some_iff.1 h).1
  simp [Array.getD_eq_getD_getElem?, his]
theorem getD_set_ne' {l : Array Bool} {i j : Nat} (h : i ≠ j) : (l.setIfInBounds i true).getD j false = l.getD j false := by
  simp [Array.getD_eq_getD_getElem?, Array.getElem?_setIfInBounds_ne h]
theorem wpAny_invT (T : Nat) (hT : T < ops.size) (hf : forward md ops = true) (ht : tailB md ops T = true) (Inv : RInv) (hsz : ∀ l a w, Inv l a w → l.size = ops.size)
    (step : ∀ i o l a w, i < T → ops[i]? = some o → l[i]? = some false → (∀ e ∈ o.after, Region.binds md e = true → l.getD e.on false = true) → Inv l a w → wpOp P ops Q i (Inv (l.setIfInBounds i true)) a w)
    (fin : ∀ a w, Inv (firstT T ops.size) a w → wpAny P md ops Q (ops.size - T) (firstT T ops.size) a w) :
    ∀ (fuel : Nat) (l : Array Bool) (a : Act) (w : World), (l.toList.count false = fuel) → (∀ i, T ≤ i → l.getD i false = false) → Down md ops l → Inv l a w → wpAny P md ops Q fuel l a w := by
  have hcount : ∀ (l : Array Bool), l = firstT T ops.size → l.toList.count false = ops.size - T := by
    intro l hl; subst hl; unfold firstT; simp [List.count_replicate]
  intro fuel
  induction fuel with
  | zero =>
    intro l a w hc htl hD hI
    exfalso
    have h1 := htl T (Nat.le_refl _)
    have his : T < l.size := by rw [hsz l a w hI]; exact hT
    have h2 : l[T] = false := by simpa [Array.getD, his] using h1
    have : false ∈ l.toList := by rw [← h2]; exact Array.getElem_mem_toList his
    have := List.count_pos_iff.2 this
    omega
  | succ fuel ih =>
    intro l a w hc htl hD hI
    by_cases hall : ∀ i, i < T → l.getD i false = true
    · have hl : l = firstT T ops.size := by
        exact firstT_eq (Nat.le_of_lt hT) (hsz l a w hI) hall htl
      have hc2 := hcount l hl
      rw [show fuel + 1 = ops.size - T by omega]
      subst hl
      exact fin a w hI
    · refine ⟨fun hr => ?_, fun i hi => ?_⟩
      · exfalso
        exact hall fun i hi => all_listed hf (hsz l a w hI) hr i (by omega)
      · obtain ⟨h1, o, ho, hdep⟩ := mem_ready.1 hi
        have hio := (Array.getElem?_eq_some_iff.1 ho).1
        have his : i < l.size := by rw [hsz l a w hI]; exact hio
        have h2 : l[i]? = some false := by
          have : l[i] = false := by simpa [Array.getD, his] using h1
          rw [Array.getElem?_eq_getElem his, this]
        have hdl : ∀ d ∈ depsOf md o, l.getD d false = true := fun d hd => by
          unfold depsOf at hd
          obtain ⟨e, he, rfl⟩ := List.mem_map.1 hd
          obtain ⟨h1, h2⟩ := List.mem_filter.1 he
          exact hdep e (Array.mem_toList_iff.1 h1) h2
        have hiT : i < T := by
          refine Nat.lt_of_not_le fun hge => hall fun j hj => ?_
          have h3 := List.all_eq_true.1 ht i (List.mem_range.2 hio)
          rcases Bool.or_eq_true_iff.1 h3 with h4 | h4
          · have := of_decide_eq_true h4; omega
          · exact reaches_sound hD 40 i j o ho hdl (List.all_eq_true.1 h4 j (List.mem_range.2 hj))
        refine wpOp_mono (fun a' w' hI' => ih _ a' w' ?_ ?_ ?_ hI') (step i o l a w hiT ho h2 hdep hI)
        · rw [Array.toList_setIfInBounds]
          have := count_set l.toList i (by simpa using h2)
          omega
        · intro j hj
          rw [getD_set_ne' (by omega)]; exact htl j hj
        · intro j oj hoj hlj d hd
          by_cases e : i = j
          · subst e
            have : o = oj := by rw [ho] at hoj; injection hoj
            subst this
            have h5 := hdl d hd
            by_cases e2 : i = d
            · subst e2; exact getD_set_self h2
            · rw [getD_set_ne' e2]; exact h5
          · rw [getD_set_ne' e] at hlj
            have h5 := hD j oj hoj hlj d hd
            by_cases e2 : i = d
            · subst e2; exact getD_set_self h2
            · rw [getD_set_ne' e2]; exact h5
theorem wp_region_invT {id : Nat} {a : Act} {w : World} (T : Nat) (Inv : Act → RInv) (hm : P.follows .mixedOrders = true) (hT : T < ops.size) (hf : forward .any ops = true) (ht : tailB .any ops T = true)
    (hsz : ∀ l a' w', Inv a l a' w' → l.size = ops.size) (h0 : Inv a (Array.replicate ops.size false) a w.drew)
    (hs : StepsOK P .any ops Q (Inv a) 0 (ops.toList.take T)) (fin : ∀ a' w', Inv a (firstT T ops.size) a' w' → wpAny P .any ops Q (ops.size - T) (firstT T ops.size) a' w') : (Code.region id ops true).wp P Q a w := by
  refine wp_region_any hm (wpAny_invT T hT hf ht (Inv a) hsz (fun i o l a' w' hi ho hl hall hI => ?_) fin ops.size _ a w.drew (by simp) (fun i _ => by simp only [Array.getD_eq_getD_getElem?, Array.getElem?_replicate]; split <;> rfl) (fun i o ho hl => ?_) h0)
  · refine wpOp_step ho fun K' hK => ?_
    have := StepsOK.get (ops.toList.take T) 0 hs i o (by rw [List.getElem?_take_of_lt hi]; simpa using ho) l a' w' K'
    rw [Nat.zero_add] at this
    refine this hK hl (fun d hd => ?_) hI
    unfold depsOf at hd
    obtain ⟨e, he, rfl⟩ := List.mem_map.1 hd
    obtain ⟨h1, h2⟩ := List.mem_filter.1 he
    exact hall e (Array.mem_toList_iff.1 h1) h2
  · exfalso
    simp only [Array.getD_eq_getD_getElem?, Array.getElem?_replicate] at hl
    split at hl <;> simp at hl
/-- A frame with other values in some slots. -/
def over : List Value → List (Option Value) → List Value
  | xs, [] => xs
  | [], _ :: _ => []
  | x :: xs, none :: m => x :: over xs m
  | _ :: xs, some v :: m => v :: over xs m
theorem StepsOK.nil {Inv : RInv} {k : Nat} : StepsOK P md ops Q Inv k [] := trivial
theorem StepsOK.cons {Inv : RInv} {k : Nat} {o : Oper} {os : List Oper} (h : ∀ (l : Array Bool) (a : Act) (w : World) (K' : Act → World → Prop), Shut (∀ a w, Inv (l.setIfInBounds k true) a w → K' a w) → l[k]? = some false → (∀ d ∈ depsOf md o, l.getD d false = true) → Inv l a w →
      if Region.wanted o (yielded ops a.tmps) = true then Oper.wp P o a w K' Q else K' (a.put o.dst undef) w) (hs : StepsOK P md ops Q Inv (k + 1) os) : StepsOK P md ops Q Inv k (o :: os) := ⟨h, hs⟩
/-- What an operation has laid, if it is listed. -/
def Lst (l : Array Bool) (k : Nat) (p : Prop) : Prop := l.getD k false = true → p
theorem Lst.on {l : Array Bool} {k : Nat} {p : Prop} (h : Lst l k p) (hk : l.getD k false = true) : p := h hk
theorem Lst.mono {l : Array Bool} {k : Nat} {p q : Prop} (h : Lst l k p) (f : p → q) : Lst l k q := fun hk => f (h hk)
theorem Lst.set_ne {l : Array Bool} {k i : Nat} {p : Prop} (h : Lst l k p) (hk : i ≠ k) : Lst (l.setIfInBounds i true) k p := fun hl => h (by
  simp only [Array.getD_eq_getD_getElem?] at hl ⊢
  rwa [Array.getElem?_setIfInBounds_ne hk] at hl)
theorem Lst.now {l : Array Bool} {k : Nat} {p : Prop} (h : p) : Lst l k p := fun _ => h
theorem Lst.none {n k : Nat} {p : Prop} : Lst (Array.replicate n false) k p := fun h => by
  simp only [Array.getD_eq_getD_getElem?] at h
  by_cases hk : k < n
  · simp [hk] at h
  · simp [hk] at h
end
end Go.Proofs.YtcfkemchekmjbaaGreatDoor

namespace Go.Proofs.YtcfkemchekmjbaaGreatDoor
open Go.RowKit
/-- 'append(v, u...)' on slices of ops, inside a region that draws its order. -/
theorem step_app3 {w : World} {o : Oper} {a : Act} {K : Act → World → Prop} {Q : Exit → Act → World → Prop} {ops : Array Oper} {E : Prop} (hgd : o.guard = none) (s x : Operand)
    (ho : o.op = .call { callee := .builtin .append, args := #[s, x], argTypes := #[64, 64] })
    {B : Nat} {v : Value} {n : Nat} {ts : List T3} (hs : a.eval s = v) (hown : O3 61 w B v n ts)
    {u : Value} {m : Nat} {us : List T3} (hx : a.eval x = u) (hr : S3 w u m us) (hnm : n + m ≤ 1048576) (hbase : B ≤ w.heap.size)
    (h : ∀ v' w', O3 61 w' B v' (n + m) (ts ++ us) → w.grownBy w' v.ownBlock → (v'.ownBlock = v.ownBlock ∨ v'.ownBlock = some w.heap.size) → K (a.put o.dst v') w') :
    if Region.wanted o (yielded ops a.tmps) = true then Oper.wp Tryz.prog o a w K Q else E := by
  have hw : Region.wanted o (yielded ops a.tmps) = true := by simp [Region.wanted, hgd]
  rw [if_pos hw]
  obtain ⟨i, hi, hz, hsz, hby⟩ := info_parts infoOpz
  obtain ⟨A, c, rfl, _, _, hR⟩ := hr
  obtain ⟨v', w', hrun, h2, h3, h4⟩ := app_rd (P := Tryz.prog) B 64 o.type 61 i (.agg #[.int .i64 0, .int .i64 0, .int .i64 0]) 3 24 Tryz.underlying64 hi hz hsz hby rfl (by omega) v n _ hown.1 A m c _ hR.rd (ints_oneCell _ _) (by simp only [maxLen]; omega) (by omega) hbase
  unfold Oper.wp execOp
  simp only [ho, resolve, invoke, builtin, Sem.run_bind, Sem.run_pure, Result.andThen_ok, List.map_toArray, List.map_cons, List.map_nil, hs, hx, hrun]
  exact h v' w' ⟨by rw [flat3_append]; simpa using h2, hnm⟩ h3 h4
set_option maxHeartbeats 400000 in
theorem l17Value_c {n at_ : Nat} {w : World} (hn : n < 4) (ha : at_ < 4) : Calls Tryz.prog 43 #[.int .i64 (n : Int), .int .i64 (at_ : Int)] w fun e w' => e = .returned (.int .i64 (valOf n at_)) ∧ w = w' := by
  have h1 : (n : Int) < 4 := by omega
  have h2 : (at_ : Int) < 4 := by omega
  go_enter Tryz.func43, Tryz.ntmps43
  go_wp2
  go_ret
  exact ⟨by unfold valOf; rfl, rfl⟩
theorem make3 (w : World) : (Instr.makeSlice 24 (.int .i64 3) (.int .i64 3)).run Tryz.prog w = .ok (.slice (some ⟨w.heap.size, 0, none⟩) 3 3) (w.alloc (.cells #[.int .i64 0, .int .i64 0, .int .i64 0] 3)) := run_make_ints 3 (by omega) w
theorem SaysT.ops {es : List El} {ts : List Tx} (h : SaysT es ts) {lo n : Nat} {v : Value} {w : World} (D : OT w lo v n es) {k : Nat} {t : Tx} (hk : ts[k]? = some t) :
    ∃ u, es[k]? = some (t.1, (u, t.2.1.length, flat3 t.2.1), t.2.2) ∧ O3 61 w lo u t.2.1.length t.2.1 := by
  obtain ⟨e, he, e1, e2, e3⟩ := h.at_ hk
  have ho := D.own k e he
  obtain ⟨f, ⟨u, m, xs⟩, d⟩ := e
  dsimp only at e1 e2 e3 ho
  subst e1; subst e2; subst e3
  have hl := ho.len
  rw [flat3_len] at hl
  obtain rfl : t.2.1.length = m := by omega
  exact ⟨u, he, ho⟩
theorem SaysT.set_ {es : List El} {ts : List Tx} (h : SaysT es ts) (k : Nat) (t : Tx) (u : Value) (m : Nat) : SaysT (es.set k (t.1, (u, m, flat3 t.2.1), t.2.2)) (ts.set k t) := by
  unfold SaysT at *
  rw [List.map_set, List.map_set, h]
theorem OI.set_ne {w : World} {B n : Nat} {v : Value} {xs : List Int} (h : OI w B v n xs) {p : Addr} (hp : v.ownBlock ≠ some p.block) (u : Value) : OI (w.setCell p u) B v n xs :=
  h.grown (grown_setCell (World.grownBy.refl w (some p.block)) (.inl rfl) u) (.inr hp)
/-- The state of a run in memory: the history, the store. -/
structure AtRun (w : World) (lo : Nat) (v : Value) (gs n : Nat) (S : RunSt) (es : List El) : Prop where
  own : OT w lo v n es
  says : SaysT es S.1
  store : OI w lo (.slice (some ⟨gs, 0, none⟩) 3 3) 3 S.2
  apart : v.ownBlock ≠ some gs
  inner : ∀ (j : Nat) (e : El), es[j]? = some e → e.2.1.1.ownBlock ≠ some gs
theorem AtRun.below {w w' : World} {lo gs n : Nat} {v : Value} {S : RunSt} {es : List El} (h : AtRun w lo v gs n S es) (hb : Below w.heap.size w w') : AtRun w' lo v gs n S es :=
  ⟨h.own.below hb, h.says, h.store.below hb, h.apart, h.inner⟩
theorem AtRun.alloc {w : World} {lo gs n : Nat} {v : Value} {S : RunSt} {es : List El} (h : AtRun w lo v gs n S es) (o : Obj) : AtRun (w.alloc o) lo v gs n S es := h.below ((Below.refl _ _).alloc (Nat.le_refl _) _)
theorem AtRun.drew {w : World} {lo gs n : Nat} {v : Value} {S : RunSt} {es : List El} (h : AtRun w lo v gs n S es) : AtRun w.drew lo v gs n S es := h.below (Below.refl _ _).drew
/-- A value put into the store. -/
theorem AtRun.put {w : World} {lo gs n : Nat} {v : Value} {S : RunSt} {es : List El} (h : AtRun w lo v gs n S es) (i : Nat) (x : Int) : AtRun (w.setCell ⟨gs, i, none⟩ (.int .i64 x)) lo v gs n (S.1, S.2.set i x) es :=
  ⟨h.own.chg (Chg.setCell (S := fun k => k = gs) (p := ⟨gs, i, none⟩) rfl _) (fun k hk e => by
      subst e
      rcases hk with hk | ⟨j, e, hj, hk⟩
      · exact h.apart hk
      · exact h.inner j e hj hk), h.says, h.store.store i x, h.apart, h.inner⟩
/-- One more operation, and done or not. -/
theorem AtRun.add {w w' : World} {lo gs n g c : Nat} {S : RunSt} {es : List El} (h : AtRun w lo (.slice (some ⟨g, 0, none⟩) n c) gs n S es) {j : Nat} {t : Tx} {u : Value} (he : es[j]? = some (t.1, (u, t.2.1.length, flat3 t.2.1), t.2.2))
    (hg : w.grownBy w' u.ownBlock) {u' : Value} {o : T3} {L : Nat} (ho : O3 61 w' lo u' L (t.2.1 ++ [o])) (hq : u'.ownBlock = u.ownBlock ∨ u'.ownBlock = some w.heap.size) (d : Bool) :
    AtRun ((w'.setCell ⟨g, j * 3 + 1, none⟩ u').setCell ⟨g, j * 3 + 2, none⟩ (.bool d)) lo (.slice (some ⟨g, 0, none⟩) n c) gs n (S.1.set j (t.1, t.2.1 ++ [o], d), S.2) (es.set j (t.1, (u', L, flat3 (t.2.1 ++ [o])), d)) := by
  have hjl := (List.getElem?_eq_some_iff.1 he).1
  have hgs : gs < w.heap.size := (World.ownsRow.lt h.store.1 gs rfl).2
  have hu : u.ownBlock ≠ some gs := h.inner j _ he
  have D1 := h.own.append he hg (q := (u', L, flat3 (t.2.1 ++ [o]))) ho.of (hq.imp id (fun e k hk => by rw [e] at hk; injection hk with hk; omega))
  have D2 := D1.set2 (List.getElem?_set_self hjl) d
  rw [List.set_set] at D2
  refine ⟨D2, ?_, ?_, h.apart, fun i e hi => ?_⟩
  · exact h.says.set_ j (t.1, t.2.1 ++ [o], d) u' L
  · have hne : gs ≠ g := fun e => h.apart (by rw [e]; rfl)
    exact ((h.store.grown hg (.inr (fun e => hu e.symm))).set_ne (p := ⟨g, j * 3 + 1, none⟩) (fun e => hne (by injection e)) _).set_ne (p := ⟨g, j * 3 + 2, none⟩) (fun e => hne (by injection e)) _
  · by_cases e1 : j = i
    · subst e1
      rw [List.getElem?_set_self hjl] at hi
      injection hi with hi; subst hi
      rcases hq with hq | hq
      · rw [hq]; exact hu
      · rw [hq]; intro e; injection e with e; omega
    · rw [List.getElem?_set_ne e1] at hi
      exact h.inner i e hi
end Go.Proofs.YtcfkemchekmjbaaGreatDoor
