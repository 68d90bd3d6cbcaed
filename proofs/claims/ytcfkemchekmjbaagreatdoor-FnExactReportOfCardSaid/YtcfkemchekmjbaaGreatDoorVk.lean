/- Merged (what the law reaches): SerO. -/
import Derived.Test.YtcfkemchekmjbaaGreatDoorVj
namespace Go.Proofs.YtcfkemchekmjbaaGreatDoor
open Go.RowKit
theorem infoLi : (Tryz.prog.info? 24).map (fun i => (i.zero, i.size, i.bytes)) = some (some (.slice none 0 0), 1, 24) := by kernel_rfl
/-- The value v is a slice of lists of the call's own. -/
def LL (w : World) (lo : Nat) (v : Value) (ls : List (List Int)) : Prop := ∃ cs, w.ownsRow lo 24 1 v ls.length cs ∧ ∀ (k : Nat) (xs : List Int), ls[k]? = some xs → ∃ u m, cs[k]? = some u ∧ OI w lo u m xs
theorem OI.ne_ownL {w : World} {q v : Value} {lo lo' k n : Nat} {xs : List Int} {cs : List Value} (h : OI w lo q k xs) (hv : w.ownsRow lo' 24 1 v n cs) : q.ownBlock = none ∨ q.ownBlock ≠ v.ownBlock := by
  rcases h.1.2 with ⟨rfl, _⟩ | ⟨g1, cap, cur, rfl, _, hh, _⟩
  · left; rfl
  · right
    rcases hv.2 with ⟨rfl, _⟩ | ⟨g2, cap2, cur2, rfl, _, hh2, _⟩
    · simp [Value.ownBlock]
    · intro he
      have e : g1 = g2 := by have h : some g1 = some g2 := he; injection h
      subst e
      rw [hh] at hh2; injection hh2 with hh2; injection hh2 with _ h2; exact absurd h2 (by decide)
theorem LL.empty (w : World) : LL (w.alloc (.cells #[] 24)) w.heap.size (.slice (some ⟨w.heap.size, 0, none⟩) 0 0) [] :=
  ⟨[], ⟨rfl, .inr ⟨w.heap.size, 0, #[], rfl, Nat.le_refl _, Blk.new w _ _, Nat.le_refl _, by simp [maxLen], rfl, rfl⟩⟩, fun k xs h => by simp at h⟩
theorem LL.below {w w' : World} {lo : Nat} {v : Value} {ls : List (List Int)} (h : LL w lo v ls) (hb : Below w.heap.size w w') : LL w' lo v ls := by
  obtain ⟨cs, h1, h2⟩ := h
  exact ⟨cs, h1.kept (row := none) ⟨hb.os, hb.tape, hb.output, hb.size, fun k hk _ => hb.block k hk⟩ (by cases hv : v.ownBlock <;> simp), fun k xs hk => by obtain ⟨u, m, e, o⟩ := h2 k xs hk; exact ⟨u, m, e, o.below hb⟩⟩
theorem LL.mono {w : World} {lo lo' : Nat} {v : Value} {ls : List (List Int)} (h : LL w lo v ls) (hl : lo' ≤ lo) : LL w lo' v ls := by
  obtain ⟨cs, ⟨h1, h2⟩, h3⟩ := h
  refine ⟨cs, ⟨h1, ?_⟩, fun k xs hk => by obtain ⟨u, m, e, o⟩ := h3 k xs hk; exact ⟨u, m, e, o.mono hl⟩⟩
  rcases h2 with h2 | ⟨g, cap, cur, hv, hb, r⟩
  · exact .inl h2
  · exact .inr ⟨g, cap, cur, hv, by omega, r⟩
theorem LL.shape {w : World} {lo : Nat} {v : Value} {ls : List (List Int)} (h : LL w lo v ls) : ∃ A c, v = .slice A ls.length c := by
  obtain ⟨cs, h1, _⟩ := h
  rcases h1.2 with ⟨e, h0⟩ | ⟨g, cap, cur, e, _⟩
  · rw [h0]; exact ⟨none, 0, e⟩
  · exact ⟨_, _, e⟩
theorem LL.grows {a w w' : World} {lo : Nat} {v : Value} {ls : List (List Int)} (o : LL w lo v ls) (h : Below a.heap.size a w) (hB : a.heap.size ≤ lo) (hg : w.grownBy w' v.ownBlock) : Below a.heap.size a w' := by
  obtain ⟨cs, o, _⟩ := o
  exact h.grown hg h.size (fun q hq => by have := (World.ownsRow.lt o q hq).1; omega)
theorem LL.grown {w w' : World} {lo : Nat} {v : Value} {ls : List (List Int)} {u : Value} {lo' n : Nat} {cs : List Value} (h : LL w lo v ls) (hu : w.ownsRow lo' 24 1 u n cs) (hg : w.grownBy w' u.ownBlock) (hne : v.ownBlock = none ∨ v.ownBlock ≠ u.ownBlock) : LL w' lo v ls := by
  obtain ⟨cs, h1, h2⟩ := h
  exact ⟨cs, h1.kept hg hne, fun k xs hk => by obtain ⟨q, m, e, o⟩ := h2 k xs hk; exact ⟨q, m, e, o.grown hg (o.ne_ownL hu)⟩⟩
theorem own_neL {u : Value} {bm n c : Nat} (h : u.ownBlock = none ∨ u.ownBlock ≠ (Value.slice (some ⟨bm, 0, none⟩) n c).ownBlock) : u.ownBlock ≠ some bm := by
  rcases h with e | e
  · rw [e]; intro h; cases h
  · exact e
theorem own_apL {v u : Value} {bm n c sz : Nat} (hat : v.ownBlock = u.ownBlock ∨ v.ownBlock = some sz) (hne : u.ownBlock ≠ some bm) (hb : bm < sz) : v.ownBlock = none ∨ v.ownBlock ≠ (Value.slice (some ⟨bm, 0, none⟩) n c).ownBlock := by
  right
  rcases hat with e | e
  · rw [e]; exact hne
  · rw [e]; intro e2
    have e3 : sz = bm := by injection e2
    omega
/-- An element of it. -/
theorem LL.at_ {w : World} {lo c : Nat} {A : Option Addr} {ls : List (List Int)} (h : LL w lo (.slice A ls.length c) ls) {k : Nat} (hk : k < ls.length) :
    ∃ b u m, A = some ⟨b, 0, none⟩ ∧ lo ≤ b ∧ b < w.heap.size ∧ OI w lo u m (ls.getD k []) ∧ w.cell? ⟨b, k, none⟩ = some u := by
  obtain ⟨cs, h1, h2⟩ := h
  rcases h1.2 with ⟨_, h0⟩ | ⟨g, cap, cur, e, hB, hg, hc, hcm, hs, ht⟩
  · omega
  · injection e with e _ e3
    subst e; subst e3
    obtain ⟨u, m, hu, o⟩ := h2 k (ls.getD k []) (by rw [List.getD_eq_getElem?_getD, List.getElem?_eq_getElem hk]; rfl)
    exact ⟨g, u, m, rfl, hB, Blk.lt (t := 24) (cs := cur) hg, o, by rw [World.ownsRow.cellAt h1 k (by omega)]; exact hu⟩
theorem Rd.one_ {w : World} {b : Nat} {t : TypeId} {u : Value} (h : Blk w b t #[u]) : Rd w 1 (some ⟨b, 0, none⟩) 1 [u] :=
  ⟨rfl, fun _ => ⟨b, 0, rfl, h.lt, fun k x hx => by
    match k, hx with
    | 0, hx => simp at hx; subst hx; exact h.cell 0⟩⟩
theorem LL.run {w : World} {lo : Nat} {v : Value} {ls : List (List Int)} (h : LL w lo v ls) (ty : TypeId) {b m : Nat} {u : Value} {xs : List Int} (hK : Blk w b 24 #[u]) (hu : OI w lo u m xs) (hk : ls.length ≤ 1000) (hlo : lo ≤ w.heap.size) :
    ∃ v' w', (Builtin.append_ #[37, 37] ty #[v, .slice (some ⟨b, 0, none⟩) 1 1]).run Tryz.prog w = .ok v' w' ∧ LL w' lo v' (ls ++ [xs]) ∧ w.grownBy w' v.ownBlock ∧ (v'.ownBlock = v.ownBlock ∨ v'.ownBlock = some w.heap.size) := by
  obtain ⟨i, hi, hz, hsz, hby⟩ := info_parts infoLi
  obtain ⟨cs, h1, h2⟩ := h
  have hcl := h1.1
  have hc1 : ∀ x ∈ [u], x.oneCell' = true := fun x hx => by
    obtain ⟨A, c, rfl⟩ := hu.shape
    simp at hx; subst hx; rfl
  obtain ⟨v', w', hrun, hown, hg, hat⟩ := app_rd (P := Tryz.prog) (w := w) lo 37 ty 24 i (.slice none 0 0) 1 24 Tryz.underlying37 hi hz hsz hby rfl (by omega) v ls.length cs h1 _ 1 1 _ (Rd.one_ hK) hc1 (by simp only [maxLen]; omega) (by omega) hlo
  refine ⟨v', w', hrun, ⟨_, by rw [List.length_append, List.length_singleton]; exact hown, fun j ys hj => ?_⟩, hg, hat⟩
  by_cases e : j < ls.length
  · rw [List.getElem?_append_left e] at hj
    obtain ⟨x, m', e1, e2⟩ := h2 j ys hj
    exact ⟨x, m', by rw [List.getElem?_append_left (by omega)]; exact e1, e2.grown hg (e2.ne_ownL h1)⟩
  · have : j = ls.length := by have := (List.getElem?_eq_some_iff.1 hj).1; simp at this; omega
    subst this
    simp at hj; subst hj
    exact ⟨u, m, by rw [List.getElem?_append_right (by omega), show ls.length - cs.length = 0 by omega]; rfl, hu.grown hg (hu.ne_ownL h1)⟩
/-- 'append(v, u...)' on []int, as a run. -/
theorem runI {w : World} (ty : TypeId) {B : Nat} {v u : Value} {n m : Nat} {xs ys : List Int} (hown : OI w B v n xs) (hu : SI w u m ys) (hm : n + m ≤ 1048576) (hB : B ≤ w.heap.size) :
    ∃ v' w', (Builtin.append_ #[24, 24] ty #[v, u]).run Tryz.prog w = .ok v' w' ∧ OI w' B v' (n + m) (xs ++ ys) ∧ w.grownBy w' v.ownBlock := by
  obtain ⟨i, hi, hz, hsz, hby⟩ := info_parts intInfo
  obtain ⟨A, c, rfl, hmc, hm1, hr⟩ := hu
  obtain ⟨v', w', hrun, h2, h3, h4⟩ := app_rd (P := Tryz.prog) (w := w) B 24 ty 3 i (.int .i64 0) 1 8 Tryz.underlying24 hi hz hsz hby rfl (by omega) v n _ hown.1 A m c _ hr.rd (fun x hx => by simp at hx; obtain ⟨a, _, rfl⟩ := hx; rfl) (by simp only [maxLen]; omega) (by omega) hB
  exact ⟨v', w', hrun, ⟨by rw [List.map_append]; exact h2, hm⟩, h3⟩
theorem sliceS_hi {A : Option Addr} {n c k : Nat} {xs : List Int} {w : World} (hs : SI w (.slice A n c) n xs) (hk : k ≤ n) :
    ∃ A', (∀ w', (Instr.slice 24 (.slice A n c) none (some (.int .i64 (k : Int))) none).run Tryz.prog w' = .ok (.slice A' k c) w') ∧ SI w (.slice A' k c) k (xs.take k) := by
  obtain ⟨A0, c0, e, hnc, hn, hl, hr⟩ := hs
  injection e with e1 e2 e3
  subst e1; subst e3
  obtain ⟨i, hi, hz, hsz, hb⟩ := info_parts intInfo
  refine ⟨if c = 0 then A else A.map (·.add (0 * i.size)), fun w' => ?_, _, _, rfl, by omega, by omega, by simp; omega, fun hk0 => ?_⟩
  · have h2 : k ≤ c := by omega
    simp [Instr.slice, Instr.sliceBounds, Instr.sliceBound, run_underlying Tryz.underlying24, sizeOf, typeInfo, hi, asIntOf, h2]
  · obtain ⟨b, off, rfl, hb', hc⟩ := hr (by omega)
    refine ⟨b, off, ?_, hb', fun j x hj => ?_⟩
    · rw [if_neg (by omega), Nat.zero_mul]; simp [addr_add]
    · rw [List.getElem?_take] at hj
      split at hj
      · exact hc j x hj
      · cases hj
theorem sliceS_lo {A : Option Addr} {n c k : Nat} {xs : List Int} {w : World} (hs : SI w (.slice A n c) n xs) (hk : k ≤ n) :
    ∃ A' c', (∀ w', (Instr.slice 24 (.slice A n c) (some (.int .i64 (k : Int))) none none).run Tryz.prog w' = .ok (.slice A' (n - k) c') w') ∧ SI w (.slice A' (n - k) c') (n - k) (xs.drop k) := by
  obtain ⟨A0, c0, e, hnc, hn, hl, hr⟩ := hs
  injection e with e1 e2 e3
  subst e1; subst e3
  obtain ⟨i, hi, hz, hsz, hb⟩ := info_parts intInfo
  refine ⟨if c = k then A else A.map (·.add (k * i.size)), c - k, fun w' => ?_, _, _, rfl, by omega, by omega, by simp; omega, fun hk0 => ?_⟩
  · have h2 : k ≤ n := hk
    have h3 : (c - k = 0) = (c = k) := by rw [eq_iff_iff]; omega
    simp [Instr.slice, Instr.sliceBounds, Instr.sliceBound, run_underlying Tryz.underlying24, sizeOf, typeInfo, hi, asIntOf, h2]
    try simp [h3]
  · obtain ⟨b, off, rfl, hb', hc⟩ := hr (by omega)
    refine ⟨b, off + k, ?_, hb', fun j x hj => ?_⟩
    · rw [if_neg (by omega), hsz]; simp [addr_add]
    · rw [List.getElem?_drop] at hj
      rw [Nat.add_assoc]; exact hc _ x hj
theorem wp_append_stepO {P : Program} {o : Oper} {a : Act} {w w' : World} {K : Act → World → Prop} {Q : Exit → Act → World → Prop} {b : Nat → Option Bool} {E : Prop} (hg : o.guard = none) (s x : Operand) {t : TypeId} (ho : o.op = .call { callee := .builtin .append, args := #[s, x], argTypes := #[t, t] }) {v u v' : Value}
    (hs : a.eval s = v) (hx : a.eval x = u) (hrun : (Builtin.append_ #[t, t] o.type #[v, u]).run P w = .ok v' w') (hK : K (a.put o.dst v') w') : (if Region.wanted o b = true then Oper.wp P o a w K Q else E) := by
  simp only [Region.wanted, hg, if_true]
  unfold Oper.wp execOp
  simp only [ho, resolve, invoke, builtin, Sem.run_bind, Sem.run_pure, Result.andThen_ok, List.map_toArray, List.map_cons, List.map_nil, hs, hx, hrun]
  exact hK
/-- The orders among those that begin before place k, and at place k the first j that follow. -/
def permTo (xs : List Int) (k j : Nat) : List (List Int) := ((List.range k).flatMap fun i => (permsF (xs.length - 1) (xs.eraseIdx i)).map (xs.getD i 0 :: ·)) ++ ((permsF (xs.length - 1) (xs.eraseIdx k)).take j).map (xs.getD k 0 :: ·)
theorem permTo_zero (xs : List Int) : permTo xs 0 0 = [] := by simp [permTo]
theorem permTo_step {xs : List Int} {k j : Nat} {ys : List Int} (h : (permsF (xs.length - 1) (xs.eraseIdx k))[j]? = some ys) : permTo xs k (j + 1) = permTo xs k j ++ [xs.getD k 0 :: ys] := by
  unfold permTo
  rw [List.take_add_one, h]
  simp
theorem permTo_next {xs : List Int} {k j : Nat} (h : (permsF (xs.length - 1) (xs.eraseIdx k)).length ≤ j) : permTo xs (k + 1) 0 = permTo xs k j := by
  unfold permTo
  rw [List.take_of_length_le h, List.range_succ, List.flatMap_append]
  simp
theorem permTo_end {xs : List Int} (h : xs ≠ []) : permTo xs xs.length 0 = permsF xs.length xs := by
  cases hl : xs.length with
  | zero => exact absurd (List.eq_nil_of_length_eq_zero hl) h
  | succ f =>
    simp only [permTo, permsF, if_neg h, hl, Nat.add_sub_cancel]
    simp
def facN : Nat → Nat
  | 0 => 1
  | n + 1 => (n + 1) * facN n
theorem fac_pos : ∀ n, 1 ≤ facN n
  | 0 => Nat.le_refl _
  | n + 1 => by simp only [facN]; exact Nat.le_trans (fac_pos n) (Nat.le_mul_of_pos_left _ (by omega))
theorem permsF_many : ∀ (f : Nat) (l : List Int), l.length ≤ f → f ≤ 6 → (permsF f l).length ≤ facN f
  | 0, l, _, _ => by simp [permsF, facN]
  | f + 1, l, h, h6 => by
    simp only [permsF]
    split
    · simp only [List.length_singleton]; exact by have := fac_pos f; simp only [facN]; exact Nat.le_trans this (Nat.le_mul_of_pos_left _ (by omega))
    · rw [List.length_flatMap]
      have : ∀ (ks : List Nat), (∀ k ∈ ks, k < l.length) → ((ks.map fun k => (List.map (fun x => l.getD k 0 :: x) (permsF f (l.eraseIdx k))).length).sum) ≤ ks.length * facN f := by
        intro ks
        induction ks with
        | nil => intro _; simp
        | cons k ks ih =>
          intro hk
          have h1 := permsF_many f (l.eraseIdx k) (by rw [List.length_eraseIdx_of_lt (hk k (by simp))]; omega) (by omega)
          have h2 := ih (fun k hk' => hk k (by simp [hk']))
          simp only [List.map_cons, List.sum_cons, List.length_map, List.length_cons] at h2 ⊢
          rw [Nat.add_mul, Nat.one_mul]
          omega
      have h2 := this (List.range l.length) (fun k hk => List.mem_range.1 hk)
      rw [List.length_range] at h2
      refine Nat.le_trans h2 ?_
      show _ ≤ (f + 1) * facN f
      exact Nat.mul_le_mul_right _ h
theorem perms_120 {xs : List Int} (h6 : xs.length ≤ 6) {i : Nat} (hi : i < xs.length) : (permsF (xs.length - 1) (xs.eraseIdx i)).length ≤ 120 := by
  have := permsF_many (xs.length - 1) (xs.eraseIdx i) (by rw [List.length_eraseIdx_of_lt hi]; omega) (by omega)
  refine Nat.le_trans this ?_
  have : xs.length - 1 ≤ 5 := by omega
  generalize xs.length - 1 = q at this
  match q, this with
  | 0, _ => decide
  | 1, _ => decide
  | 2, _ => decide
  | 3, _ => decide
  | 4, _ => decide
  | 5, _ => decide
theorem permTo_many {xs : List Int} {k j : Nat} (h6 : xs.length ≤ 6) (hk : k < xs.length) : (permTo xs k j).length ≤ 720 := by
  have h1 : ∀ i, i < xs.length → (permsF (xs.length - 1) (xs.eraseIdx i)).length ≤ 120 := fun i hi => perms_120 h6 hi
  unfold permTo
  rw [List.length_append, List.length_flatMap, List.length_map, List.length_take]
  have h2 : ∀ (m : Nat), m ≤ k → ((List.range m).map fun i => (List.map (fun x => xs.getD i 0 :: x) (permsF (xs.length - 1) (xs.eraseIdx i))).length).sum ≤ m * 120 := by
    intro m
    induction m with
    | zero => intro _; simp
    | succ m ih =>
      intro hm
      rw [List.range_succ, List.map_append, List.sum_append]
      have := h1 m (by omega)
      have := ih (by omega)
      simp only [List.map_cons, List.map_nil, List.sum_cons, List.sum_nil, List.length_map] at *
      omega
  have h3 := h2 k (Nat.le_refl _)
  have h4 := h1 k hk
  have h5 : min j (permsF (xs.length - 1) (xs.eraseIdx k)).length ≤ 120 := Nat.le_trans (Nat.min_le_right _ _) h4
  omega
theorem erase_take (xs : List Int) (k : Nat) : xs.take k ++ xs.drop (k + 1) = xs.eraseIdx k := (List.eraseIdx_eq_take_drop_succ xs k).symm
def OrdsR (w : World) (xs : List Int) (e : Ending) (w' : World) : Prop := ∃ v, e = .returned v ∧ LL w' w.heap.size v (permsF xs.length xs) ∧ Below w.heap.size w w'
set_option maxRecDepth 100000 in
set_option maxHeartbeats 16000000 in
theorem l7Orders_c : ∀ (q : Nat) (u : Value) (xs : List Int) (w : World), q ≤ 6 → SI w u q xs → Calls Tryz.prog 120 #[u] w (OrdsR w xs) := by
  intro q
  induction q with
  | zero =>
    intro u xs w _ hs
    have hl := hs.len
    obtain rfl : xs = [] := List.eq_nil_of_length_eq_zero hl
    obtain ⟨A, c, rfl, hnc, hn, hri⟩ := hs
    have oE := hide (OI.empty w)
    have B1 := hide (((Below.refl w.heap.size w).alloc (Nat.le_refl _) (.cells #[] 3)).alloc (by simp) (.cells #[.slice (some ⟨w.heap.size, 0, none⟩) 0 0] 24))
    go_enter Tryz.func120, Tryz.ntmps120
    go_wp2_with fail
    go_ret
    refine ⟨_, rfl, ⟨[.slice (some ⟨w.heap.size, 0, none⟩) 0 0], ⟨rfl, .inr ⟨w.heap.size + 1, 1, _, rfl, by omega, by have := Blk.new (w.alloc (.cells #[] 3)) 24 #[.slice (some ⟨w.heap.size, 0, none⟩) 0 0]; rw [World.size_alloc] at this; exact this, Nat.le_refl _, by simp [maxLen], rfl, rfl⟩⟩, fun k ys hk => ?_⟩, B1.out⟩
    match k, hk with
    | 0, hk =>
      simp [permsF] at hk; subst hk
      exact ⟨_, 0, rfl, oE.out.below ((Below.refl _ _).alloc (Nat.le_refl _) _)⟩
  | succ q ih =>
    intro u xs w hq6 hs
    have hl := hs.len
    obtain ⟨A, c, rfl⟩ := hs.shape
    obtain ⟨A9, c9, e9, hnc, hn, hri⟩ := hs
    obtain ⟨rfl, rfl⟩ : A = A9 ∧ c = c9 := by simpa using e9
    have hsi : SI w (.slice A (q + 1) c) (q + 1) xs := ⟨A, c, rfl, hnc, hn, hri⟩
    have L0 := hide (LL.empty w)
    have B0 := hide ((Below.refl w.heap.size w).alloc (Nat.le_refl _) (.cells #[] 24))
    have HL := hide hl
    have hq0 : ((q : Int) + 1 == 0) = false := by rw [beq_eq_false_iff_ne]; omega
    clear e9
    go_enter Tryz.func120, Tryz.ntmps120
    go_wp2_with fail
    go_loopw [3, 4] (fun v i W => ∃ k : Nat, i = .int .i64 k ∧ k ≤ q + 1 ∧ LL W w.heap.size v (permTo xs k 0) ∧ Below w.heap.size w W) (fun _ i _ => q + 1 - (intOf i).toNat)
    case atStart => exact ⟨0, rfl, Nat.zero_le _, by rw [permTo_zero]; exact L0.out, B0.out⟩
    case round =>
      clear L0 B0
      obtain ⟨k, rfl, hk, hll, bw⟩ := hrel
      by_cases hkq : k < q + 1
      · have hmany : ∀ j, (permTo xs k j).length ≤ 720 := fun j => permTo_many (by omega) (by omega)
        have hs1 := hsi.below bw
        obtain ⟨A1, hr1, sa⟩ := sliceS_hi hs1 (show k ≤ q + 1 by omega)
        obtain ⟨A2, c2, hr2, sb⟩ := sliceS_lo hs1 (show k + 1 ≤ q + 1 by omega)
        rw [Nat.add_sub_add_right] at hr2 sb
        have BZ : Below w.heap.size w wr.drew := bw.drew
        have LZ := hll.below (Below.refl wr.heap.size wr).drew
        have SA := sa.below (Below.refl wr.heap.size wr).drew
        have SB := sb.below (Below.refl wr.heap.size wr).drew
        have k0 : (0 : Int) ≤ k := by omega
        have k2 : (k : Int) < ((q + 1 : Nat) : Int) := by omega
        have k3 : (k : Int) + 1 ≤ ((q + 1 : Nat) : Int) := by omega
        have hr2' : ∀ w', (Instr.slice 24 (.slice A (q + 1) c) (some (.int .i64 ((k : Int) + 1))) none none).run Tryz.prog w' = .ok (.slice A2 (q - k) c2) w' := fun w' => by rw [show ((k : Int) + 1) = ((k + 1 : Nat) : Int) by omega]; exact hr2 w'
        clear hr2
        have HM := hide hmany
        have hwr : IntKind.i64.wrap ((k : Int) + 1) = (k : Int) + 1 := by rw [IntWalk.i64_left, IntWalk.wrap64_in _ (by omega)]
        obtain ⟨b, off, x, rfl, hbb, hx, hc⟩ := hri.at_ hkq
        have HX := hide hx
        have HC := hide hc
        clear sa sb hs1 bw hll hmany hx hc
        go_wp2_with fail
        refine wp_region_held_drew (S := (fun _ => True)) (by kernel_rfl) ?_ (fun hHeld => ?_)
        · exact trivial
        refine wpAnyH_take (i := 1) (v := ?vv7_1) (by rw [List.getElem?_toArray]; exact rfl) (by kernel_rfl) (by kernel_rfl) (by kernel_rfl) (by intro _ _ _ h; exact h) (Or.inl ⟨by rfl, ?hy7_1⟩) hHeld ?rest7_1
        case' hy7_1 => (intro w hSw; (try dsimp only at hSw); go_simp; try (with_reducible rfl))
        (try simp only [Act.put, List.setIfInBounds_toArray, List.set_cons_zero, List.set_cons_succ])
        refine wpAnyH_take (i := 2) (v := ?vv7_2) (by rw [List.getElem?_toArray]; exact rfl) (by kernel_rfl) (by kernel_rfl) (by kernel_rfl) (by intro _ _ _ h; exact h) (Or.inl ⟨by rfl, ?hy7_2⟩) hHeld ?rest7_2
        case' hy7_2 => (intro w hSw; (try dsimp only at hSw); go_simp; try (with_reducible rfl))
        (try simp only [Act.put, List.setIfInBounds_toArray, List.set_cons_zero, List.set_cons_succ])
        refine wpAnyH_take (i := 3) (v := ?vv7_3) (by rw [List.getElem?_toArray]; exact rfl) (by kernel_rfl) (by kernel_rfl) (by kernel_rfl) (by intro _ _ _ h; exact h) (Or.inl ⟨by rfl, ?hy7_3⟩) hHeld ?rest7_3
        case' hy7_3 => (intro w hSw; (try dsimp only at hSw); go_simp; try (with_reducible rfl))
        (try simp only [Act.put, List.setIfInBounds_toArray, List.set_cons_zero, List.set_cons_succ])
        refine wpAnyH_take (i := 5) (v := ?vv7_5) (by rw [List.getElem?_toArray]; exact rfl) (by kernel_rfl) (by kernel_rfl) (by kernel_rfl) (by intro _ _ _ h; exact h) (Or.inl ⟨by rfl, ?hy7_5⟩) hHeld ?rest7_5
        case' hy7_5 => (intro w hSw; (try dsimp only at hSw); go_simp; try (with_reducible rfl))
        (try simp only [Act.put, List.setIfInBounds_toArray, List.set_cons_zero, List.set_cons_succ])
        refine wpAnyH_take (i := 6) (v := ?vv7_6) (by rw [List.getElem?_toArray]; exact rfl) (by kernel_rfl) (by kernel_rfl) (by kernel_rfl) (by intro _ _ _ h; exact h) (Or.inl ⟨by rfl, ?hy7_6⟩) hHeld ?rest7_6
        case' hy7_6 => (intro w hSw; (try dsimp only at hSw); go_simp; try (with_reducible rfl))
        (try simp only [Act.put, List.setIfInBounds_toArray, List.set_cons_zero, List.set_cons_succ])
        refine wpAnyH_take (i := 7) (v := ?vv7_7) (by rw [List.getElem?_toArray]; exact rfl) (by kernel_rfl) (by kernel_rfl) (by kernel_rfl) (by intro _ _ _ h; exact h) (Or.inl ⟨by rfl, ?hy7_7⟩) hHeld ?rest7_7
        case' hy7_7 => (intro w hSw; (try dsimp only at hSw); go_simp; try (with_reducible rfl))
        (try simp only [Act.put, List.setIfInBounds_toArray, List.set_cons_zero, List.set_cons_succ])
        refine wpAnyH_take (i := 8) (v := ?vv7_8) (by rw [List.getElem?_toArray]; exact rfl) (by kernel_rfl) (by kernel_rfl) (by kernel_rfl) (by intro _ _ _ h; exact h) (Or.inl ⟨by rfl, ?hy7_8⟩) hHeld ?rest7_8
        case' hy7_8 => (intro w hSw; (try dsimp only at hSw); go_simp; try (with_reducible rfl))
        (try simp only [Act.put, List.setIfInBounds_toArray, List.set_cons_zero, List.set_cons_succ])
        refine wpAnyH_ready (rs := [0]) (by kernel_rfl) (by simp) ?_
        refine AllReadyH.cons (by rw [List.getElem?_toArray]; exact rfl) (fun K hK => ?_) AllReadyH.nil
        go_simp
        have oX := OI.empty wr.drew
        have b1 : Below wr.drew.heap.size wr.drew (wr.drew.alloc (.cells #[] 3)) := (Below.refl _ _).alloc (Nat.le_refl _) _
        refine hK.out _ _ ?_ (fun hHeld => ?_)
        · exact trivial
        clear hK K
        (try simp only [Act.put, List.setIfInBounds_toArray, List.set_cons_zero, List.set_cons_succ])
        refine wpAnyH_ready (rs := [4]) (by kernel_rfl) (by simp) ?_
        refine AllReadyH.cons (by rw [List.getElem?_toArray]; exact rfl) (fun K hK => ?_) AllReadyH.nil
        obtain ⟨v1, w1, hrun, o1, g1⟩ := runI 24 oX (SA.below b1) (by omega) b1.size
        have b1' := below_of_grown b1 g1 b1.size (oX.grown_le (Nat.le_refl _))
        refine wp_append_stepO rfl _ _ rfl rfl rfl hrun ?_
        clear b1
        have b1 := b1'
        clear b1' hrun
        refine hK.out _ _ ?_ (fun hHeld => ?_)
        · exact trivial
        clear hK K
        (try simp only [Act.put, List.setIfInBounds_toArray, List.set_cons_zero, List.set_cons_succ])
        refine wpAnyH_ready (rs := [9]) (by kernel_rfl) (by simp) ?_
        refine AllReadyH.cons (by rw [List.getElem?_toArray]; exact rfl) (fun K hK => ?_) AllReadyH.nil
        obtain ⟨v2, w2, hrun, o2, g2⟩ := runI 24 o1 (SB.below b1) (by omega) b1.size
        have b2 := below_of_grown b1 g2 b1.size (o1.grown_le (Nat.le_refl _))
        refine wp_append_stepO rfl _ _ rfl rfl rfl hrun ?_
        refine hK.out _ _ ?_ (fun hHeld => ?_)
        · exact trivial
        clear hK K
        (try simp only [Act.put, List.setIfInBounds_toArray, List.set_cons_zero, List.set_cons_succ])
        refine wpAnyH_take (i := 10) (v := ?vv7_10) (by rw [List.getElem?_toArray]; exact rfl) (by kernel_rfl) (by kernel_rfl) (by kernel_rfl) (by intro _ _ _ h; exact h) (Or.inl ⟨by rfl, ?hy7_10⟩) hHeld ?rest7_10
        case' hy7_10 => (intro w hSw; (try dsimp only at hSw); go_simp; try (with_reducible rfl))
        (try simp only [Act.put, List.setIfInBounds_toArray, List.set_cons_zero, List.set_cons_succ])
        refine wpAnyH_done (by kernel_rfl) ?_ _
        have si2 : SI w2 v2 q (xs.eraseIdx k) := by
          have h := o2.si
          rw [List.nil_append, erase_take, show 0 + k + (q - k) = q by omega] at h
          exact h
        have LZ2 := LZ.below b2
        have BW2 := below_step BZ b2
        clear o1 o2 g1 g2 b1 oX hrun SA SB hr1 hr2'
        go_wp2_with fail
        refine (ih v2 _ w2 (by omega) si2).mono ?_
        rintro e w3 ⟨v3, rfl, l3, b3⟩
        have hle : (xs.eraseIdx k).length = q := by rw [List.length_eraseIdx_of_lt (by omega)]; omega
        rw [hle] at l3
        obtain ⟨ms, hms⟩ : ∃ ms, permsF q (xs.eraseIdx k) = ms := ⟨_, rfl⟩
        have hms2 : permsF (xs.length - 1) (xs.eraseIdx k) = ms := by rw [hl, Nat.add_sub_cancel]; exact hms
        rw [hms] at l3
        have hm120 : ms.length ≤ 120 := by rw [← hms2]; exact perms_120 (by omega) (by omega)
        obtain ⟨A3, c3, rfl⟩ := l3.shape
        have LZ3 := hide (LZ2.below b3); have BW3 := hide (below_step BW2 b3); have L3 := hide l3
        have HAP := hide (show u3.ownBlock = none ∨ u3.ownBlock ≠ (Value.slice A3 ms.length c3).ownBlock by
          obtain ⟨cs, o, _⟩ := LZ2
          obtain ⟨cs3, o3, _⟩ := l3
          cases hq : u3.ownBlock with
          | none => exact .inl rfl
          | some g =>
            right; intro e
            have h1 := (World.ownsRow.lt o g hq).2
            have h2 := (World.ownsRow.lt o3 g e.symm).1
            omega)
        have HMS := hide hms2
        clear LZ2 l3 hms hms2 LZ BZ BW2 b3 b2 si2
        go_wp2_with fail
        go_loopw [3, 7] (fun v i W => ∃ j : Nat, i = .int .i64 j ∧ j ≤ ms.length ∧ LL W w.heap.size v (permTo xs k j) ∧ LL W w2.heap.size (.slice A3 ms.length c3) ms ∧ (v.ownBlock = none ∨ v.ownBlock ≠ (Value.slice A3 ms.length c3).ownBlock) ∧ Below w.heap.size w W) (fun _ i _ => ms.length - (intOf i).toNat)
        case atStart => exact ⟨0, rfl, Nat.zero_le _, LZ3.out, L3.out, HAP.out, BW3.out⟩
        case round =>
          clear LZ3 L3 HAP BW3
          rename World => wr2
          obtain ⟨j, rfl, hj, hll, hl3, hap, bw⟩ := hrel
          have HLL := hide hll; have HL3 := hide hl3; have BW := hide bw; have HAP := hide hap
          by_cases hjm : j < ms.length
          · obtain ⟨bm, u, mu, rfl, hbm0, hbm, ou, cu⟩ := hl3.at_ hjm
            obtain ⟨Au, cu2, rfl⟩ := ou.shape
            have hc1 : ∀ W, Below w.heap.size w W → W.heap[bm]? = wr2.heap[bm]? → W.cell? ⟨b, off + k, none⟩ = some (.int .i64 x) ∧ W.cell? ⟨bm, j, none⟩ = some (.slice Au mu cu2) := fun W h1 h2 =>
              ⟨(h1.cell (p := ⟨b, off + k, none⟩) hbb).trans HC.out, (World.cell?_of_block h2).trans cu⟩
            have hys : ms[j]? = some (ms.getD j []) := by rw [List.getD_eq_getElem?_getD, List.getElem?_eq_getElem hjm]; rfl
            have hst := permTo_step (xs := xs) (k := k) (j := j) (by rw [HMS.out]; exact hys)
            have hxd : xs.getD k 0 = x := by rw [List.getD_eq_getElem?_getD, HX.out]; rfl
            rw [hxd] at hst
            have HST := hide hst
            have hmu := ou.len
            have hmq : mu ≤ 6 := by
              have hin : ms.getD j [] ∈ permsF (xs.length - 1) (xs.eraseIdx k) := by rw [HMS.out]; exact List.mem_of_getElem? hys
              have h1 := permsF_len _ _ (by rw [List.length_eraseIdx_of_lt (by omega)]; exact Nat.le_refl _) _ hin
              rw [List.length_eraseIdx_of_lt (by omega)] at h1
              omega
            have j0 : (0 : Int) ≤ j := by omega
            have j2 : (j : Int) < ms.length := by omega
            have i1 : decide ((k : Int) < 0) = false := by simp
            have i2 : decide (q + 1 ≤ k) = false := by simp; omega
            have i3 : decide ((j : Int) < 0) = false := by simp
            have i4 : decide (ms.length ≤ j) = false := by simp; omega
            have BX : Below wr2.heap.size wr2 wr2.drew := (Below.refl _ _).drew
            have hkeep : ∀ W, Below wr2.heap.size wr2 W → W.cell? ⟨b, off + k, none⟩ = some (.int .i64 x) ∧ W.cell? ⟨bm, j, none⟩ = some (.slice Au mu cu2) := fun W h => hc1 W (below_step BW.out h) (h.block _ hbm)
            clear hll hl3 hap bw hst hys cu
            go_wp2_with fail
            refine wp_region_held_drew (S := (fun W => W.cell? ⟨b, off + k, none⟩ = some (.int .i64 x) ∧ W.cell? ⟨bm, j, none⟩ = some (.slice Au mu cu2))) (by kernel_rfl) ?_ (fun hHeld => ?_)
            · first | exact hkeep _ BX | exact hkeep _ b3 | exact hkeep _ b4 | exact hkeep _ b5 | exact hkeep6
            refine wpAnyH_take (i := 0) (v := ?vv12_0) (by rw [List.getElem?_toArray]; exact rfl) (by kernel_rfl) (by kernel_rfl) (by kernel_rfl) (by intro _ _ _ h; exact h) (Or.inl ⟨by rfl, ?hy12_0⟩) hHeld ?rest12_0
            case' hy12_0 => (intro w hSw; (try dsimp only at hSw); go_simp; try (with_reducible rfl))
            (try simp only [Act.put, List.setIfInBounds_toArray, List.set_cons_zero, List.set_cons_succ])
            refine wpAnyH_take (i := 1) (v := ?vv12_1) (by rw [List.getElem?_toArray]; exact rfl) (by kernel_rfl) (by kernel_rfl) (by kernel_rfl) (by intro _ _ _ h; exact h) (Or.inl ⟨by rfl, ?hy12_1⟩) hHeld ?rest12_1
            case' hy12_1 => (intro w hSw; (try dsimp only at hSw); go_simp; try (with_reducible rfl))
            (try simp only [Act.put, List.setIfInBounds_toArray, List.set_cons_zero, List.set_cons_succ])
            refine wpAnyH_take (i := 2) (v := ?vv12_2) (by rw [List.getElem?_toArray]; exact rfl) (by kernel_rfl) (by kernel_rfl) (by kernel_rfl) (by intro _ _ _ h; exact h) (Or.inl ⟨by rfl, ?hy12_2⟩) hHeld ?rest12_2
            case' hy12_2 => (intro w hSw; (try dsimp only at hSw); go_simp; try (with_reducible rfl))
            (try simp only [Act.put, List.setIfInBounds_toArray, List.set_cons_zero, List.set_cons_succ])
            refine wpAnyH_take (i := 3) (v := ?vv12_3) (by rw [List.getElem?_toArray]; exact rfl) (by kernel_rfl) (by kernel_rfl) (by kernel_rfl) (by intro _ _ _ h; exact h) (Or.inl ⟨by rfl, ?hy12_3⟩) hHeld ?rest12_3
            case' hy12_3 => (intro w hSw; (try dsimp only at hSw); go_simp; try (with_reducible rfl))
            (try simp only [Act.put, List.setIfInBounds_toArray, List.set_cons_zero, List.set_cons_succ])
            refine wpAnyH_take (i := 4) (v := ?vv12_4) (by rw [List.getElem?_toArray]; exact rfl) (by kernel_rfl) (by kernel_rfl) (by kernel_rfl) (by intro _ _ _ h; exact h) (Or.inl ⟨by rfl, ?hy12_4⟩) hHeld ?rest12_4
            case' hy12_4 => (intro w hSw; (try dsimp only at hSw); go_simp; try (with_reducible rfl))
            (try simp only [Act.put, List.setIfInBounds_toArray, List.set_cons_zero, List.set_cons_succ])
            refine wpAnyH_take (i := 6) (v := ?vv12_6) (by rw [List.getElem?_toArray]; exact rfl) (by kernel_rfl) (by kernel_rfl) (by kernel_rfl) (by intro _ _ _ h; exact h) (Or.inl ⟨by rfl, ?hy12_6⟩) hHeld ?rest12_6
            case' hy12_6 => (intro w hSw; (try dsimp only at hSw); go_simp; try (with_reducible rfl))
            (try simp only [Act.put, List.setIfInBounds_toArray, List.set_cons_zero, List.set_cons_succ])
            refine wpAnyH_take (i := 7) (v := ?vv12_7) (by rw [List.getElem?_toArray]; exact rfl) (by kernel_rfl) (by kernel_rfl) (by kernel_rfl) (by intro _ _ _ h; exact h) (Or.inl ⟨by rfl, ?hy12_7⟩) hHeld ?rest12_7
            case' hy12_7 => (intro w hSw; (try dsimp only at hSw); go_simp; try (with_reducible rfl))
            (try simp only [Act.put, List.setIfInBounds_toArray, List.set_cons_zero, List.set_cons_succ])
            refine wpAnyH_take (i := 8) (v := ?vv12_8) (by rw [List.getElem?_toArray]; exact rfl) (by kernel_rfl) (by kernel_rfl) (by kernel_rfl) (by intro _ _ _ h; exact h) (Or.inl ⟨by rfl, ?hy12_8⟩) hHeld ?rest12_8
            case' hy12_8 => (intro w hSw; (try dsimp only at hSw); go_simp; try (with_reducible rfl))
            (try simp only [Act.put, List.setIfInBounds_toArray, List.set_cons_zero, List.set_cons_succ])
            refine wpAnyH_take (i := 9) (v := ?vv12_9) (by rw [List.getElem?_toArray]; exact rfl) (by kernel_rfl) (by kernel_rfl) (by kernel_rfl) (by intro _ _ _ h; exact h) (Or.inl ⟨by rfl, ?hy12_9⟩) hHeld ?rest12_9
            case' hy12_9 => (intro w hSw; (try dsimp only at hSw); go_simp; try (with_reducible rfl))
            (try simp only [Act.put, List.setIfInBounds_toArray, List.set_cons_zero, List.set_cons_succ])
            refine wpAnyH_ready (rs := [5]) (by kernel_rfl) (by simp) ?_
            refine AllReadyH.cons (by rw [List.getElem?_toArray]; exact rfl) (fun K hK => ?_) AllReadyH.nil
            go_simp
            have o3 := OI.of_blk (Blk.new wr2.drew 3 #[.int .i64 x]) (Nat.le_refl _) (xs := [x]) (n := 1) rfl rfl (by omega)
            have BX3 : wr2.drew.heap.size ≤ (wr2.drew.alloc (.cells #[.int .i64 x] 3)).heap.size := by rw [World.size_alloc]; omega
            have b3 : Below wr2.heap.size wr2 (wr2.drew.alloc (.cells #[.int .i64 x] 3)) := BX.alloc BX.size _
            refine hK.out _ _ ?_ (fun hHeld => ?_)
            · first | exact hkeep _ BX | exact hkeep _ b3 | exact hkeep _ b4 | exact hkeep _ b5 | exact hkeep6
            clear hK K
            (try simp only [Act.put, List.setIfInBounds_toArray, List.set_cons_zero, List.set_cons_succ])
            refine wpAnyH_ready (rs := [10]) (by kernel_rfl) (by simp) ?_
            refine AllReadyH.cons (by rw [List.getElem?_toArray]; exact rfl) (fun K hK => ?_) AllReadyH.nil
            obtain ⟨v4, w4, hrun, o4, g4⟩ := runI 24 o3 ((ou.below b3).si) (by omega) BX3
            obtain ⟨A4, c4, rfl⟩ := o4.shape
            have b4 := below_of_grown b3 g4 b3.size (o3.grown_le BX.size)
            refine wp_append_stepO rfl _ _ rfl rfl rfl hrun ?_
            clear hrun
            refine hK.out _ _ ?_ (fun hHeld => ?_)
            · first | exact hkeep _ BX | exact hkeep _ b3 | exact hkeep _ b4 | exact hkeep _ b5 | exact hkeep6
            clear hK K
            (try simp only [Act.put, List.setIfInBounds_toArray, List.set_cons_zero, List.set_cons_succ])
            refine wpAnyH_ready (rs := [11]) (by kernel_rfl) (by simp) ?_
            refine AllReadyH.cons (by rw [List.getElem?_toArray]; exact rfl) (fun K hK => ?_) AllReadyH.nil
            go_simp
            have b5 : Below wr2.heap.size wr2 (w4.alloc (.cells #[.slice A4 (1 + mu) c4] 24)) := b4.alloc b4.size _
            have K5 := Blk.new w4 24 #[.slice A4 (1 + mu) c4]
            have o5 := (o4.alloc (.cells #[.slice A4 (1 + mu) c4] 24)).mono (B' := w.heap.size) (Nat.le_trans BW.out.size BX.size)
            refine hK.out _ _ ?_ (fun hHeld => ?_)
            · first | exact hkeep _ BX | exact hkeep _ b3 | exact hkeep _ b4 | exact hkeep _ b5 | exact hkeep6
            clear hK K
            (try simp only [Act.put, List.setIfInBounds_toArray, List.set_cons_zero, List.set_cons_succ])
            refine wpAnyH_ready (rs := [12]) (by kernel_rfl) (by simp) ?_
            refine AllReadyH.cons (by rw [List.getElem?_toArray]; exact rfl) (fun K hK => ?_) AllReadyH.nil
            have L5 := HLL.out.below b5
            obtain ⟨v6, w6, hrun, L6, g6, hat⟩ := LL.run L5 37 K5 o5 (by have := HM.out j; omega) (Nat.le_trans BW.out.size b5.size)
            have hne6 := own_neL HAP.out
            have B6 := L5.grows (below_step BW.out b5) (Nat.le_refl _) g6
            have hkeep6 := hc1 w6 B6 ((g6.block bm (Nat.lt_of_lt_of_le hbm b5.size) (fun e => hne6 e.symm)).trans (b5.block bm hbm))
            have L7 : LL w6 w2.heap.size (.slice (some ⟨bm, 0, none⟩) ms.length c3) ms := by obtain ⟨cs5, o5x, _⟩ := L5; exact (HL3.out.below b5).grown o5x g6 (.inr (fun e => hne6 e.symm))
            have AP7 : v6.ownBlock = none ∨ v6.ownBlock ≠ (Value.slice (some ⟨bm, 0, none⟩) ms.length c3).ownBlock := own_apL hat hne6 (Nat.lt_of_lt_of_le hbm b5.size)
            refine wp_append_stepO rfl _ _ rfl rfl rfl hrun ?_
            refine hK.out _ _ ?_ (fun hHeld => ?_)
            · first | exact hkeep _ BX | exact hkeep _ b3 | exact hkeep _ b4 | exact hkeep _ b5 | exact hkeep6
            clear hK K
            (try simp only [Act.put, List.setIfInBounds_toArray, List.set_cons_zero, List.set_cons_succ])
            refine wpAnyH_take (i := 13) (v := ?vv12_13) (by rw [List.getElem?_toArray]; exact rfl) (by kernel_rfl) (by kernel_rfl) (by kernel_rfl) (by intro _ _ _ h; exact h) (Or.inl ⟨by rfl, ?hy12_13⟩) hHeld ?rest12_13
            case' hy12_13 => (intro w hSw; (try dsimp only at hSw); go_simp; try (with_reducible rfl))
            (try simp only [Act.put, List.setIfInBounds_toArray, List.set_cons_zero, List.set_cons_succ])
            refine wpAnyH_done (by kernel_rfl) ?_ _
            go_wp2_with fail
            go_roundw
            case rel => exact ⟨j + 1, by go_num, by omega, by rw [HST.out]; exact L6, L7, AP7, B6⟩
            case measure => simp [intOf]; omega
          · obtain rfl : j = ms.length := by omega
            have he := permTo_next (xs := xs) (k := k) (j := ms.length) (by rw [HMS.out]; exact Nat.le_refl _)
            rw [← he] at hll
            have HLL2 := hide hll
            clear hll hl3 hap bw he HLL
            go_wp2_with fail
            go_roundw
            case rel => exact ⟨k + 1, by go_num, by omega, HLL2.out, BW.out⟩
            case measure => simp [intOf]; omega
      · obtain rfl : k = q + 1 := by omega
        have he : permTo xs (q + 1) 0 = permsF xs.length xs := by
          have := permTo_end (xs := xs) (fun e => by rw [e] at hl; cases hl)
          rw [HL.out] at this
          rw [this, HL.out]
        have HE := hide he; clear he
        have HLL := hide hll; have BW := hide bw
        clear hll bw
        go_wp2_with fail
        go_ret
        exact ⟨_, rfl, by rw [← HE.out]; exact HLL.out, BW.out⟩
end Go.Proofs.YtcfkemchekmjbaaGreatDoor
