/- Drafts of the call's own whose steps may be clipped; appends inside a round; Clip. -/
import Derived.Test.YtefopnkicllpeaaDoorDrs2
import Derived.Test.YtefopnkicllpeaaDoorDeep
import Derived.Test.YtefopnkicllpeaaDoorApp3
import Derived.Test.YtefopnkicllpeaaDoorSpL
import Derived.Test.YtefopnkicllpeaaDoorRun1
namespace Go.Proofs.YtefopnkicllpeaaDoor
open Go.RowKit



def OW (t : TypeId) (s : Nat) (w : World) (B : Nat) (v : Value) (n : Nat) (xs : List Int) : Prop :=
  n ≤ 1048576 ∧ xs.length = n * s ∧ ((v = .slice none 0 0 ∧ n = 0) ∨ ∃ (g c : Nat) (cur : Array Value), v = .slice (some ⟨g, 0, none⟩) n c ∧ B ≤ g ∧ Blk w g t cur ∧ n ≤ c ∧ c ≤ maxLen ∧ n * s ≤ cur.size ∧ cur.toList.take (n * s) = xs.map (Value.int .i64))
section
variable {t : TypeId} {s : Nat} {w w' : World} {B B' n : Nat} {v : Value} {xs : List Int}
theorem OF.ow (h : OF t s w B v n xs) : OW t s w B v n xs := by
  refine ⟨h.2, h.len, ?_⟩
  rcases h.1.2 with h1 | ⟨g, cap, cur, rfl, hB, hg, hc, hm, hs, ht⟩
  · exact .inl h1
  · have h5 : n * s ≤ cap * s := Nat.mul_le_mul_right s hc
    exact .inr ⟨g, cap, cur, rfl, hB, hg, hc, hm, by omega, ht⟩
theorem OW.len (h : OW t s w B v n xs) : xs.length = n * s := h.2.1
theorem OW.small (h : OW t s w B v n xs) : n ≤ 1048576 := h.1
theorem OW.ne_blk {g : Nat} {t' : TypeId} {cs : Array Value} (h : OW t s w B v n xs) (hb : Blk w g t' cs) (ht : t' ≠ t) : v.ownBlock ≠ some g := by
  rcases h.2.2 with ⟨rfl, _⟩ | ⟨g', cap, cur, rfl, _, hh, _⟩
  · simp [Value.ownBlock]
  · intro he
    have e : g' = g := by have h : some g' = some g := he; injection h
    subst e
    unfold Blk at hb hh; rw [hh] at hb; injection hb with hb; injection hb with _ h2; exact ht h2.symm
theorem OW.chg {S : Nat → Prop} (h : OW t s w B v n xs) (hc : Chg S w w') (hS : ∀ k, v.ownBlock = some k → ¬ S k) : OW t s w' B v n xs := by
  refine ⟨h.1, h.2.1, ?_⟩
  rcases h.2.2 with h1 | ⟨g, c, cur, rfl, hb, hgg, rest⟩
  · exact .inl h1
  · exact .inr ⟨g, c, cur, rfl, hb, hgg.chg hc (hS g rfl), rest⟩
theorem OW.below (h : OW t s w B v n xs) (hb : Below w.heap.size w w') : OW t s w' B v n xs := h.chg (S := fun _ => False) (Chg.of_below hb) (fun _ _ => id)
theorem OW.lt (h : OW t s w B v n xs) : ∀ k, v.ownBlock = some k → B ≤ k ∧ k < w.heap.size := fun k hk => by
  rcases h.2.2 with ⟨rfl, _⟩ | ⟨g, c, cur, rfl, hb, hgg, _⟩
  · simp [Value.ownBlock] at hk
  · have e1 : g = k := by have h : some g = some k := hk; injection h
    subst e1; exact ⟨hb, hgg.lt⟩
theorem OW.mono (h : OW t s w B v n xs) (hB : B' ≤ B) : OW t s w B' v n xs := by
  refine ⟨h.1, h.2.1, ?_⟩
  rcases h.2.2 with h1 | ⟨g, c, cur, hv, hb, r⟩
  · exact .inl h1
  · exact .inr ⟨g, c, cur, hv, by omega, r⟩
theorem OW.grown {row : Option Nat} (h : OW t s w B v n xs) (hg : w.grownBy w' row) (hne : v.ownBlock = none ∨ v.ownBlock ≠ row) : OW t s w' B v n xs :=
  h.chg (S := fun k => row = some k) (Chg.of_grown hg (fun _ e => e)) (fun k hk hr => by
    rcases hne with h1 | h1
    · rw [h1] at hk; cases hk
    · exact h1 (by rw [hk, hr]))
theorem OW.form (h : OW t s w B v n xs) :
    ∃ A c, v = .slice A n c ∧ n ≤ c ∧ c ≤ maxLen ∧ (A = none → n = 0 ∧ c = 0) ∧ (∀ a, A = some a → ∃ g, a = ⟨g, 0, none⟩ ∧ B ≤ g ∧ g < w.heap.size) := by
  rcases h.2.2 with ⟨rfl, hn⟩ | ⟨g, c, cur, rfl, hB, hg, hc, hm, _⟩
  · subst hn
    exact ⟨none, 0, rfl, by simp, by simp [maxLen], fun _ => ⟨rfl, rfl⟩, fun a ha => by cases ha⟩
  · refine ⟨some ⟨g, 0, none⟩, c, rfl, hc, hm, (fun h => by cases h), fun a ha => ?_⟩
    injection ha with ha
    exact ⟨g, ha.symm, hB, hg.lt⟩
theorem OW.blk {g c : Nat} (h : OW t s w B (.slice (some ⟨g, 0, none⟩) n c) n xs) : ∃ cur : Array Value, B ≤ g ∧ Blk w g t cur ∧ n ≤ c ∧ c ≤ maxLen ∧ n * s ≤ cur.size ∧ cur.toList.take (n * s) = xs.map (Value.int .i64) := by
  rcases h.2.2 with ⟨h1, _⟩ | ⟨g', c', cur, h1, r⟩
  · cases h1
  · injection h1 with h1 _ h3; injection h1 with h1; injection h1 with h1; subst h1; subst h3; exact ⟨cur, r⟩
theorem OW.store {g c : Nat} (h : OW t s w B (.slice (some ⟨g, 0, none⟩) n c) n xs) (j : Nat) (x : Int) :
    OW t s (w.setCell ⟨g, j, none⟩ (.int .i64 x)) B (.slice (some ⟨g, 0, none⟩) n c) n (xs.set j x) := by
  obtain ⟨cur, h1, h2, h3, h4, h5, h6⟩ := h.blk
  refine ⟨h.1, by simp [h.2.1], .inr ⟨g, c, _, rfl, h1, h2.set_ j (.int .i64 x), h3, h4, by simpa using h5, ?_⟩⟩
  rw [Array.toList_setIfInBounds, List.map_set, ← h6, List.take_set]
theorem OW.cell {g c : Nat} (h : OW t s w B (.slice (some ⟨g, 0, none⟩) n c) n xs) (j : Nat) (hj : j < n * s) : ∃ x, xs[j]? = some x ∧ w.cell? ⟨g, j, none⟩ = some (.int .i64 x) := by
  obtain ⟨cur, h1, h2, h3, h4, h5, h6⟩ := h.blk
  have hl : j < xs.length := by rw [h.2.1]; exact hj
  refine ⟨xs[j], List.getElem?_eq_getElem hl, ?_⟩
  rw [h2.cell]
  have h7 := congrArg (fun l => l[j]?) h6
  simp only [List.getElem?_take, hj, if_true, List.getElem?_map, List.getElem?_eq_getElem hl, Option.map_some] at h7
  simpa using h7
theorem OW.free {g c : Nat} (h : OW t s w B (.slice (some ⟨g, 0, none⟩) n c) n xs) (j : Nat) : w.frozen? ⟨g, j, none⟩ = false := by
  obtain ⟨cur, h1, h2, _⟩ := h.blk; exact h2.frozen j
end
theorem OW.s3 {t : TypeId} {w : World} {B n : Nat} {v : Value} {ts : List T3} (h : OW t 3 w B v n (flat3 ts)) : S3 w v n ts := by
  have hl := h.len
  rw [flat3_len] at hl
  rcases h.2.2 with ⟨rfl, hn⟩ | ⟨g, c, cur, rfl, hB, hg, hc, hm, hs, ht⟩
  · subst hn
    have hx : ts = [] := List.eq_nil_of_length_eq_zero (by omega)
    subst hx
    exact ⟨none, 0, rfl, by simp, by simp, R3.nil⟩
  · refine ⟨some ⟨g, 0, none⟩, c, rfl, hc, h.1, by omega, fun _ => ⟨g, 0, rfl, hg.lt, fun k x hx => ?_⟩⟩
    have hk : k < n * 3 := by rw [← h.len]; exact (List.getElem?_eq_some_iff.1 hx).1
    obtain ⟨x', h1, h2⟩ := h.cell k hk
    rw [Nat.zero_add]
    rw [hx] at h1; injection h1 with h1; subst h1; exact h2


structure OW2 (w : World) (lo : Nat) (v : Value) (n : Nat) (es : List (Int × In)) : Prop where
  row : w.ownsRow lo 37 2 v n (cellsD es)
  own : ∀ (j : Nat) (e : Int × In), es[j]? = some e → OW 42 3 w lo e.2.1 e.2.2.1 e.2.2.2
  apart : ∀ (i j : Nat) (p q : Int × In), i ≠ j → es[i]? = some p → es[j]? = some q → Apart p.2.1 q.2.1
  len : es.length = n
  small : n ≤ 1048576
theorem OW2.ne {w : World} {lo n : Nat} {v : Value} {es : List (Int × In)} (h : OW2 w lo v n es) {j : Nat} {e : Int × In} (hj : es[j]? = some e) {k : Nat} (hk : v.ownBlock = some k) : e.2.1.ownBlock ≠ some k := by
  rcases h.row.2 with ⟨rfl, _⟩ | ⟨g, cap, cur, rfl, _, hb, _⟩
  · simp [Value.ownBlock] at hk
  · have e1 : g = k := by have h : some g = some k := hk; injection h
    subst e1
    exact (h.own j e hj).ne_blk hb (by decide)
/-- The blocks in which it lies. -/
def OW2.S (v : Value) (es : List (Int × In)) (k : Nat) : Prop := v.ownBlock = some k ∨ ∃ (j : Nat) (e : Int × In), es[j]? = some e ∧ e.2.1.ownBlock = some k
/-- It stays where its blocks stay. -/
theorem OW2.keep {w w' : World} {lo n : Nat} {v : Value} {es : List (Int × In)} (h : OW2 w lo v n es) (hk : ∀ (g : Nat) (cs : Array Value) (t : TypeId), OW2.S v es g → t = 37 ∨ t = 42 → Blk w g t cs → Blk w' g t cs) : OW2 w' lo v n es := by
  refine ⟨⟨h.row.1, ?_⟩, fun j e hj => ?_, h.apart, h.len, h.small⟩
  · rcases h.row.2 with h2 | ⟨g, cap, cur, hv, hb, hg, r⟩
    · exact .inl h2
    · exact .inr ⟨g, cap, cur, hv, hb, hk g cur _ (.inl (by rw [hv]; rfl)) (.inl rfl) hg, r⟩
  · obtain ⟨h1, h2, h3⟩ := h.own j e hj
    refine ⟨h1, h2, ?_⟩
    rcases h3 with h3 | ⟨g, c, cur, hv, hB, hg, r⟩
    · exact .inl h3
    · exact .inr ⟨g, c, cur, hv, hB, hk g cur _ (.inr ⟨j, e, hj, by rw [hv]; rfl⟩) (.inr rfl) hg, r⟩
theorem OW2.range {w : World} {lo n : Nat} {v : Value} {es : List (Int × In)} (h : OW2 w lo v n es) : ∀ k, OW2.S v es k → lo ≤ k ∧ k < w.heap.size := fun k hk => by
  rcases hk with hk | ⟨j, e, hj, hk⟩
  · exact World.ownsRow.lt h.row k hk
  · exact (h.own j e hj).lt k hk
theorem OW2.push {w w' : World} {lo n : Nat} {v v' : Value} {es : List (Int × In)} (h : OW2 w lo v n es) {e : Int × In} (hr : w'.ownsRow lo 37 2 v' (n + 1) (cellsD es ++ [.int .i64 e.1, e.2.1])) (hg : w.grownBy w' v.ownBlock) (ho : OW 42 3 w' lo e.2.1 e.2.2.1 e.2.2.2)
    (ha : ∀ (j : Nat) (p : Int × In), es[j]? = some p → Apart p.2.1 e.2.1) (hn : n + 1 ≤ 1048576) : OW2 w' lo v' (n + 1) (es ++ [e]) := by
  have hx : ∀ (i : Nat) (p : Int × In), (es ++ [e])[i]? = some p → (i < es.length ∧ es[i]? = some p) ∨ (i = es.length ∧ p = e) := fun i p hi => by
    by_cases e1 : i < es.length
    · rw [List.getElem?_append_left e1] at hi; exact .inl ⟨e1, hi⟩
    · have : i = es.length := by have := (List.getElem?_eq_some_iff.1 hi).1; simp at this; omega
      subst this
      simp at hi
      exact .inr ⟨rfl, hi.symm⟩
  refine ⟨by rw [cellsD_append]; exact hr, fun i p hi => ?_, fun i j p q hij hi hj => ?_, by simp [h.len], hn⟩
  · rcases hx i p hi with ⟨_, hi⟩ | ⟨_, rfl⟩
    · refine (h.own i p hi).grown hg ?_
      cases hv : p.2.1.ownBlock with
      | none => exact .inl rfl
      | some k => right; intro e2; exact h.ne hi e2.symm hv
    · exact ho
  · rcases hx i p hi with ⟨h1, hi'⟩ | ⟨h1, rfl⟩
    · rcases hx j q hj with ⟨h2, hj'⟩ | ⟨h2, rfl⟩
      · exact h.apart i j p q hij hi' hj'
      · exact ha i p hi'
    · rcases hx j q hj with ⟨h2, hj'⟩ | ⟨h2, rfl⟩
      · have := ha j q hj'
        unfold Apart at *
        cases hp : p.2.1.ownBlock with
        | none => exact .inl rfl
        | some k =>
          right
          rcases this with h3 | h3
          · rw [h3]; simp
          · rw [hp] at h3; exact fun e => h3 e.symm
      · omega
theorem OW2.rds {w : World} {lo n : Nat} {v : Value} {es : List (Int × In)} {ds : Ds} (h : OW2 w lo v n es) (hs : SaysD es ds) : ∃ A c, v = .slice A n c ∧ n ≤ c ∧ RDs w A n ds := by
  have hl := h.len
  have hl2 : es.length = ds.length := by have := congrArg List.length hs; simpa using this
  rcases h.row.2 with ⟨rfl, rfl⟩ | ⟨g, cap, cur, rfl, _, hb, hnc, hcm, _⟩
  · have : ds = [] := List.eq_nil_of_length_eq_zero (by omega)
    subst this
    exact ⟨none, 0, rfl, Nat.le_refl _, RDs.nil⟩
  · refine ⟨_, cap, rfl, hnc, by omega, fun _ => ⟨g, 0, rfl, Blk.lt hb, fun k t hk => ?_⟩⟩
    have h1 := congrArg (fun l => l[k]?) hs
    simp only [List.getElem?_map, hk, Option.map_some] at h1
    cases he : es[k]? with
    | none => rw [he] at h1; cases h1
    | some e =>
      rw [he] at h1
      simp only [Option.map_some, Option.some.injEq, Prod.mk.injEq] at h1
      obtain ⟨e1, e2⟩ := h1
      have hk2 : k < n := by rw [← hl]; exact (List.getElem?_eq_some_iff.1 he).1
      obtain ⟨c0, c1⟩ := cellsD_get es k e he
      have r0 := (World.ownsRow.cellAt h.row (k * 2) (by omega)).trans c0
      have r1 := (World.ownsRow.cellAt h.row (k * 2 + 1) (by omega)).trans c1
      have ho := h.own k e he
      rw [e2] at ho
      have hf := ho.form
      obtain ⟨A', c', h4, h5, h7⟩ := ho.s3
      have h6 : c' ≤ maxLen := by
        obtain ⟨A2, c2, h8, h9, h10, _⟩ := hf
        rw [h4] at h8; injection h8 with _ _ h8; subst h8; exact h10
      have h7 := h7.2
      rw [h4] at r1
      refine ⟨A', e.2.2.1, c', ?_, ?_, h5, h6, h7⟩
      · rw [Nat.zero_add, ← e1]; exact r0
      · rw [Nat.zero_add]; exact r1

theorem run_clip (A : Option Addr) (n c : Nat) (hnc : n ≤ c) (hA : ∀ a, A = some a → ∃ g, a = ⟨g, 0, none⟩) (w : World) :
    (Instr.slice 35 (.slice A n c) none (some (.int .i64 (n : Int))) (some (.int .i64 (n : Int)))).run Tryd.prog w = .ok (.slice A n n) w := by
  obtain ⟨i, hi, hz, hsz, hb⟩ := info_parts infoOpz
  have h1 : (if n = 0 then A else A.map (·.add (0 * i.size))) = A := by
    split
    · rfl
    · cases A with
      | none => rfl
      | some a => obtain ⟨g, rfl⟩ := hA a rfl; rw [Nat.zero_mul]; simp [addr_add]
  simp [Instr.slice, Instr.sliceBounds, Instr.sliceBound, run_underlying Tryd.underlying35, sizeOf, typeInfo, hi, asIntOf, hnc]
  simpa using h1

set_option maxHeartbeats 1000000 in
theorem Clip_Op_c {v : Value} {B n : Nat} {xs : List Int} {w : World} (h : OW 42 3 w B v n xs) :
    Calls Tryd.prog 23 #[v] w fun e w' => ∃ v', e = .returned v' ∧ OW 42 3 w B v' n xs ∧ w = w' := by
  obtain ⟨A, c, rfl, hnc, hcm, h1, h2⟩ := h.form
  have hcl := fun w => run_clip A n c hnc (fun a ha => by obtain ⟨g, h3, _⟩ := h2 a ha; exact ⟨g, h3⟩) w
  have ho : OW 42 3 w B (.slice A n n) n xs := by
    refine ⟨h.1, h.2.1, ?_⟩
    rcases h.2.2 with ⟨e, hn⟩ | ⟨g, c', cur, e, hB, hg, hc, hm, r⟩
    · injection e with e1 _ e3; subst hn; subst e1; exact .inl ⟨rfl, rfl⟩
    · injection e with e1 _ e3; subst e1; exact .inr ⟨g, n, cur, rfl, hB, hg, Nat.le_refl _, by omega, r⟩
  have HO := hide ho
  have hn := h.1
  clear ho h h1 h2
  go_enter Tryd.func23, Tryd.ntmps23
  go_wp2_with fail
  go_ret
  exact ⟨_, rfl, HO.out, rfl⟩

theorem run_clipD (A : Option Addr) (n c : Nat) (hnc : n ≤ c) (hA : ∀ a, A = some a → ∃ g, a = ⟨g, 0, none⟩) (w : World) :
    (Instr.slice 22 (.slice A n c) none (some (.int .i64 (n : Int))) (some (.int .i64 (n : Int)))).run Tryd.prog w = .ok (.slice A n n) w := by
  obtain ⟨i, hi, hz, hsz, hb⟩ := info_parts infoDr
  have h1 : (if n = 0 then A else A.map (·.add (0 * i.size))) = A := by
    split
    · rfl
    · cases A with
      | none => rfl
      | some a => obtain ⟨g, rfl⟩ := hA a rfl; rw [Nat.zero_mul]; simp [addr_add]
  simp [Instr.slice, Instr.sliceBounds, Instr.sliceBound, run_underlying Tryd.underlying22, sizeOf, typeInfo, hi, asIntOf, hnc]
  simpa using h1


/-- The clipped row of drafts. -/
theorem Clip_Draft_c {A : Option Addr} {n c lo : Nat} {es : List (Int × In)} {w : World} (h : OW2 w lo (.slice A n c) n es) :
    Calls Tryd.prog 25 #[.slice A n c] w fun e w' => e = .returned (.slice A n n) ∧ w = w' := by
  have hA : n ≤ c ∧ ∀ a, A = some a → ∃ g, a = ⟨g, 0, none⟩ := by
    rcases h.row.2 with ⟨e, h0⟩ | ⟨g, cap, cur, e, _, _, hnc, _⟩
    · injection e with e1 _ e3; subst h0; subst e1; subst e3; exact ⟨Nat.le_refl _, fun a ha => by cases ha⟩
    · injection e with e1 _ e3; subst e1; subst e3; exact ⟨hnc, fun a ha => ⟨g, by injection ha with ha; exact ha.symm⟩⟩
  have hcl := fun w => run_clipD A n c hA.1 hA.2 w
  have hn := h.small
  clear h hA
  go_enter Tryd.func25, Tryd.ntmps25
  go_wp2_with fail
  go_ret
  exact ⟨rfl, rfl⟩
/-- An append inside a round: the operation's run is known. -/
theorem wpIn_appI {F : Fence} {n : Nat} {w : World} {o : Oper} {a : Act} {K : Act → World → Prop} {Q : Exit → Act → World → Prop} (s x : Operand) {t : TypeId}
    (ho : o.op = .call { callee := .builtin .append, args := #[s, x], argTypes := #[t, t] })
    {v v' : Value} {w' : World} {u : Value} (hs : a.eval s = v) (hx : a.eval x = u) (hrun : (Builtin.append_ #[t, t] o.type #[v, u]).run Tryd.prog w = .ok v' w') (h : K (a.put o.dst v') w') : o.wpIn F n Tryd.prog a w K Q := by
  unfold Oper.wpIn
  refine ⟨?_, ?_⟩
  · simp [Oper.about, ho, resolve, Target.leads, Sem.run_pure]
  · rw [Oper.semAt_plain F _ _ (by rw [ho]; intro c hc'; cases hc')]
    simp only [execOp, ho, resolve, invoke, builtin, Sem.run_bind, Sem.run_pure, Result.andThen_ok, List.map_toArray, List.map_cons, List.map_nil, hs, hx, hrun]
    exact h

theorem wpIn_app_step {F : Fence} {n : Nat} {w : World} {o : Oper} {a : Act} {K : Act → World → Prop} {Q : Exit → Act → World → Prop} {ops : Array Oper} {E : Prop} (hgd : o.guard = none) (s x : Operand) {t : TypeId}
    (ho : o.op = .call { callee := .builtin .append, args := #[s, x], argTypes := #[t, t] })
    {v v' : Value} {w' : World} {u : Value} (hs : a.eval s = v) (hx : a.eval x = u) (hrun : (Builtin.append_ #[t, t] o.type #[v, u]).run Tryd.prog w = .ok v' w') (h : K (a.put o.dst v') w') :
    if Region.wanted o (yielded ops a.tmps) = true then o.wpIn F n Tryd.prog a w K Q else E := by
  have hw : Region.wanted o (yielded ops a.tmps) = true := by simp [Region.wanted, hgd]
  rw [if_pos hw]
  exact wpIn_appI s x ho hs hx hrun h

end Go.Proofs.YtefopnkicllpeaaDoor
