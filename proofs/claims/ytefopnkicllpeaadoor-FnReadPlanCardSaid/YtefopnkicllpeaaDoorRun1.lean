/- A plan's copy (spec.l1OwnDraftList), the empty history (spec.l17Empty). -/
import Derived.Test.YtefopnkicllpeaaDoorPlan
import Derived.Test.YtefopnkicllpeaaDoorTx
namespace Go.Proofs.YtefopnkicllpeaaDoor
open Go.RowKit

theorem infoDr : (Tryd.prog.info? 37).map (fun i => (i.zero, i.size, i.bytes)) = some (some (.agg #[.int .i64 0, .slice none 0 0]), 2, 32) := by kernel_rfl
theorem infoOpz : (Tryd.prog.info? 42).map (fun i => (i.zero, i.size, i.bytes)) = some (some (.agg #[.int .i64 0, .int .i64 0, .int .i64 0]), 3, 24) := by kernel_rfl
theorem Rd.three {w : World} {g : Nat} {t : TypeId} {a b c : Value} (h : Blk w g t #[a, b, c]) : Rd w 3 (some ⟨g, 0, none⟩) 1 [a, b, c] :=
  ⟨rfl, fun _ => ⟨g, 0, rfl, h.lt, fun k u hu => by
    rw [Nat.zero_add, h.cell]
    match k, hu with
    | 0, hu => simpa using hu
    | 1, hu => simpa using hu
    | 2, hu => simpa using hu⟩⟩
theorem Rd.two {w : World} {g : Nat} {t : TypeId} {a b : Value} (h : Blk w g t #[a, b]) : Rd w 2 (some ⟨g, 0, none⟩) 1 [a, b] :=
  ⟨rfl, fun _ => ⟨g, 0, rfl, h.lt, fun k u hu => by
    rw [Nat.zero_add, h.cell]
    match k, hu with
    | 0, hu => simpa using hu
    | 1, hu => simpa using hu⟩⟩
theorem wpList_appD {w : World} {o : Oper} {a : Act} {Q : Exit → Act → World → Prop} {ops : Array Oper} {rest : List Oper} (hgd : o.guard = none) (s x : Operand)
    (ho : o.op = .call { callee := .builtin .append, args := #[s, x], argTypes := #[22, 22] })
    {B : Nat} {v : Value} {n : Nat} {cs : List Value} (hs : a.eval s = v) (hown : w.ownsRow B 37 2 v n cs)
    {g c : Nat} {f : Int} {u : Value} (hx : a.eval x = .slice (some ⟨g, 0, none⟩) 1 c) (K : Blk w g 37 #[.int .i64 f, u]) (hu : u.oneCell' = true) (hnm : n + 1 ≤ 1048576) (hbase : B ≤ w.heap.size)
    (h : ∀ v' w', w'.ownsRow B 37 2 v' (n + 1) (cs ++ [.int .i64 f, u]) → w.grownBy w' v.ownBlock → (v'.ownBlock = v.ownBlock ∨ v'.ownBlock = some w.heap.size) → wpList Tryd.prog ops Q rest (a.put o.dst v') w') : wpList Tryd.prog ops Q (o :: rest) a w := by
  obtain ⟨i, hi, hz, hsz, hby⟩ := info_parts infoDr
  refine wpList_app hgd s x _ ho B 37 i (.agg #[.int .i64 0, .slice none 0 0]) 2 32 Tryd.underlying22 hi hz hsz hby rfl (by omega) v n _ hs hown _ 1 c _ hx (Rd.two K) (fun q hq => ?_) (by simp only [maxLen]; omega) (by omega) hbase h
  simp at hq
  rcases hq with rfl | rfl
  · rfl
  · exact hu

/-- The cells of drafts. -/
def cellsD : List (Int × In) → List Value
  | [] => []
  | e :: es => .int .i64 e.1 :: e.2.1 :: cellsD es
theorem cellsD_append : ∀ es fs : List (Int × In), cellsD (es ++ fs) = cellsD es ++ cellsD fs
  | [], fs => rfl
  | e :: es, fs => by simp [cellsD, cellsD_append es fs]
theorem cellsD_get : ∀ (es : List (Int × In)) (k : Nat) (e : Int × In), es[k]? = some e → (cellsD es)[k * 2]? = some (.int .i64 e.1) ∧ (cellsD es)[k * 2 + 1]? = some e.2.1
  | [], k, e, h => by simp at h
  | a :: es, 0, e, h => by
    simp only [List.getElem?_cons_zero, Option.some.injEq] at h
    subst h; simp [cellsD]
  | a :: es, k + 1, e, h => by
    simp only [List.getElem?_cons_succ] at h
    have := cellsD_get es k e h
    simp only [cellsD, show (k + 1) * 2 = k * 2 + 1 + 1 by omega, List.getElem?_cons_succ]
    exact this
/-- Drafts of the call's own. -/
structure OD (w : World) (lo : Nat) (v : Value) (n : Nat) (es : List (Int × In)) : Prop where
  row : w.ownsRow lo 37 2 v n (cellsD es)
  own : ∀ (j : Nat) (e : Int × In), es[j]? = some e → OF 42 3 w lo e.2.1 e.2.2.1 e.2.2.2
  len : es.length = n
  small : n ≤ 1048576
theorem OD.below {w w' : World} {lo n : Nat} {v : Value} {es : List (Int × In)} (h : OD w lo v n es) (hb : Below w.heap.size w w') : OD w' lo v n es :=
  ⟨own_chg h.row (S := fun _ => False) (Chg.of_below hb) (fun _ _ => id), fun j e hj => (h.own j e hj).below hb, h.len, h.small⟩
theorem OD.ne {w : World} {lo n : Nat} {v : Value} {es : List (Int × In)} (h : OD w lo v n es) {j : Nat} {e : Int × In} (hj : es[j]? = some e) {k : Nat} (hk : v.ownBlock = some k) : e.2.1.ownBlock ≠ some k := by
  rcases h.row.2 with ⟨rfl, _⟩ | ⟨g, cap, cur, rfl, _, hb, _⟩
  · simp [Value.ownBlock] at hk
  · have e1 : g = k := by have h : some g = some k := hk; injection h
    subst e1
    exact (h.own j e hj).ne_blk hb (by decide)
theorem OD.push {w w' : World} {lo n : Nat} {v v' : Value} {es : List (Int × In)} (h : OD w lo v n es) {e : Int × In} (hr : w'.ownsRow lo 37 2 v' (n + 1) (cellsD es ++ [.int .i64 e.1, e.2.1])) (hg : w.grownBy w' v.ownBlock) (ho : OF 42 3 w' lo e.2.1 e.2.2.1 e.2.2.2) (hn : n + 1 ≤ 1048576) : OD w' lo v' (n + 1) (es ++ [e]) := by
  refine ⟨by rw [cellsD_append]; exact hr, fun i p hi => ?_, by simp [h.len], hn⟩
  by_cases e1 : i < es.length
  · rw [List.getElem?_append_left e1] at hi
    refine (h.own i p hi).grown hg ?_
    cases hv : p.2.1.ownBlock with
    | none => exact .inl rfl
    | some k => right; intro e2; exact h.ne hi e2.symm hv
  · have : i = es.length := by have := (List.getElem?_eq_some_iff.1 hi).1; simp at this; omega
    subst this
    simp at hi
    subst hi; exact ho
def SaysD (es : List (Int × In)) (ds : Ds) : Prop := es.map (fun e => (e.1, e.2.2.2)) = ds.map (fun d => (d.1, flat3 d.2))
theorem OD.rds {w : World} {lo n : Nat} {v : Value} {es : List (Int × In)} {ds : Ds} (h : OD w lo v n es) (hs : SaysD es ds) : ∃ A c, v = .slice A n c ∧ n ≤ c ∧ RDs w A n ds := by
  have hl := h.len
  have hl2 : es.length = ds.length := by have := congrArg List.length hs; simpa using this
  rcases h.row.2 with ⟨rfl, rfl⟩ | ⟨g, cap, cur, rfl, _, hb, hnc, hcm, _⟩
  · have : ds = [] := List.eq_nil_of_length_eq_zero (by omega)
    subst this
    exact ⟨none, 0, rfl, Nat.le_refl _, RDs.nil⟩
  · refine ⟨_, cap, rfl, hnc, by omega, fun _ => ⟨g, 0, rfl, Blk.lt hb, fun k t hk => ?_⟩⟩
    have h1 := congrArg (fun l => l[k]?) hs
    simp only [List.getElem?_map, hk, Option.map_some] at h1
    cases he : es[k]? with
    | none => rw [he] at h1; cases h1
    | some e =>
      rw [he] at h1
      simp only [Option.map_some, Option.some.injEq, Prod.mk.injEq] at h1
      obtain ⟨e1, e2⟩ := h1
      have hk2 : k < n := by rw [← hl]; exact (List.getElem?_eq_some_iff.1 he).1
      obtain ⟨c0, c1⟩ := cellsD_get es k e he
      have r0 := (World.ownsRow.cellAt h.row (k * 2) (by omega)).trans c0
      have r1 := (World.ownsRow.cellAt h.row (k * 2 + 1) (by omega)).trans c1
      have ho := h.own k e he
      rw [e2] at ho
      have ho3 : O3 42 w lo e.2.1 e.2.2.1 t.2 := ho
      obtain ⟨A', c', h4, h5, h6, h7⟩ := ho3.form
      rw [h4] at r1
      refine ⟨A', e.2.2.1, c', ?_, ?_, h5, h6, h7⟩
      · rw [Nat.zero_add, ← e1]; exact r0
      · rw [Nat.zero_add]; exact r1


theorem SaysD.nil : SaysD [] [] := rfl
theorem SaysD.push {es : List (Int × In)} {ds : Ds} {k : Nat} {f : Int} {ys : List T3} {v : Value} {n : Nat} (h : SaysD es (ds.take k)) (hx : ds[k]? = some (f, ys)) : SaysD (es ++ [(f, (v, n, flat3 ys))]) (ds.take (k + 1)) := by
  unfold SaysD at *
  rw [List.map_append, h, List.take_add_one, hx, List.map_append]; rfl

def emptyT (ds : Ds) : List Tx := ds.map fun d => (d.1, [], false)
theorem SaysT.push {es : List El} {ds : Ds} {k : Nat} {f : Int} {ys : List T3} {v : Value} (h : SaysT es (emptyT (ds.take k))) (hx : ds[k]? = some (f, ys)) : SaysT (es ++ [(f, (v, 0, []), false)]) (emptyT (ds.take (k + 1))) := by
  unfold SaysT emptyT at *
  rw [List.map_append, h, List.take_add_one, hx]; simp [flat3]


end Go.Proofs.YtefopnkicllpeaaDoor
