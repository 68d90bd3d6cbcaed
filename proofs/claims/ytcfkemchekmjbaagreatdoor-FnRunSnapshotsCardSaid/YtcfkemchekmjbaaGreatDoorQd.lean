/- Merged (what the law reaches): Run1, RunP. -/
import Derived.Test.YtcfkemchekmjbaaGreatDoorQc
namespace Go.Proofs.YtcfkemchekmjbaaGreatDoor
open Go.RowKit
theorem infoTx : (Tryz.prog.info? 66).map (fun i => (i.zero, i.size, i.bytes)) = some (some (.agg #[.int .i64 0, .slice none 0 0, .bool false]), 3, 40) := by kernel_rfl
theorem infoDr : (Tryz.prog.info? 77).map (fun i => (i.zero, i.size, i.bytes)) = some (some (.agg #[.int .i64 0, .slice none 0 0]), 2, 32) := by kernel_rfl
theorem infoOpz : (Tryz.prog.info? 61).map (fun i => (i.zero, i.size, i.bytes)) = some (some (.agg #[.int .i64 0, .int .i64 0, .int .i64 0]), 3, 24) := by kernel_rfl
theorem Rd.three {w : World} {g : Nat} {t : TypeId} {a b c : Value} (h : Blk w g t #[a, b, c]) : Rd w 3 (some ⟨g, 0, none⟩) 1 [a, b, c] :=
  ⟨rfl, fun _ => ⟨g, 0, rfl, h.lt, fun k u hu => by
    rw [Nat.zero_add, h.cell]
    match k, hu with
    | 0, hu => simpa using hu
    | 1, hu => simpa using hu
    | 2, hu => simpa using hu⟩⟩
theorem Rd.two {w : World} {g : Nat} {t : TypeId} {a b : Value} (h : Blk w g t #[a, b]) : Rd w 2 (some ⟨g, 0, none⟩) 1 [a, b] :=
  ⟨rfl, fun _ => ⟨g, 0, rfl, h.lt, fun k u hu => by
    rw [Nat.zero_add, h.cell]
    match k, hu with
    | 0, hu => simpa using hu
    | 1, hu => simpa using hu⟩⟩
/-- 'append(v, x)' on []Txn: v the call's own, x one transaction. -/
theorem wpList_appT {w : World} {o : Oper} {a : Act} {Q : Exit → Act → World → Prop} {ops : Array Oper} {rest : List Oper} (hgd : o.guard = none) (s x : Operand)
    (ho : o.op = .call { callee := .builtin .append, args := #[s, x], argTypes := #[27, 27] })
    {B : Nat} {v : Value} {n : Nat} {cs : List Value} (hs : a.eval s = v) (hown : w.ownsRow B 66 3 v n cs)
    {g c : Nat} {f : Int} {u : Value} {d : Bool} (hx : a.eval x = .slice (some ⟨g, 0, none⟩) 1 c) (K : Blk w g 66 #[.int .i64 f, u, .bool d]) (hu : u.oneCell' = true) (hnm : n + 1 ≤ 1048576) (hbase : B ≤ w.heap.size)
    (h : ∀ v' w', w'.ownsRow B 66 3 v' (n + 1) (cs ++ [.int .i64 f, u, .bool d]) → w.grownBy w' v.ownBlock → (v'.ownBlock = v.ownBlock ∨ v'.ownBlock = some w.heap.size) → wpList Tryz.prog ops Q rest (a.put o.dst v') w') : wpList Tryz.prog ops Q (o :: rest) a w := by
  obtain ⟨i, hi, hz, hsz, hby⟩ := info_parts infoTx
  refine wpList_app hgd s x _ ho B 66 i (.agg #[.int .i64 0, .slice none 0 0, .bool false]) 3 40 Tryz.underlying27 hi hz hsz hby rfl (by omega) v n _ hs hown _ 1 c _ hx (Rd.three K) (fun q hq => ?_) (by simp only [maxLen]; omega) (by omega) hbase h
  simp at hq
  rcases hq with rfl | rfl | rfl
  · rfl
  · exact hu
  · rfl
theorem wpList_appD {w : World} {o : Oper} {a : Act} {Q : Exit → Act → World → Prop} {ops : Array Oper} {rest : List Oper} (hgd : o.guard = none) (s x : Operand)
    (ho : o.op = .call { callee := .builtin .append, args := #[s, x], argTypes := #[23, 23] })
    {B : Nat} {v : Value} {n : Nat} {cs : List Value} (hs : a.eval s = v) (hown : w.ownsRow B 77 2 v n cs)
    {g c : Nat} {f : Int} {u : Value} (hx : a.eval x = .slice (some ⟨g, 0, none⟩) 1 c) (K : Blk w g 77 #[.int .i64 f, u]) (hu : u.oneCell' = true) (hnm : n + 1 ≤ 1048576) (hbase : B ≤ w.heap.size)
    (h : ∀ v' w', w'.ownsRow B 77 2 v' (n + 1) (cs ++ [.int .i64 f, u]) → w.grownBy w' v.ownBlock → (v'.ownBlock = v.ownBlock ∨ v'.ownBlock = some w.heap.size) → wpList Tryz.prog ops Q rest (a.put o.dst v') w') : wpList Tryz.prog ops Q (o :: rest) a w := by
  obtain ⟨i, hi, hz, hsz, hby⟩ := info_parts infoDr
  refine wpList_app hgd s x _ ho B 77 i (.agg #[.int .i64 0, .slice none 0 0]) 2 32 Tryz.underlying23 hi hz hsz hby rfl (by omega) v n _ hs hown _ 1 c _ hx (Rd.two K) (fun q hq => ?_) (by simp only [maxLen]; omega) (by omega) hbase h
  simp at hq
  rcases hq with rfl | rfl
  · rfl
  · exact hu
/-- The cells of drafts. -/
def cellsD : List (Int × In) → List Value
  | [] => []
  | e :: es => .int .i64 e.1 :: e.2.1 :: cellsD es
theorem cellsD_append : ∀ es fs : List (Int × In), cellsD (es ++ fs) = cellsD es ++ cellsD fs
  | [], fs => rfl
  | e :: es, fs => by simp [cellsD, cellsD_append es fs]
theorem cellsD_get : ∀ (es : List (Int × In)) (k : Nat) (e : Int × In), es[k]? = some e → (cellsD es)[k * 2]? = some (.int .i64 e.1) ∧ (cellsD es)[k * 2 + 1]? = some e.2.1
  | [], k, e, h => by simp at h
  | a :: es, 0, e, h => by
    simp only [List.getElem?_cons_zero, Option.some.injEq] at h
    subst h; simp [cellsD]
  | a :: es, k + 1, e, h => by
    simp only [List.getElem?_cons_succ] at h
    have := cellsD_get es k e h
    simp only [cellsD, show (k + 1) * 2 = k * 2 + 1 + 1 by omega, List.getElem?_cons_succ]
    exact this
/-- Drafts of the call's own. -/
structure OD (w : World) (lo : Nat) (v : Value) (n : Nat) (es : List (Int × In)) : Prop where
  row : w.ownsRow lo 77 2 v n (cellsD es)
  own : ∀ (j : Nat) (e : Int × In), es[j]? = some e → OF 61 3 w lo e.2.1 e.2.2.1 e.2.2.2
  len : es.length = n
  small : n ≤ 1048576
theorem OD.below {w w' : World} {lo n : Nat} {v : Value} {es : List (Int × In)} (h : OD w lo v n es) (hb : Below w.heap.size w w') : OD w' lo v n es :=
  ⟨own_chg h.row (S := fun _ => False) (Chg.of_below hb) (fun _ _ => id), fun j e hj => (h.own j e hj).below hb, h.len, h.small⟩
theorem OD.ne {w : World} {lo n : Nat} {v : Value} {es : List (Int × In)} (h : OD w lo v n es) {j : Nat} {e : Int × In} (hj : es[j]? = some e) {k : Nat} (hk : v.ownBlock = some k) : e.2.1.ownBlock ≠ some k := by
  rcases h.row.2 with ⟨rfl, _⟩ | ⟨g, cap, cur, rfl, _, hb, _⟩
  · simp [Value.ownBlock] at hk
  · have e1 : g = k := by have h : some g = some k := hk; injection h
    subst e1
    exact (h.own j e hj).ne_blk hb (by decide)
theorem OD.push {w w' : World} {lo n : Nat} {v v' : Value} {es : List (Int × In)} (h : OD w lo v n es) {e : Int × In} (hr : w'.ownsRow lo 77 2 v' (n + 1) (cellsD es ++ [.int .i64 e.1, e.2.1])) (hg : w.grownBy w' v.ownBlock) (ho : OF 61 3 w' lo e.2.1 e.2.2.1 e.2.2.2) (hn : n + 1 ≤ 1048576) : OD w' lo v' (n + 1) (es ++ [e]) := by
  refine ⟨by rw [cellsD_append]; exact hr, fun i p hi => ?_, by simp [h.len], hn⟩
  by_cases e1 : i < es.length
  · rw [List.getElem?_append_left e1] at hi
    refine (h.own i p hi).grown hg ?_
    cases hv : p.2.1.ownBlock with
    | none => exact .inl rfl
    | some k => right; intro e2; exact h.ne hi e2.symm hv
  · have : i = es.length := by have := (List.getElem?_eq_some_iff.1 hi).1; simp at this; omega
    subst this
    simp at hi
    subst hi; exact ho
def SaysD (es : List (Int × In)) (ds : Ds) : Prop := es.map (fun e => (e.1, e.2.2.2)) = ds.map (fun d => (d.1, flat3 d.2))
theorem OD.rds {w : World} {lo n : Nat} {v : Value} {es : List (Int × In)} {ds : Ds} (h : OD w lo v n es) (hs : SaysD es ds) : ∃ A c, v = .slice A n c ∧ n ≤ c ∧ RDs w A n ds := by
  have hl := h.len
  have hl2 : es.length = ds.length := by have := congrArg List.length hs; simpa using this
  rcases h.row.2 with ⟨rfl, rfl⟩ | ⟨g, cap, cur, rfl, _, hb, hnc, hcm, _⟩
  · have : ds = [] := List.eq_nil_of_length_eq_zero (by omega)
    subst this
    exact ⟨none, 0, rfl, Nat.le_refl _, RDs.nil⟩
  · refine ⟨_, cap, rfl, hnc, by omega, fun _ => ⟨g, 0, rfl, Blk.lt hb, fun k t hk => ?_⟩⟩
    have h1 := congrArg (fun l => l[k]?) hs
    simp only [List.getElem?_map, hk, Option.map_some] at h1
    cases he : es[k]? with
    | none => rw [he] at h1; cases h1
    | some e =>
      rw [he] at h1
      simp only [Option.map_some, Option.some.injEq, Prod.mk.injEq] at h1
      obtain ⟨e1, e2⟩ := h1
      have hk2 : k < n := by rw [← hl]; exact (List.getElem?_eq_some_iff.1 he).1
      obtain ⟨c0, c1⟩ := cellsD_get es k e he
      have r0 := (World.ownsRow.cellAt h.row (k * 2) (by omega)).trans c0
      have r1 := (World.ownsRow.cellAt h.row (k * 2 + 1) (by omega)).trans c1
      have ho := h.own k e he
      rw [e2] at ho
      have ho3 : O3 61 w lo e.2.1 e.2.2.1 t.2 := ho
      obtain ⟨A', c', h4, h5, h6, h7⟩ := ho3.form
      rw [h4] at r1
      refine ⟨A', e.2.2.1, c', ?_, ?_, h5, h6, h7⟩
      · rw [Nat.zero_add, ← e1]; exact r0
      · rw [Nat.zero_add]; exact r1
theorem SaysD.nil : SaysD [] [] := rfl
theorem SaysD.push {es : List (Int × In)} {ds : Ds} {k : Nat} {f : Int} {ys : List T3} {v : Value} {n : Nat} (h : SaysD es (ds.take k)) (hx : ds[k]? = some (f, ys)) : SaysD (es ++ [(f, (v, n, flat3 ys))]) (ds.take (k + 1)) := by
  unfold SaysD at *
  rw [List.map_append, h, List.take_add_one, hx, List.map_append]; rfl
def emptyT (ds : Ds) : List Tx := ds.map fun d => (d.1, [], false)
theorem SaysT.push {es : List El} {ds : Ds} {k : Nat} {f : Int} {ys : List T3} {v : Value} (h : SaysT es (emptyT (ds.take k))) (hx : ds[k]? = some (f, ys)) : SaysT (es ++ [(f, (v, 0, []), false)]) (emptyT (ds.take (k + 1))) := by
  unfold SaysT emptyT at *
  rw [List.map_append, h, List.take_add_one, hx]; simp [flat3]
theorem OT.zero {w : World} {lo : Nat} (hlo : lo ≤ w.heap.size) : OT (w.alloc (.cells #[] 66)) lo (.slice (some ⟨w.heap.size, 0, none⟩) 0 0) 0 [] :=
  ⟨⟨rfl, .inr ⟨w.heap.size, 0, #[], rfl, hlo, Blk.new w _ _, Nat.le_refl _, by simp [maxLen], rfl, rfl⟩⟩, fun j e h => by simp at h, fun i j p q _ h => by simp at h, by omega⟩
theorem OT.none_ {w : World} {lo : Nat} : OT w lo (.slice none 0 0) 0 [] := ⟨⟨rfl, .inl ⟨rfl, rfl⟩⟩, fun j e h => by simp at h, fun i j p q _ h => by simp at h, by omega⟩
set_option maxHeartbeats 4000000 in
theorem l17Empty_c {A : Option Addr} {n c : Nat} {ms : Ds} {w : World} (hr : RDs w A n ms) (hn : n ≤ 1048575) :
    Calls Tryz.prog 41 #[.slice A n c] w fun e w' => ∃ v es, e = .returned v ∧ OT w' w.heap.size v n es ∧ SaysT es (emptyT ms) ∧ Below w.heap.size w w' := by
  have hl := hide hr.1
  have D0 : OT (w.alloc (.cells #[] 66)) w.heap.size (.slice (some ⟨w.heap.size, 0, none⟩) 0 0) 0 [] := OT.zero (Nat.le_refl _)
  have B0 : Below w.heap.size w (w.alloc (.cells #[] 66)) := (Below.refl _ _).alloc (Nat.le_refl _) _
  go_enter Tryz.func41, Tryz.ntmps41
  go_wp2_with fail
  go_loopw [3, 4] (fun s i wr => ∃ (k : Nat) (es : List El), k ≤ n ∧ i = .int .i64 k ∧ OT wr w.heap.size s k es ∧ SaysT es (emptyT (ms.take k)) ∧ Below w.heap.size w wr) (fun _ i _ => n - (intOf i).toNat)
  case atStart => exact ⟨0, [], Nat.zero_le _, rfl, D0, by simp [SaysT, emptyT], B0⟩
  case round =>
    clear D0 B0
    obtain ⟨k, es, hk, rfl, D, hsay, bw⟩ := hrel
    have Hs := hide hsay; clear hsay
    by_cases hkn : k < n
    · obtain ⟨b, off, f, ys, B, kk, d, rfl, hbb, hx, q0, q1, hkd, hdm, hri⟩ := hr.at_ hkn
      have e0 := (bw.cell (p := ⟨b, off + k * 2, none⟩) hbb).trans q0
      have Hx := hide hx
      clear hx q0 q1
      have k0 : (0 : Int) ≤ k := by omega
      have k2 : (k : Int) < n := by omega
      have o2 := ((O3.empty 61 wr).alloc (.cells #[.int .i64 f, .slice (some ⟨wr.heap.size, 0, none⟩) 0 0, .bool false] 66))
      have fr := fun (j : Nat) (p : El) (hj : es[j]? = some p) => own_apart (D.own j p hj).1 (O3.empty 61 wr).1
      have o2' := o2.mono bw.size
      have K2 := Blk.new (wr.alloc (.cells #[] 61)) 66 #[.int .i64 f, .slice (some ⟨wr.heap.size, 0, none⟩) 0 0, .bool false]
      have D2 := (D.alloc (.cells #[] 61)).alloc (.cells #[.int .i64 f, .slice (some ⟨wr.heap.size, 0, none⟩) 0 0, .bool false] 66)
      have B3 : Below w.heap.size w ((wr.alloc (.cells #[] 61)).alloc (.cells #[.int .i64 f, .slice (some ⟨wr.heap.size, 0, none⟩) 0 0, .bool false] 66)) := (bw.alloc bw.size _).alloc (by have := bw.size; simp; omega) _
      simp only [World.size_alloc] at K2
      have hk1 : k + 1 ≤ 1048576 := by omega
      have hsp := SaysT.push (v := .slice (some ⟨wr.heap.size, 0, none⟩) 0 0) Hs.out Hx.out
      have Hsp := hide hsp
      have Fr := hide fr
      clear hsp fr o2
      go_wp2_with (at_builtin; refine wpList_appT rfl _ _ rfl rfl D2.row rfl K2 rfl hk1 B3.size ?_; intro v1 w4 h4 hg4 hat; have D4 := D2.push (e := (f, (.slice (some ⟨wr.heap.size, 0, none⟩) 0 0, 0, []), false)) (by rw [cellsT_append]; exact h4) hg4 (OF.grown o2'.of hg4 (by
        right; intro e2
        rcases D2.row.2 with ⟨h1, _⟩ | ⟨g, cap, cur, h1, _, hb, _⟩
        · rw [h1] at e2; cases e2
        · rw [h1] at e2; have e3 : wr.heap.size = g := by injection e2
          subst e3; exact OF.ne_blk o2'.of hb (by decide) rfl)) Fr.out hk1; have B5 := B3.grown hg4 B3.size (own_grown_le D2.row (Nat.le_refl _)))
      go_roundw
      case rel => exact ⟨k + 1, _, by omega, by go_num, D4, Hsp.out, B5⟩
      case measure => simp [intOf]; omega
    · obtain rfl : k = n := by omega
      have hfin : ms.take k = ms := List.take_of_length_le (by rw [hl.out]; omega)
      go_wp2_with fail
      go_ret
      exact ⟨_, es, rfl, D, by have := Hs.out; rw [hfin] at this; exact this, bw⟩
end Go.Proofs.YtcfkemchekmjbaaGreatDoor

namespace Go.Proofs.YtcfkemchekmjbaaGreatDoor
/-- The steps of a draft; the operations that a transaction has. -/
def stepsOf (ds : Ds) (n : Nat) : List T3 := (ds.getD n (0, [])).2
def opsOf (ts : List Tx) (n : Nat) : List T3 := (ts.getD n (0, [], false)).2.1
def sesOf (ts : List Tx) (n : Nat) : Int := (ts.getD n (0, [], false)).1
def valOf (n at_ : Nat) : Int := 10 * ((n : Int) + 1) + at_ + 1
abbrev RunSt := List Tx × List Int
theorem foldl_snoc {α β : Type} (f : β → α → β) (b : β) {xs : List α} {k : Nat} {x : α} (h : xs[k]? = some x) : (xs.take (k + 1)).foldl f b = f ((xs.take k).foldl f b) x := by
  rw [List.take_add_one, h, List.foldl_append]; rfl
/-- A state that goes with the plan: each transaction has at most the steps of its draft, and is done if it has all. -/
def Fits (ds : Ds) (ts : List Tx) : Prop := ts.length = ds.length ∧ ∀ (n : Nat) (d : Int × List T3) (t : Tx), ds[n]? = some d → ts[n]? = some t → t.1 = d.1 ∧ t.2.1.length ≤ d.2.length ∧ t.2.2 = decide (t.2.1.length = d.2.length)
def Vals (st : List Int) : Prop := st.length = 3 ∧ ∀ v ∈ st, 0 ≤ v ∧ v ≤ 99
theorem runB_parts {ds : Ds} {xs : List Int} (h : runB ds xs = true) : ds.length ≤ 4 ∧ (∀ d ∈ ds, draftB d = true) ∧ xs.length ≤ 40 ∧ ∀ x ∈ xs, 0 ≤ x ∧ x < ds.length := by
  unfold runB planB schedB at h
  simp only [Bool.and_eq_true, decide_eq_true_eq, List.all_eq_true] at h
  obtain ⟨⟨h1, h2⟩, h3, h4, h5⟩ := h
  exact ⟨h1, h2, h4, fun x hx => by have := (inB_iff _ _ _).1 (h5 x hx); omega⟩
theorem draftB_parts {d : Int × List T3} (h : draftB d = true) : 1 ≤ d.2.length ∧ d.2.length ≤ 4 ∧ (0 ≤ d.1 ∧ d.1 ≤ 3) ∧ ∀ s ∈ d.2, (s.1 = 1 ∨ s.1 = 2) ∧ (0 ≤ s.2.1 ∧ s.2.1 ≤ 2) ∧ s.2.2 = 0 := by
  unfold draftB at h
  simp only [Bool.and_eq_true, List.all_eq_true] at h
  obtain ⟨h1, h2, h3⟩ := h
  have h1 := (inB_iff _ _ _).1 h1
  have h2 := (inB_iff _ _ _).1 h2
  refine ⟨by omega, by omega, h1, fun s hs => ?_⟩
  have := h3 s hs
  unfold stepB at this
  simp only [Bool.and_eq_true, beq_iff_eq] at this
  obtain ⟨a, b, c⟩ := this
  have a := (inB_iff _ _ _).1 a
  have b := (inB_iff _ _ _).1 b
  exact ⟨by omega, b, c⟩
theorem Fits.empty {ds : Ds} (h : ∀ d ∈ ds, draftB d = true) : Fits ds (emptyT ds) := by
  refine ⟨by simp [emptyT], fun n d t hd ht => ?_⟩
  have hl := (draftB_parts (h d (List.mem_of_getElem? hd))).1
  unfold emptyT at ht
  rw [List.getElem?_map, hd] at ht
  injection ht with ht; subst ht
  refine ⟨rfl, by simp, ?_⟩
  simp; omega
theorem Vals.zero : Vals [0, 0, 0] := ⟨rfl, fun v h => by simp at h; omega⟩
theorem Fits.at_ {ds : Ds} {ts : List Tx} (h : Fits ds ts) {n : Nat} (hn : n < ds.length) : ∃ d t, ds[n]? = some d ∧ ts[n]? = some t ∧ stepsOf ds n = d.2 ∧ opsOf ts n = t.2.1 ∧ sesOf ts n = t.1 ∧ t.2.1.length ≤ d.2.length ∧ t.2.2 = decide (t.2.1.length = d.2.length) := by
  have h1 : ds[n]? = some (ds[n]'hn) := List.getElem?_eq_getElem hn
  have hn2 : n < ts.length := by rw [h.1]; exact hn
  have h2 : ts[n]? = some (ts[n]'hn2) := List.getElem?_eq_getElem hn2
  obtain ⟨a, b, c⟩ := h.2 n _ _ h1 h2
  exact ⟨_, _, h1, h2, by simp [stepsOf, List.getD, h1], by simp [opsOf, List.getD, h2], by simp [sesOf, List.getD, h2], b, c⟩
/-- One more operation. -/
theorem Fits.step {ds : Ds} {ts : List Tx} (h : Fits ds ts) {n : Nat} {d : Int × List T3} {t : Tx} (hd : ds[n]? = some d) (ht : ts[n]? = some t) (hl : t.2.1.length < d.2.length) (o : T3) : Fits ds (ts.set n (t.1, t.2.1 ++ [o], decide (t.2.1.length + 1 = d.2.length))) := by
  refine ⟨by simp [h.1], fun i d' t' hd' ht' => ?_⟩
  by_cases e : n = i
  · subst e
    rw [List.getElem?_set_self (List.getElem?_eq_some_iff.1 ht).1] at ht'
    injection ht' with ht'; subst ht'
    have := hd.symm.trans hd'
    injection this with this; subst this
    refine ⟨(h.2 n d t hd ht).1, by simp; omega, by simp⟩
  · rw [List.getElem?_set_ne e] at ht'
    exact h.2 i d' t' hd' ht'
theorem valOf_bd {n at_ : Nat} (hn : n < 4) (ha : at_ < 4) : 0 ≤ valOf n at_ ∧ valOf n at_ ≤ 99 := by unfold valOf; omega
theorem Vals.set_ {st : List Int} (h : Vals st) (i : Nat) {v : Int} (hv : 0 ≤ v ∧ v ≤ 99) : Vals (st.set i v) :=
  ⟨by simp [h.1], fun x hx => by
    rcases List.mem_or_eq_of_mem_set hx with hx | rfl
    · exact h.2 x hx
    · exact hv⟩
end Go.Proofs.YtcfkemchekmjbaaGreatDoor
