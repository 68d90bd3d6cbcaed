/- Merged (what the law reaches): DrawPt. -/
import Derived.Test.YtcfkemchekmjbaaGreatDoorQf
import Derived.Deep.DeepCutAuto
namespace Go.Proofs.YtcfkemchekmjbaaGreatDoor
open Go.RowKit
theorem step_appD {w : World} {o : Oper} {a : Act} {K : Act → World → Prop} {Q : Exit → Act → World → Prop} {ops : Array Oper} {E : Prop} (hgd : o.guard = none) (s x : Operand)
    (ho : o.op = .call { callee := .builtin .append, args := #[s, x], argTypes := #[23, 23] })
    {B : Nat} {v : Value} {n : Nat} {cs : List Value} (hs : a.eval s = v) (hown : w.ownsRow B 77 2 v n cs)
    {g c : Nat} {f : Int} {u : Value} (hx : a.eval x = .slice (some ⟨g, 0, none⟩) 1 c) (KB : Blk w g 77 #[.int .i64 f, u]) (hu : u.oneCell' = true) (hnm : n + 1 ≤ 1048576) (hbase : B ≤ w.heap.size)
    (h : ∀ v' w', w'.ownsRow B 77 2 v' (n + 1) (cs ++ [.int .i64 f, u]) → w.grownBy w' v.ownBlock → (v'.ownBlock = v.ownBlock ∨ v'.ownBlock = some w.heap.size) → K (a.put o.dst v') w') :
    if Region.wanted o (yielded ops a.tmps) = true then Oper.wp Tryz.prog o a w K Q else E := by
  have hw : Region.wanted o (yielded ops a.tmps) = true := by simp [Region.wanted, hgd]
  rw [if_pos hw]
  obtain ⟨i, hi, hz, hsz, hby⟩ := info_parts infoDr
  obtain ⟨v', w', hrun, h2, h3, h4⟩ := app_rd (P := Tryz.prog) B 23 o.type 77 i (.agg #[.int .i64 0, .slice none 0 0]) 2 32 Tryz.underlying23 hi hz hsz hby rfl (by omega) v n _ hown _ 1 c _ (Rd.two KB) (fun q hq => by
    simp at hq
    rcases hq with rfl | rfl
    · rfl
    · exact hu) (by simp only [maxLen]; omega) (by omega) hbase
  unfold Oper.wp execOp
  simp only [ho, resolve, invoke, builtin, Sem.run_bind, Sem.run_pure, Result.andThen_ok, List.map_toArray, List.map_cons, List.map_nil, hs, hx, hrun]
  exact h v' w' h2 h3 h4
/-- A slice of steps of the call's own. -/
def SV (w : World) (lo : Nat) (q : Value) : Prop := ∃ (k : Nat) (ts : List T3) (A : Option Addr) (c : Nat), q = .slice A k c ∧ O3 61 w lo q k ts ∧ k ≤ 5
/-- A draft as a value. -/
def DV (w : World) (lo : Nat) (u : Value) : Prop := ∃ (f : Int) (q : Value), u = .agg #[.int .i64 f, q] ∧ SV w lo q
def OPv (u : Value) : Prop := ∃ x y z : Int, u = .agg #[.int .i64 x, .int .i64 y, .int .i64 z]
/-- A cell's two halves of a draft. -/
def CV (w : World) (lo b i : Nat) : Prop := ∃ (f : Int) (q : Value), w.cell? ⟨b, i * 2, none⟩ = some (.int .i64 f) ∧ w.cell? ⟨b, i * 2 + 1, none⟩ = some q ∧ SV w lo q
def TV (w : World) (lo : Nat) (u : Value) : Prop := ∃ b, u = .slice (some ⟨b, 0, none⟩) 6 6 ∧ lo ≤ b ∧ b < w.heap.size ∧ ∀ i, i < 6 → CV w lo b i
def PV (w : World) (lo : Nat) (u : Value) : Prop := ∃ b i, u = .pointer (some ⟨b, i * 2, none⟩) ∧ lo ≤ b ∧ b < w.heap.size ∧ CV w lo b i
def RVd (w : World) (lo : Nat) (u : Value) : Prop := ∃ b f q, u = .slice (some ⟨b, 0, none⟩) 1 1 ∧ lo ≤ b ∧ Blk w b 77 #[.int .i64 f, q] ∧ SV w lo q
def NV (k : Nat) (u : Value) : Prop := ∃ x : Nat, u = .int .i64 x ∧ x < k
section
variable {w w' : World} {g lo : Nat}
theorem O3.kp {n : Nat} {v : Value} {ts : List T3} (h : O3 61 w lo v n ts) (hg : w.grownBy w' (some g)) (hl : g < lo) : O3 61 w' lo v n ts :=
  h.grown hg (.inr fun e => by have := (h.of.lt g e).1; omega)
theorem SV.kp {q : Value} (h : SV w lo q) (hg : w.grownBy w' (some g)) (hl : g < lo) : SV w' lo q := by
  obtain ⟨k, ts, A, c, e, ho, hk⟩ := h; exact ⟨k, ts, A, c, e, ho.kp hg hl, hk⟩
theorem DV.kp {u : Value} (h : DV w lo u) (hg : w.grownBy w' (some g)) (hl : g < lo) : DV w' lo u := by
  obtain ⟨f, q, e, hq⟩ := h; exact ⟨f, q, e, hq.kp hg hl⟩
theorem cell_kp {b i : Nat} (hb : lo ≤ b) (hs : b < w.heap.size) (hg : w.grownBy w' (some g)) (hl : g < lo) : w'.cell? ⟨b, i, none⟩ = w.cell? ⟨b, i, none⟩ :=
  World.cell?_of_block (hg.block b hs (fun e => by injection e with e; omega))
theorem CV.kp {b i : Nat} (h : CV w lo b i) (hb : lo ≤ b) (hs : b < w.heap.size) (hg : w.grownBy w' (some g)) (hl : g < lo) : CV w' lo b i := by
  obtain ⟨f, q, h1, h2, hq⟩ := h; exact ⟨f, q, (cell_kp hb hs hg hl).trans h1, (cell_kp hb hs hg hl).trans h2, hq.kp hg hl⟩
theorem TV.kp {u : Value} (h : TV w lo u) (hg : w.grownBy w' (some g)) (hl : g < lo) : TV w' lo u := by
  obtain ⟨b, e, hb, hs, hc⟩ := h; exact ⟨b, e, hb, Nat.lt_of_lt_of_le hs hg.size, fun i hi => (hc i hi).kp hb hs hg hl⟩
theorem PV.kp {u : Value} (h : PV w lo u) (hg : w.grownBy w' (some g)) (hl : g < lo) : PV w' lo u := by
  obtain ⟨b, i, e, hb, hs, hc⟩ := h; exact ⟨b, i, e, hb, Nat.lt_of_lt_of_le hs hg.size, hc.kp hb hs hg hl⟩
theorem RVd.kp {u : Value} (h : RVd w lo u) (hg : w.grownBy w' (some g)) (hl : g < lo) : RVd w' lo u := by
  obtain ⟨b, f, q, e, hb, hK, hq⟩ := h; exact ⟨b, f, q, e, hb, hK.grown hg (fun e => by injection e with e; omega), hq.kp hg hl⟩
theorem SV.one {W : World} {x y z : Int} (hl : lo ≤ w.heap.size) (hW : w.alloc (.cells #[.int .i64 x, .int .i64 y, .int .i64 z] 61) = W) : SV W lo (.slice (some ⟨w.heap.size, 0, none⟩) 1 1) := by
  subst hW
  exact ⟨1, [(x, y, z)], _, _, rfl, O3.of_blk (Blk.new w _ _) hl rfl rfl (by omega), by omega⟩
theorem SV.nil : SV w lo (.slice none 0 0) := ⟨0, [], none, 0, rfl, ⟨World.ownsRow_nil _ _ _ _, by omega⟩, by omega⟩
end
/-- What holds as long as an operation is not listed. -/
def Nst (l : Array Bool) (k : Nat) (p : Prop) : Prop := l.getD k false = false → p
theorem Nst.on {l : Array Bool} {k : Nat} {p : Prop} (h : Nst l k p) (hk : l[k]? = some false) : p := h (by rw [Array.getD_eq_getD_getElem?, hk]; rfl)
theorem Nst.mono {l : Array Bool} {k : Nat} {p q : Prop} (h : Nst l k p) (f : p → q) : Nst l k q := fun hk => f (h hk)
theorem Nst.set_ne {l : Array Bool} {k i : Nat} {p : Prop} (h : Nst l k p) (hk : i ≠ k) : Nst (l.setIfInBounds i true) k p := fun hl => h (by rwa [getD_set_ne' hk] at hl)
theorem Nst.gone {l : Array Bool} {k : Nat} {p : Prop} (h : l[k]? = some false) : Nst (l.setIfInBounds k true) k p := fun hl => by rw [getD_set_self h] at hl; cases hl
theorem Nst.all {l : Array Bool} {k : Nat} {p : Prop} (h : p) : Nst l k p := fun _ => h
/-- Drafts of the call's own: what has been drawn so far. -/
def OutV (w : World) (lo : Nat) (v : Value) (n : Nat) : Prop := ∃ es ds, OD w lo v n es ∧ SaysD es ds ∧ ∀ d ∈ ds, d.2.length ≤ 5
theorem OutV.kp {w w' : World} {g lo n : Nat} {v : Value} (h : OutV w lo v n) (hg : w.grownBy w' (some g)) (hl : g < lo) : OutV w' lo v n := by
  obtain ⟨es, ds, hD, hs, hd⟩ := h
  have hc := Chg.of_grown (S := fun k => k = g) hg (fun k e => by injection e with e; exact e.symm)
  exact ⟨es, ds, ⟨own_chg hD.row hc (fun k hk e => by have := (World.ownsRow.lt hD.row k hk).1; omega), fun j e hj => (hD.own j e hj).chg hc (fun k hk e' => by have := ((hD.own j e hj).lt k hk).1; omega), hD.len, hD.small⟩, hs, hd⟩
theorem OutV.zero (w : World) : OutV (w.alloc (.cells #[] 77)) w.heap.size (.slice (some ⟨w.heap.size, 0, none⟩) 0 0) 0 :=
  ⟨[], [], ⟨⟨rfl, .inr ⟨w.heap.size, 0, _, rfl, Nat.le_refl _, Blk.new w _ _, Nat.le_refl _, by simp [maxLen], rfl, rfl⟩⟩, fun j e h => by simp at h, rfl, by omega⟩, rfl, fun d h => by simp at h⟩
/-- One more draft. -/
theorem OutV.push {w w' : World} {lo n : Nat} {v v' : Value} {f : Int} {q : Value} (h : OutV w lo v n) (hq : SV w lo q)
    (hn : n + 1 ≤ 1048576) (hg : w.grownBy w' v.ownBlock)
    (hr : ∀ es : List (Int × In), w.ownsRow lo 77 2 v n (cellsD es) → w'.ownsRow lo 77 2 v' (n + 1) (cellsD es ++ [.int .i64 f, q])) : OutV w' lo v' (n + 1) := by
  obtain ⟨es, ds, hD, hs, hd⟩ := h
  obtain ⟨k, ts, A, c, e, ho, hk⟩ := hq
  have hoW : OF 61 3 w' lo q k (flat3 ts) := ho.of.grown hg (by
    cases hv : v.ownBlock with
    | none => cases hq' : q.ownBlock <;> simp
    | some b =>
      right
      obtain ⟨cs, hb⟩ : ∃ cs, Blk w b 77 cs := by
        rcases hD.row.2 with ⟨h1, _⟩ | ⟨g', cap, cur, h1, _, hb, _⟩
        · rw [h1] at hv; simp [Value.ownBlock] at hv
        · rw [h1] at hv
          have e1 : g' = b := by have h : some g' = some b := hv; injection h
          subst e1; exact ⟨cur, hb⟩
      exact ho.of.ne_blk hb (by decide))
  refine ⟨es ++ [(f, q, k, flat3 ts)], ds ++ [(f, ts)], hD.push (e := (f, q, k, flat3 ts)) (hr es hD.row) hg hoW hn, ?_, fun d hd' => ?_⟩
  · unfold SaysD at hs ⊢
    rw [List.map_append, List.map_append, hs]; rfl
  · rcases List.mem_append.1 hd' with h1 | h1
    · exact hd d h1
    · obtain rfl := List.mem_singleton.1 h1
      have := ho.len
      show ts.length ≤ 5
      omega
theorem Nst.off {l : Array Bool} {k i : Nat} {p : Prop} (h : l.getD k false = true) (hk : i ≠ k) : Nst (l.setIfInBounds i true) k p := fun hl => by rw [getD_set_ne' hk, h] at hl; cases hl
theorem OutV.push' {w w' : World} {lo n : Nat} {v v' : Value} {f : Int} {q : Value} {es : List (Int × In)} {ds : Ds} (hD : OD w lo v n es) (hs : SaysD es ds) (hd : ∀ d ∈ ds, d.2.length ≤ 5) (hq : SV w lo q)
    (hn : n + 1 ≤ 1048576) (hg : w.grownBy w' v.ownBlock) (hr : w'.ownsRow lo 77 2 v' (n + 1) (cellsD es ++ [.int .i64 f, q])) : OutV w' lo v' (n + 1) := by
  obtain ⟨k, ts, A, c, e, ho, hk⟩ := hq
  have hoW : OF 61 3 w' lo q k (flat3 ts) := ho.of.grown hg (by
    cases hv : v.ownBlock with
    | none => cases hq' : q.ownBlock <;> simp
    | some b =>
      right
      obtain ⟨cs, hb⟩ : ∃ cs, Blk w b 77 cs := by
        rcases hD.row.2 with ⟨h1, _⟩ | ⟨g', cap, cur, h1, _, hb, _⟩
        · rw [h1] at hv; simp [Value.ownBlock] at hv
        · rw [h1] at hv
          have e1 : g' = b := by have h : some g' = some b := hv; injection h
          subst e1; exact ⟨cur, hb⟩
      exact ho.of.ne_blk hb (by decide))
  refine ⟨es ++ [(f, q, k, flat3 ts)], ds ++ [(f, ts)], hD.push (e := (f, q, k, flat3 ts)) hr hg hoW hn, ?_, fun d hd' => ?_⟩
  · unfold SaysD at hs ⊢
    rw [List.map_append, List.map_append, hs]; rfl
  · rcases List.mem_append.1 hd' with h1 | h1
    · exact hd d h1
    · obtain rfl := List.mem_singleton.1 h1
      have := ho.len
      show ts.length ≤ 5
      omega
theorem grown_row {a b c : World} {g : Nat} {row : Option Nat} (h : a.grownBy b (some g)) (k : b.grownBy c row) (hr : ∀ k, row = some k → a.heap.size ≤ k) : a.grownBy c (some g) :=
  ⟨k.os.trans h.os, k.tape.trans h.tape, k.output.trans h.output, Nat.le_trans h.size k.size, fun i hi hn => (k.block i (Nat.lt_of_lt_of_le hi h.size) (fun e => by have := hr i e.symm; omega)).trans (h.block i hi hn)⟩
def IV (u : Value) : Prop := ∃ x : Int, u = .int .i64 x
def TI (w : World) (lo : Nat) (u : Value) : Prop := ∃ b, u = .slice (some ⟨b, 0, none⟩) 5 5 ∧ lo ≤ b ∧ b < w.heap.size ∧ ∀ i, i < 5 → ∃ y : Int, w.cell? ⟨b, i, none⟩ = some (.int .i64 y)
def PI (w : World) (lo : Nat) (u : Value) : Prop := ∃ b i, u = .pointer (some ⟨b, i, none⟩) ∧ lo ≤ b ∧ b < w.heap.size ∧ ∃ y : Int, w.cell? ⟨b, i, none⟩ = some (.int .i64 y)
def RO (w : World) (lo : Nat) (u : Value) : Prop := ∃ b x y z, u = .slice (some ⟨b, 0, none⟩) 1 1 ∧ lo ≤ b ∧ Blk w b 61 #[.int .i64 x, .int .i64 y, .int .i64 z]
section
variable {w w' : World} {g lo : Nat}
theorem TI.kp {u : Value} (h : TI w lo u) (hg : w.grownBy w' (some g)) (hl : g < lo) : TI w' lo u := by
  obtain ⟨b, e, hb, hs, hc⟩ := h; exact ⟨b, e, hb, Nat.lt_of_lt_of_le hs hg.size, fun i hi => by obtain ⟨y, hy⟩ := hc i hi; exact ⟨y, (cell_kp hb hs hg hl).trans hy⟩⟩
theorem PI.kp {u : Value} (h : PI w lo u) (hg : w.grownBy w' (some g)) (hl : g < lo) : PI w' lo u := by
  obtain ⟨b, i, e, hb, hs, y, hy⟩ := h; exact ⟨b, i, e, hb, Nat.lt_of_lt_of_le hs hg.size, y, (cell_kp hb hs hg hl).trans hy⟩
theorem RO.kp {u : Value} (h : RO w lo u) (hg : w.grownBy w' (some g)) (hl : g < lo) : RO w' lo u := by
  obtain ⟨b, x, y, z, e, hb, hK⟩ := h; exact ⟨b, x, y, z, e, hb, hK.grown hg (fun e => by injection e with e; omega)⟩
theorem TI.new (hl : lo ≤ w.heap.size) (a b c d e : Int) : TI (w.alloc (.cells #[.int .i64 a, .int .i64 b, .int .i64 c, .int .i64 d, .int .i64 e] 3)) lo (.slice (some ⟨w.heap.size, 0, none⟩) 5 5) := by
  have K := Blk.new w 3 #[.int .i64 a, .int .i64 b, .int .i64 c, .int .i64 d, .int .i64 e]
  refine ⟨_, rfl, hl, by simp, fun i hi => ?_⟩
  match i, hi with
  | 0, _ => exact ⟨a, K.cell 0⟩
  | 1, _ => exact ⟨b, K.cell 1⟩
  | 2, _ => exact ⟨c, K.cell 2⟩
  | 3, _ => exact ⟨d, K.cell 3⟩
  | 4, _ => exact ⟨e, K.cell 4⟩
end
/-- What was drawn, all of it below a block. -/
def OutB (w : World) (lo hi : Nat) (v : Value) (n : Nat) : Prop := ∃ es ds, OD w lo v n es ∧ SaysD es ds ∧ (∀ d ∈ ds, d.2.length ≤ 5) ∧ (∀ b, v.ownBlock = some b → b < hi) ∧ ∀ (j : Nat) (e : Int × In) (b : Nat), es[j]? = some e → e.2.1.ownBlock = some b → b < hi
theorem OutB.of {w : World} {lo n : Nat} {v : Value} (h : OutV w lo v n) : OutB w lo w.heap.size v n := by
  obtain ⟨es, ds, hD, hs, hd⟩ := h
  exact ⟨es, ds, hD, hs, hd, fun b hb => (World.ownsRow.lt hD.row b hb).2, fun j e b hj hb => ((hD.own j e hj).lt b hb).2⟩
theorem OutB.out {w : World} {lo hi n : Nat} {v : Value} (h : OutB w lo hi v n) : OutV w lo v n := by
  obtain ⟨es, ds, hD, hs, hd, _⟩ := h; exact ⟨es, ds, hD, hs, hd⟩
theorem OutB.kp {w w' : World} {g lo hi n : Nat} {v : Value} (h : OutB w lo hi v n) (hg : w.grownBy w' (some g)) (hl : g < lo) : OutB w' lo hi v n := by
  obtain ⟨es, ds, hD, hs, hd, h1, h2⟩ := h
  have hc := Chg.of_grown (S := fun k => k = g) hg (fun k e => by injection e with e; exact e.symm)
  exact ⟨es, ds, ⟨own_chg hD.row hc (fun k hk e => by have := (World.ownsRow.lt hD.row k hk).1; omega), fun j e hj => (hD.own j e hj).chg hc (fun k hk e' => by have := ((hD.own j e hj).lt k hk).1; omega), hD.len, hD.small⟩, hs, hd, h1, h2⟩
/-- A draft under way: an append to its steps, and the store of it, leave what was drawn. -/
theorem OutB.far {w w9 : World} {lo n db k : Nat} {v u : Value} {ts : List T3} (h : OutB w lo db v n) (hT : O3 61 w (db + 1) u k ts) (hg : w.grownBy w9 u.ownBlock) (x : Value) : OutB (w9.setCell ⟨db, 1, none⟩ x) lo db v n := by
  obtain ⟨es, ds, hD, hs, hd, h1, h2⟩ := h
  have hc := (Chg.of_grown (S := fun k => u.ownBlock = some k ∨ k = db) hg (fun k e => .inl e)).trans (Chg.setCell (p := ⟨db, 1, none⟩) (.inr rfl) x)
  have hu : ∀ b, (u.ownBlock = some b ∨ b = db) → db ≤ b := fun b e => by
    rcases e with e | e
    · have := (hT.of.lt b e).1; omega
    · omega
  exact ⟨es, ds, ⟨own_chg hD.row hc (fun b hb e => by have := h1 b hb; have := hu b e; omega), fun j e hj => (hD.own j e hj).chg hc (fun b hb e' => by have := h2 j e b hj hb; have := hu b e'; omega), hD.len, hD.small⟩, hs, hd, h1, h2⟩
theorem grown_setL {a w : World} {g : Nat} (h : a.grownBy w (some g)) {p : Addr} (hp : a.heap.size ≤ p.block) (u : Value) : a.grownBy (w.setCell p u) (some g) := grown_setCell h (.inr hp) u
end Go.Proofs.YtcfkemchekmjbaaGreatDoor
namespace Go.Proofs.YtcfkemchekmjbaaGreatDoor
open Go.RowKit
theorem run_make_Op5 (w : World) :
    (Instr.makeSlice 64 (.int .i64 5) (.int .i64 5)).run Tryz.prog w = .ok (.slice (some ⟨w.heap.size, 0, none⟩) 5 5) (w.alloc (.cells ((List.replicate (5 * 3) (Value.int .i64 0)).toArray) 61)) := by
  obtain ⟨i, hi, hz, hs, hb⟩ := info_parts infoOpz
  have := run_make_rowN 64 61 i (.agg #[.int .i64 0, .int .i64 0, .int .i64 0]) Tryz.underlying64 hi hz .i64 .i64 5 5 (Nat.le_refl _) (by rw [hb]; omega) (by omega) w
  have e1 : madeCells (Value.agg #[.int .i64 0, .int .i64 0, .int .i64 0]).cells (5 * i.size) = (List.replicate (5 * 3) (Value.int .i64 0)).toArray := by
    rw [hs, ← Array.toArray_toList (xs := madeCells _ _)]
    rw [show (Value.agg #[.int .i64 0, .int .i64 0, .int .i64 0]).cells = #[Value.int .i64 0, Value.int .i64 0, Value.int .i64 0] from rfl, toList_madeCells3']
  rw [e1] at this
  exact this
theorem SV.five {w : World} {lo : Nat} (hl : lo ≤ w.heap.size) : SV (w.alloc (.cells ((List.replicate (5 * 3) (Value.int .i64 0)).toArray) 61)) lo (.slice (some ⟨w.heap.size, 0, none⟩) 5 5) :=
  ⟨5, List.replicate 5 (0, 0, 0), _, _, rfl, O3.of_blk (Blk.new w _ _) hl rfl rfl (by omega), by omega⟩
theorem TV.new {w : World} {g lo : Nat} {f0 f1 f2 f3 f4 f5 : Int} {q0 q1 q2 q3 q4 q5 : Value} (hl : lo ≤ w.heap.size)
    (kg : w.grownBy (w.alloc (.cells #[.int .i64 f0, q0, .int .i64 f1, q1, .int .i64 f2, q2, .int .i64 f3, q3, .int .i64 f4, q4, .int .i64 f5, q5] 77)) (some g)) (hgl : g < lo)
    (s0 : SV w lo q0) (s1 : SV w lo q1) (s2 : SV w lo q2) (s3 : SV w lo q3) (s4 : SV w lo q4) (s5 : SV w lo q5) :
    TV (w.alloc (.cells #[.int .i64 f0, q0, .int .i64 f1, q1, .int .i64 f2, q2, .int .i64 f3, q3, .int .i64 f4, q4, .int .i64 f5, q5] 77)) lo (.slice (some ⟨w.heap.size, 0, none⟩) 6 6) := by
  have K := Blk.new w 77 #[.int .i64 f0, q0, .int .i64 f1, q1, .int .i64 f2, q2, .int .i64 f3, q3, .int .i64 f4, q4, .int .i64 f5, q5]
  refine ⟨_, rfl, hl, by simp, fun i hi => ?_⟩
  match i, hi with
  | 0, _ => exact ⟨f0, q0, K.cell 0, K.cell 1, s0.kp kg hgl⟩
  | 1, _ => exact ⟨f1, q1, K.cell 2, K.cell 3, s1.kp kg hgl⟩
  | 2, _ => exact ⟨f2, q2, K.cell 4, K.cell 5, s2.kp kg hgl⟩
  | 3, _ => exact ⟨f3, q3, K.cell 6, K.cell 7, s3.kp kg hgl⟩
  | 4, _ => exact ⟨f4, q4, K.cell 8, K.cell 9, s4.kp kg hgl⟩
  | 5, _ => exact ⟨f5, q5, K.cell 10, K.cell 11, s5.kp kg hgl⟩
def PlanR (w : World) (g P : Nat) (e : Ending) (w' : World) : Prop := ∃ v n, e = .returned v ∧ OutV w' w.heap.size v n ∧ n ≤ 5 ∧ RD w' g P ∧ w.grownBy w' (some g)
set_option maxRecDepth 100000 in
set_option maxHeartbeats 16000000 in
theorem l20Plan_c {w : World} {g P : Nat} {q : Int} (hr : RD w g P) (hP : P ≤ 10000) (hq1 : 0 ≤ q) (hq2 : q ≤ 100000) :
    Calls Tryz.prog 90 #[.pointer (some ⟨g, 0, none⟩), .int .i64 q] w (PlanR w g (P + 100)) := by
  have hg := hr.lt
  go_enter Tryz.func90, Tryz.ntmps90
  have O0 := OutV.zero w
  have R0' := hr.alloc (.cells #[] 77)
  go_wp2_with fail
  refine (pick_c R0' (by omega) (by omega) (by omega)).mono ?_
  rintro e w1 ⟨x, rfl, x0, x1, r1, g1⟩
  obtain ⟨j0, rfl⟩ : ∃ j : Nat, x = j := ⟨x.toNat, by omega⟩
  have G1 := grown_trans' (grown_of_below (beB0 w (.cells #[] 77)) (some g)) g1
  have O1 := hide (O0.kp g1 hg)
  have hz1 : w.heap.size < w1.heap.size := by have := g1.size; simp at this; omega
  clear O0 R0' g1
  go_wp2_with fail
  go_loopw [5, 6] (fun v i wr => ∃ (j n : Nat), i = .int .i64 j ∧ n + j ≤ 4 ∧ OutV wr w.heap.size v n ∧ RD wr g (P + 80 - 12 * j) ∧ w.grownBy wr (some g) ∧ w.heap.size < wr.heap.size) (fun _ i _ => (intOf i).toNat)
  case atStart => exact ⟨j0, 0, rfl, by omega, O1.out, r1.mono (by omega), G1, hz1⟩
  case round =>
    clear O1 r1 G1 hz1
    obtain ⟨j, n, rfl, hj, hO, hR, hG, hz⟩ := hrel
    have HO := hide hO; have HG := hide hG
    obtain ⟨Av, cv, hV⟩ : ∃ A c, u5 = .slice A n c := by
      obtain ⟨es, ds, hD, _⟩ := hO
      rcases hD.row.2 with ⟨h1, h2⟩ | ⟨g', cap, cur, h1, _⟩
      · exact ⟨none, 0, by rw [h1, h2]⟩
      · exact ⟨_, cap, h1⟩
    clear hO hG
    by_cases hlt : 0 < j
    · have hlt' : (0 : Int) < j := by omega
      subst hV
      have hgl : g < w.heap.size := hg
      go_wp2_with fail
      refine (pick_c hR (by omega) (by omega) (by omega)).mono ?_
      rintro e w2 ⟨f, rfl, f0, f1, r2, g2⟩
      have G2 := grown_trans' HG.out g2
      have O2 := HO.out.kp g2 hgl
      have hz2 : w.heap.size < w2.heap.size := by have := g2.size; omega
      have KD := Blk.new w2 77 #[.int .i64 f, .slice none 0 0]
      have r2a := r2.alloc (.cells #[.int .i64 f, .slice none 0 0] 77)
      have G2a := grown_alloc G2 (.cells #[.int .i64 f, .slice none 0 0] 77)
      have O2a := (OutB.of O2).kp (grown_of_below (beB0 w2 (.cells #[.int .i64 f, .slice none 0 0] 77)) (some g)) hgl
      clear HO HG hR g2 G2 O2 r2
      go_wp2_with fail
      refine (pick_c r2a (by omega) (by omega) (by omega)).mono ?_
      rintro e w3 ⟨y, rfl, y0, y1, r3, g3⟩
      obtain ⟨j1, rfl⟩ : ∃ q : Nat, y = q := ⟨y.toNat, by omega⟩
      have G3 := hide (grown_trans' G2a g3)
      have O3' := hide (O2a.kp g3 hgl)
      have K3 := hide (KD.grown g3 (fun e => by injection e with e; omega))
      have hz3 : w2.heap.size < w3.heap.size := K3.out.lt
      clear KD r2a G2a O2a g3
      obtain ⟨db, hdb⟩ : ∃ q, w2.heap.size = q := ⟨_, rfl⟩
      rw [hdb] at K3 hz3 O3' ⊢
      have hdw : w.heap.size < db := by omega
      clear hdb hz2
      go_wp2_with fail
      go_loopw [8] (fun i wr2 => ∃ (j2 k : Nat) (ts : List T3) (A : Option Addr) (c : Nat), i = .int .i64 j2 ∧ k + j2 ≤ 4 ∧ Blk wr2 db 77 #[.int .i64 f, .slice A k c] ∧ O3 61 wr2 (db + 1) (.slice A k c) k ts ∧ OutB wr2 w.heap.size db (.slice Av n cv) n ∧ RD wr2 g (P + 80 - 12 * j + 10 - 2 * j2) ∧ w.grownBy wr2 (some g) ∧ db < wr2.heap.size) (fun i _ => (intOf i).toNat)
      case atStart => exact ⟨1 + j1, 0, [], none, 0, by go_num, by omega, K3.out, ⟨World.ownsRow_nil _ _ _ _, by omega⟩, O3'.out, r3.mono (by omega), G3.out, hz3⟩
      case round =>
        clear O3' r3 G3 hz3 K3
        obtain ⟨j2, k, ts, A, c, rfl, hkj, hKb, hTs, hO, R0, hG, hzr⟩ := hrel
        have HO := hide hO; have HG := hide hG; have HK := hide hKb; have HT := hide hTs
        clear hO hG hKb hTs
        by_cases hlt2 : 0 < j2
        · have hlt2' : (0 : Int) < j2 := by omega
          have hgl2 : g < db + 1 := by omega
          obtain ⟨P2, hP2⟩ : ∃ p, P + 80 - 12 * j + 10 - 2 * j2 = p := ⟨_, rfl⟩
          rw [hP2] at R0
          go_upto_region 9 with fail
          rename World => W0
          refine wp_region_invT 12 (fun a0 l a' w' => l.size = 15 ∧ ∃ u26 u27 u28 u29 u30 u31 u32 u33 u34 u35 u36 u37 : Value, a' = ⟨(over a0.tmps.toList [none, none, none, none, none, none, none, none, none, none, none, none, none, none, none, none, none, none, none, none, none, none, none, none, none, none, some u26, some u27, some u28, some u29, some u30, some u31, some u32, some u33, some u34, some u35, some u36, some u37]).toArray, a0.defers⟩ ∧ OutB w' w.heap.size db (.slice Av n cv) n ∧ Blk w' db 77 #[.int .i64 f, .slice A k c] ∧ O3 61 w' (db + 1) (.slice A k c) k ts ∧ W0.grownBy w' (some g) ∧ db + 1 ≤ w'.heap.size ∧ RD w' g (P2 + 2) ∧ Nst l 3 (RD w' g P2) ∧ Nst l 7 (RD w' g (P2 + 1)) ∧ Lst l 0 (u26 = .pointer (some ⟨db, 1, none⟩)) ∧ Lst l 1 (u27 = .slice A k c) ∧ Lst l 2 (u28 = .pointer (some ⟨g, 0, none⟩)) ∧ Lst l 3 (NV 2 u29) ∧ Lst l 4 (IV u30) ∧ Lst l 5 (TI w' (db + 1) u31) ∧ Lst l 6 (u32 = .pointer (some ⟨g, 0, none⟩)) ∧ Lst l 7 (NV 5 u33) ∧ Lst l 8 (PI w' (db + 1) u34) ∧ Lst l 9 (IV u35) ∧ Lst l 10 (OPv u36) ∧ Lst l 11 (RO w' (db + 1) u37)) (by kernel_rfl) (by decide) (by kernel_rfl) (by kernel_rfl) (fun l a' w' h => h.1) ⟨by rfl, _, _, _, _, _, _, _, _, _, _, _, _, rfl, ?G0, ?G1, ?G2, ?G3, ?G4, ?G5, ?N0, ?N1, Lst.none, Lst.none, Lst.none, Lst.none, Lst.none, Lst.none, Lst.none, Lst.none, Lst.none, Lst.none, Lst.none, Lst.none⟩ ?steps ?fin
          case G0 => exact HO.out.kp (grown_of_below (Below.refl _ _).drew _) hgl
          case G1 => exact HK.out
          case G2 => exact HT.out.kp (grown_of_below (Below.refl _ _).drew _) hgl2
          case G3 => exact grown_of_below (Below.refl _ _).drew _
          case G4 => exact by show db + 1 ≤ W0.heap.size; omega
          case G5 => exact (R0.below (Below.refl _ _).drew).mono (by omega)
          case N0 => exact Nst.all (R0.below (Below.refl _ _).drew)
          case N1 => exact Nst.all ((R0.below (Below.refl _ _).drew).mono (by omega))
          case steps =>
            refine StepsOK.cons (fun l a' w' K' hK hl hd hI => ?_) ?_
            · obtain ⟨hsz, hI⟩ := hI
              obtain ⟨u26, hI⟩ := hI
              obtain ⟨u27, hI⟩ := hI
              obtain ⟨u28, hI⟩ := hI
              obtain ⟨u29, hI⟩ := hI
              obtain ⟨u30, hI⟩ := hI
              obtain ⟨u31, hI⟩ := hI
              obtain ⟨u32, hI⟩ := hI
              obtain ⟨u33, hI⟩ := hI
              obtain ⟨u34, hI⟩ := hI
              obtain ⟨u35, hI⟩ := hI
              obtain ⟨u36, hI⟩ := hI
              obtain ⟨u37, hI⟩ := hI
              obtain ⟨ha, hI⟩ := hI
              obtain ⟨h0, hI⟩ := hI
              obtain ⟨h1, hI⟩ := hI
              obtain ⟨h2, hI⟩ := hI
              obtain ⟨h3, hI⟩ := hI
              obtain ⟨h4, hI⟩ := hI
              obtain ⟨h5, hI⟩ := hI
              obtain ⟨n3, hI⟩ := hI
              obtain ⟨n7, hI⟩ := hI
              obtain ⟨l0, hI⟩ := hI
              obtain ⟨l1, hI⟩ := hI
              obtain ⟨l2, hI⟩ := hI
              obtain ⟨l3, hI⟩ := hI
              obtain ⟨l4, hI⟩ := hI
              obtain ⟨l5, hI⟩ := hI
              obtain ⟨l6, hI⟩ := hI
              obtain ⟨l7, hI⟩ := hI
              obtain ⟨l8, hI⟩ := hI
              obtain ⟨l9, hI⟩ := hI
              obtain ⟨l10, hI⟩ := hI
              have l11 := hI; clear hI
              subst ha
              clear hd
              simp only [over]
              go_simp
              exact hK.out _ _ ⟨by simpa using hsz, _, _, _, _, _, _, _, _, _, _, _, _, rfl, h0, h1, h2, h3, h4, h5, n3.set_ne (by decide), n7.set_ne (by decide), Lst.now rfl, l1.set_ne (by decide), l2.set_ne (by decide), l3.set_ne (by decide), l4.set_ne (by decide), l5.set_ne (by decide), l6.set_ne (by decide), l7.set_ne (by decide), l8.set_ne (by decide), l9.set_ne (by decide), l10.set_ne (by decide), l11.set_ne (by decide)⟩
            refine StepsOK.cons (fun l a' w' K' hK hl hd hI => ?_) ?_
            · obtain ⟨hsz, hI⟩ := hI
              obtain ⟨u26, hI⟩ := hI
              obtain ⟨u27, hI⟩ := hI
              obtain ⟨u28, hI⟩ := hI
              obtain ⟨u29, hI⟩ := hI
              obtain ⟨u30, hI⟩ := hI
              obtain ⟨u31, hI⟩ := hI
              obtain ⟨u32, hI⟩ := hI
              obtain ⟨u33, hI⟩ := hI
              obtain ⟨u34, hI⟩ := hI
              obtain ⟨u35, hI⟩ := hI
              obtain ⟨u36, hI⟩ := hI
              obtain ⟨u37, hI⟩ := hI
              obtain ⟨ha, hI⟩ := hI
              obtain ⟨h0, hI⟩ := hI
              obtain ⟨h1, hI⟩ := hI
              obtain ⟨h2, hI⟩ := hI
              obtain ⟨h3, hI⟩ := hI
              obtain ⟨h4, hI⟩ := hI
              obtain ⟨h5, hI⟩ := hI
              obtain ⟨n3, hI⟩ := hI
              obtain ⟨n7, hI⟩ := hI
              obtain ⟨l0, hI⟩ := hI
              obtain ⟨l1, hI⟩ := hI
              obtain ⟨l2, hI⟩ := hI
              obtain ⟨l3, hI⟩ := hI
              obtain ⟨l4, hI⟩ := hI
              obtain ⟨l5, hI⟩ := hI
              obtain ⟨l6, hI⟩ := hI
              obtain ⟨l7, hI⟩ := hI
              obtain ⟨l8, hI⟩ := hI
              obtain ⟨l9, hI⟩ := hI
              obtain ⟨l10, hI⟩ := hI
              have l11 := hI; clear hI
              subst ha
              have r0 := l0.on (hd 0 (by decide))
              clear hd
              subst r0
              obtain ⟨_, d1, _, _⟩ := h1.two
              simp only [over]
              go_simp
              exact hK.out _ _ ⟨by simpa using hsz, _, _, _, _, _, _, _, _, _, _, _, _, rfl, h0, h1, h2, h3, h4, h5, n3.set_ne (by decide), n7.set_ne (by decide), l0.set_ne (by decide), Lst.now rfl, l2.set_ne (by decide), l3.set_ne (by decide), l4.set_ne (by decide), l5.set_ne (by decide), l6.set_ne (by decide), l7.set_ne (by decide), l8.set_ne (by decide), l9.set_ne (by decide), l10.set_ne (by decide), l11.set_ne (by decide)⟩
            refine StepsOK.cons (fun l a' w' K' hK hl hd hI => ?_) ?_
            · obtain ⟨hsz, hI⟩ := hI
              obtain ⟨u26, hI⟩ := hI
              obtain ⟨u27, hI⟩ := hI
              obtain ⟨u28, hI⟩ := hI
              obtain ⟨u29, hI⟩ := hI
              obtain ⟨u30, hI⟩ := hI
              obtain ⟨u31, hI⟩ := hI
              obtain ⟨u32, hI⟩ := hI
              obtain ⟨u33, hI⟩ := hI
              obtain ⟨u34, hI⟩ := hI
              obtain ⟨u35, hI⟩ := hI
              obtain ⟨u36, hI⟩ := hI
              obtain ⟨u37, hI⟩ := hI
              obtain ⟨ha, hI⟩ := hI
              obtain ⟨h0, hI⟩ := hI
              obtain ⟨h1, hI⟩ := hI
              obtain ⟨h2, hI⟩ := hI
              obtain ⟨h3, hI⟩ := hI
              obtain ⟨h4, hI⟩ := hI
              obtain ⟨h5, hI⟩ := hI
              obtain ⟨n3, hI⟩ := hI
              obtain ⟨n7, hI⟩ := hI
              obtain ⟨l0, hI⟩ := hI
              obtain ⟨l1, hI⟩ := hI
              obtain ⟨l2, hI⟩ := hI
              obtain ⟨l3, hI⟩ := hI
              obtain ⟨l4, hI⟩ := hI
              obtain ⟨l5, hI⟩ := hI
              obtain ⟨l6, hI⟩ := hI
              obtain ⟨l7, hI⟩ := hI
              obtain ⟨l8, hI⟩ := hI
              obtain ⟨l9, hI⟩ := hI
              obtain ⟨l10, hI⟩ := hI
              have l11 := hI; clear hI
              subst ha
              clear hd
              simp only [over]
              go_simp
              exact hK.out _ _ ⟨by simpa using hsz, _, _, _, _, _, _, _, _, _, _, _, _, rfl, h0, h1, h2, h3, h4, h5, n3.set_ne (by decide), n7.set_ne (by decide), l0.set_ne (by decide), l1.set_ne (by decide), Lst.now rfl, l3.set_ne (by decide), l4.set_ne (by decide), l5.set_ne (by decide), l6.set_ne (by decide), l7.set_ne (by decide), l8.set_ne (by decide), l9.set_ne (by decide), l10.set_ne (by decide), l11.set_ne (by decide)⟩
            refine StepsOK.cons (fun l a' w' K' hK hl hd hI => ?_) ?_
            · obtain ⟨hsz, hI⟩ := hI
              obtain ⟨u26, hI⟩ := hI
              obtain ⟨u27, hI⟩ := hI
              obtain ⟨u28, hI⟩ := hI
              obtain ⟨u29, hI⟩ := hI
              obtain ⟨u30, hI⟩ := hI
              obtain ⟨u31, hI⟩ := hI
              obtain ⟨u32, hI⟩ := hI
              obtain ⟨u33, hI⟩ := hI
              obtain ⟨u34, hI⟩ := hI
              obtain ⟨u35, hI⟩ := hI
              obtain ⟨u36, hI⟩ := hI
              obtain ⟨u37, hI⟩ := hI
              obtain ⟨ha, hI⟩ := hI
              obtain ⟨h0, hI⟩ := hI
              obtain ⟨h1, hI⟩ := hI
              obtain ⟨h2, hI⟩ := hI
              obtain ⟨h3, hI⟩ := hI
              obtain ⟨h4, hI⟩ := hI
              obtain ⟨h5, hI⟩ := hI
              obtain ⟨n3, hI⟩ := hI
              obtain ⟨n7, hI⟩ := hI
              obtain ⟨l0, hI⟩ := hI
              obtain ⟨l1, hI⟩ := hI
              obtain ⟨l2, hI⟩ := hI
              obtain ⟨l3, hI⟩ := hI
              obtain ⟨l4, hI⟩ := hI
              obtain ⟨l5, hI⟩ := hI
              obtain ⟨l6, hI⟩ := hI
              obtain ⟨l7, hI⟩ := hI
              obtain ⟨l8, hI⟩ := hI
              obtain ⟨l9, hI⟩ := hI
              obtain ⟨l10, hI⟩ := hI
              have l11 := hI; clear hI
              subst ha
              have r2 := l2.on (hd 2 (by decide))
              clear hd
              subst r2
              simp only [over]
              go_simp
              go_at_call 140
              refine (pick_c (n3.on hl) (by omega) (by omega) (by omega)).mono ?_
              rintro e w9 ⟨x, rfl, x0, x1, r9, g9⟩
              go_simp
              have kg := g9
              exact hK.out _ _ ⟨by simpa using hsz, _, _, _, _, _, _, _, _, _, _, _, _, rfl, h0.kp kg hgl, h1.grown kg (fun e => by injection e with e; omega), h2.kp kg hgl2, grown_trans' h3 kg, Nat.le_trans h4 kg.size, r9.mono (by omega), Nst.gone hl, (n7.set_ne (by decide)).mono (fun _ => r9), l0.set_ne (by decide), l1.set_ne (by decide), l2.set_ne (by decide), Lst.now ⟨x.toNat, by rw [Int.toNat_of_nonneg x0], by omega⟩, l4.set_ne (by decide), (l5.set_ne (by decide)).mono (fun h => h.kp kg hgl2), l6.set_ne (by decide), l7.set_ne (by decide), (l8.set_ne (by decide)).mono (fun h => h.kp kg hgl2), l9.set_ne (by decide), l10.set_ne (by decide), (l11.set_ne (by decide)).mono (fun h => h.kp kg hgl2)⟩
            refine StepsOK.cons (fun l a' w' K' hK hl hd hI => ?_) ?_
            · obtain ⟨hsz, hI⟩ := hI
              obtain ⟨u26, hI⟩ := hI
              obtain ⟨u27, hI⟩ := hI
              obtain ⟨u28, hI⟩ := hI
              obtain ⟨u29, hI⟩ := hI
              obtain ⟨u30, hI⟩ := hI
              obtain ⟨u31, hI⟩ := hI
              obtain ⟨u32, hI⟩ := hI
              obtain ⟨u33, hI⟩ := hI
              obtain ⟨u34, hI⟩ := hI
              obtain ⟨u35, hI⟩ := hI
              obtain ⟨u36, hI⟩ := hI
              obtain ⟨u37, hI⟩ := hI
              obtain ⟨ha, hI⟩ := hI
              obtain ⟨h0, hI⟩ := hI
              obtain ⟨h1, hI⟩ := hI
              obtain ⟨h2, hI⟩ := hI
              obtain ⟨h3, hI⟩ := hI
              obtain ⟨h4, hI⟩ := hI
              obtain ⟨h5, hI⟩ := hI
              obtain ⟨n3, hI⟩ := hI
              obtain ⟨n7, hI⟩ := hI
              obtain ⟨l0, hI⟩ := hI
              obtain ⟨l1, hI⟩ := hI
              obtain ⟨l2, hI⟩ := hI
              obtain ⟨l3, hI⟩ := hI
              obtain ⟨l4, hI⟩ := hI
              obtain ⟨l5, hI⟩ := hI
              obtain ⟨l6, hI⟩ := hI
              obtain ⟨l7, hI⟩ := hI
              obtain ⟨l8, hI⟩ := hI
              obtain ⟨l9, hI⟩ := hI
              obtain ⟨l10, hI⟩ := hI
              have l11 := hI; clear hI
              subst ha
              have r3 := l3.on (hd 3 (by decide))
              clear hd
              obtain ⟨x, rfl, hx⟩ := r3
              have x0 : (0 : Int) ≤ x := by omega
              have x1 : (x : Int) < 2 := by omega
              simp only [over]
              go_simp
              exact hK.out _ _ ⟨by simpa using hsz, _, _, _, _, _, _, _, _, _, _, _, _, rfl, h0, h1, h2, h3, h4, h5, n3.set_ne (by decide), n7.set_ne (by decide), l0.set_ne (by decide), l1.set_ne (by decide), l2.set_ne (by decide), l3.set_ne (by decide), Lst.now ⟨_, rfl⟩, l5.set_ne (by decide), l6.set_ne (by decide), l7.set_ne (by decide), l8.set_ne (by decide), l9.set_ne (by decide), l10.set_ne (by decide), l11.set_ne (by decide)⟩
            refine StepsOK.cons (fun l a' w' K' hK hl hd hI => ?_) ?_
            · obtain ⟨hsz, hI⟩ := hI
              obtain ⟨u26, hI⟩ := hI
              obtain ⟨u27, hI⟩ := hI
              obtain ⟨u28, hI⟩ := hI
              obtain ⟨u29, hI⟩ := hI
              obtain ⟨u30, hI⟩ := hI
              obtain ⟨u31, hI⟩ := hI
              obtain ⟨u32, hI⟩ := hI
              obtain ⟨u33, hI⟩ := hI
              obtain ⟨u34, hI⟩ := hI
              obtain ⟨u35, hI⟩ := hI
              obtain ⟨u36, hI⟩ := hI
              obtain ⟨u37, hI⟩ := hI
              obtain ⟨ha, hI⟩ := hI
              obtain ⟨h0, hI⟩ := hI
              obtain ⟨h1, hI⟩ := hI
              obtain ⟨h2, hI⟩ := hI
              obtain ⟨h3, hI⟩ := hI
              obtain ⟨h4, hI⟩ := hI
              obtain ⟨h5, hI⟩ := hI
              obtain ⟨n3, hI⟩ := hI
              obtain ⟨n7, hI⟩ := hI
              obtain ⟨l0, hI⟩ := hI
              obtain ⟨l1, hI⟩ := hI
              obtain ⟨l2, hI⟩ := hI
              obtain ⟨l3, hI⟩ := hI
              obtain ⟨l4, hI⟩ := hI
              obtain ⟨l5, hI⟩ := hI
              obtain ⟨l6, hI⟩ := hI
              obtain ⟨l7, hI⟩ := hI
              obtain ⟨l8, hI⟩ := hI
              obtain ⟨l9, hI⟩ := hI
              obtain ⟨l10, hI⟩ := hI
              have l11 := hI; clear hI
              subst ha
              clear hd
              simp only [over]
              go_simp
              have kb := beB0 w' (.cells #[.int .i64 0, .int .i64 0, .int .i64 1, .int .i64 1, .int .i64 2] 3)
              have kg := grown_of_below kb (some g)
              exact hK.out _ _ ⟨by simpa using hsz, _, _, _, _, _, _, _, _, _, _, _, _, rfl, h0.kp kg hgl, h1.grown kg (fun e => by injection e with e; omega), h2.kp kg hgl2, grown_trans' h3 kg, Nat.le_trans h4 kg.size, h5.below kb, (n3.set_ne (by decide)).mono (fun h => h.below kb), (n7.set_ne (by decide)).mono (fun h => h.below kb), l0.set_ne (by decide), l1.set_ne (by decide), l2.set_ne (by decide), l3.set_ne (by decide), l4.set_ne (by decide), Lst.now (TI.new h4 _ _ _ _ _), l6.set_ne (by decide), l7.set_ne (by decide), (l8.set_ne (by decide)).mono (fun h => h.kp kg hgl2), l9.set_ne (by decide), l10.set_ne (by decide), (l11.set_ne (by decide)).mono (fun h => h.kp kg hgl2)⟩
            refine StepsOK.cons (fun l a' w' K' hK hl hd hI => ?_) ?_
            · obtain ⟨hsz, hI⟩ := hI
              obtain ⟨u26, hI⟩ := hI
              obtain ⟨u27, hI⟩ := hI
              obtain ⟨u28, hI⟩ := hI
              obtain ⟨u29, hI⟩ := hI
              obtain ⟨u30, hI⟩ := hI
              obtain ⟨u31, hI⟩ := hI
              obtain ⟨u32, hI⟩ := hI
              obtain ⟨u33, hI⟩ := hI
              obtain ⟨u34, hI⟩ := hI
              obtain ⟨u35, hI⟩ := hI
              obtain ⟨u36, hI⟩ := hI
              obtain ⟨u37, hI⟩ := hI
              obtain ⟨ha, hI⟩ := hI
              obtain ⟨h0, hI⟩ := hI
              obtain ⟨h1, hI⟩ := hI
              obtain ⟨h2, hI⟩ := hI
              obtain ⟨h3, hI⟩ := hI
              obtain ⟨h4, hI⟩ := hI
              obtain ⟨h5, hI⟩ := hI
              obtain ⟨n3, hI⟩ := hI
              obtain ⟨n7, hI⟩ := hI
              obtain ⟨l0, hI⟩ := hI
              obtain ⟨l1, hI⟩ := hI
              obtain ⟨l2, hI⟩ := hI
              obtain ⟨l3, hI⟩ := hI
              obtain ⟨l4, hI⟩ := hI
              obtain ⟨l5, hI⟩ := hI
              obtain ⟨l6, hI⟩ := hI
              obtain ⟨l7, hI⟩ := hI
              obtain ⟨l8, hI⟩ := hI
              obtain ⟨l9, hI⟩ := hI
              obtain ⟨l10, hI⟩ := hI
              have l11 := hI; clear hI
              subst ha
              clear hd
              simp only [over]
              go_simp
              exact hK.out _ _ ⟨by simpa using hsz, _, _, _, _, _, _, _, _, _, _, _, _, rfl, h0, h1, h2, h3, h4, h5, n3.set_ne (by decide), n7.set_ne (by decide), l0.set_ne (by decide), l1.set_ne (by decide), l2.set_ne (by decide), l3.set_ne (by decide), l4.set_ne (by decide), l5.set_ne (by decide), Lst.now rfl, l7.set_ne (by decide), l8.set_ne (by decide), l9.set_ne (by decide), l10.set_ne (by decide), l11.set_ne (by decide)⟩
            refine StepsOK.cons (fun l a' w' K' hK hl hd hI => ?_) ?_
            · obtain ⟨hsz, hI⟩ := hI
              obtain ⟨u26, hI⟩ := hI
              obtain ⟨u27, hI⟩ := hI
              obtain ⟨u28, hI⟩ := hI
              obtain ⟨u29, hI⟩ := hI
              obtain ⟨u30, hI⟩ := hI
              obtain ⟨u31, hI⟩ := hI
              obtain ⟨u32, hI⟩ := hI
              obtain ⟨u33, hI⟩ := hI
              obtain ⟨u34, hI⟩ := hI
              obtain ⟨u35, hI⟩ := hI
              obtain ⟨u36, hI⟩ := hI
              obtain ⟨u37, hI⟩ := hI
              obtain ⟨ha, hI⟩ := hI
              obtain ⟨h0, hI⟩ := hI
              obtain ⟨h1, hI⟩ := hI
              obtain ⟨h2, hI⟩ := hI
              obtain ⟨h3, hI⟩ := hI
              obtain ⟨h4, hI⟩ := hI
              obtain ⟨h5, hI⟩ := hI
              obtain ⟨n3, hI⟩ := hI
              obtain ⟨n7, hI⟩ := hI
              obtain ⟨l0, hI⟩ := hI
              obtain ⟨l1, hI⟩ := hI
              obtain ⟨l2, hI⟩ := hI
              obtain ⟨l3, hI⟩ := hI
              obtain ⟨l4, hI⟩ := hI
              obtain ⟨l5, hI⟩ := hI
              obtain ⟨l6, hI⟩ := hI
              obtain ⟨l7, hI⟩ := hI
              obtain ⟨l8, hI⟩ := hI
              obtain ⟨l9, hI⟩ := hI
              obtain ⟨l10, hI⟩ := hI
              have l11 := hI; clear hI
              subst ha
              have r6 := l6.on (hd 6 (by decide))
              have off3 := hd 3 (by decide)
              clear hd
              subst r6
              simp only [over]
              go_simp
              go_at_call 140
              refine (pick_c (n7.on hl) (by omega) (by omega) (by omega)).mono ?_
              rintro e w9 ⟨x, rfl, x0, x1, r9, g9⟩
              go_simp
              have kg := g9
              exact hK.out _ _ ⟨by simpa using hsz, _, _, _, _, _, _, _, _, _, _, _, _, rfl, h0.kp kg hgl, h1.grown kg (fun e => by injection e with e; omega), h2.kp kg hgl2, grown_trans' h3 kg, Nat.le_trans h4 kg.size, r9, Nst.off off3 (by decide), Nst.gone hl, l0.set_ne (by decide), l1.set_ne (by decide), l2.set_ne (by decide), l3.set_ne (by decide), l4.set_ne (by decide), (l5.set_ne (by decide)).mono (fun h => h.kp kg hgl2), l6.set_ne (by decide), Lst.now ⟨x.toNat, by rw [Int.toNat_of_nonneg x0], by omega⟩, (l8.set_ne (by decide)).mono (fun h => h.kp kg hgl2), l9.set_ne (by decide), l10.set_ne (by decide), (l11.set_ne (by decide)).mono (fun h => h.kp kg hgl2)⟩
            refine StepsOK.cons (fun l a' w' K' hK hl hd hI => ?_) ?_
            · obtain ⟨hsz, hI⟩ := hI
              obtain ⟨u26, hI⟩ := hI
              obtain ⟨u27, hI⟩ := hI
              obtain ⟨u28, hI⟩ := hI
              obtain ⟨u29, hI⟩ := hI
              obtain ⟨u30, hI⟩ := hI
              obtain ⟨u31, hI⟩ := hI
              obtain ⟨u32, hI⟩ := hI
              obtain ⟨u33, hI⟩ := hI
              obtain ⟨u34, hI⟩ := hI
              obtain ⟨u35, hI⟩ := hI
              obtain ⟨u36, hI⟩ := hI
              obtain ⟨u37, hI⟩ := hI
              obtain ⟨ha, hI⟩ := hI
              obtain ⟨h0, hI⟩ := hI
              obtain ⟨h1, hI⟩ := hI
              obtain ⟨h2, hI⟩ := hI
              obtain ⟨h3, hI⟩ := hI
              obtain ⟨h4, hI⟩ := hI
              obtain ⟨h5, hI⟩ := hI
              obtain ⟨n3, hI⟩ := hI
              obtain ⟨n7, hI⟩ := hI
              obtain ⟨l0, hI⟩ := hI
              obtain ⟨l1, hI⟩ := hI
              obtain ⟨l2, hI⟩ := hI
              obtain ⟨l3, hI⟩ := hI
              obtain ⟨l4, hI⟩ := hI
              obtain ⟨l5, hI⟩ := hI
              obtain ⟨l6, hI⟩ := hI
              obtain ⟨l7, hI⟩ := hI
              obtain ⟨l8, hI⟩ := hI
              obtain ⟨l9, hI⟩ := hI
              obtain ⟨l10, hI⟩ := hI
              have l11 := hI; clear hI
              subst ha
              have r5 := l5.on (hd 5 (by decide))
              have r7 := l7.on (hd 7 (by decide))
              clear hd
              obtain ⟨b, rfl, hb, hs, hc⟩ := r5
              obtain ⟨x, rfl, hx⟩ := r7
              have x0 : (0 : Int) ≤ x := by omega
              have x1 : (x : Int) < 5 := by omega
              simp only [over]
              go_simp
              exact hK.out _ _ ⟨by simpa using hsz, _, _, _, _, _, _, _, _, _, _, _, _, rfl, h0, h1, h2, h3, h4, h5, n3.set_ne (by decide), n7.set_ne (by decide), l0.set_ne (by decide), l1.set_ne (by decide), l2.set_ne (by decide), l3.set_ne (by decide), l4.set_ne (by decide), l5.set_ne (by decide), l6.set_ne (by decide), l7.set_ne (by decide), Lst.now ⟨b, x, by simp, hb, hs, hc x hx⟩, l9.set_ne (by decide), l10.set_ne (by decide), l11.set_ne (by decide)⟩
            refine StepsOK.cons (fun l a' w' K' hK hl hd hI => ?_) ?_
            · obtain ⟨hsz, hI⟩ := hI
              obtain ⟨u26, hI⟩ := hI
              obtain ⟨u27, hI⟩ := hI
              obtain ⟨u28, hI⟩ := hI
              obtain ⟨u29, hI⟩ := hI
              obtain ⟨u30, hI⟩ := hI
              obtain ⟨u31, hI⟩ := hI
              obtain ⟨u32, hI⟩ := hI
              obtain ⟨u33, hI⟩ := hI
              obtain ⟨u34, hI⟩ := hI
              obtain ⟨u35, hI⟩ := hI
              obtain ⟨u36, hI⟩ := hI
              obtain ⟨u37, hI⟩ := hI
              obtain ⟨ha, hI⟩ := hI
              obtain ⟨h0, hI⟩ := hI
              obtain ⟨h1, hI⟩ := hI
              obtain ⟨h2, hI⟩ := hI
              obtain ⟨h3, hI⟩ := hI
              obtain ⟨h4, hI⟩ := hI
              obtain ⟨h5, hI⟩ := hI
              obtain ⟨n3, hI⟩ := hI
              obtain ⟨n7, hI⟩ := hI
              obtain ⟨l0, hI⟩ := hI
              obtain ⟨l1, hI⟩ := hI
              obtain ⟨l2, hI⟩ := hI
              obtain ⟨l3, hI⟩ := hI
              obtain ⟨l4, hI⟩ := hI
              obtain ⟨l5, hI⟩ := hI
              obtain ⟨l6, hI⟩ := hI
              obtain ⟨l7, hI⟩ := hI
              obtain ⟨l8, hI⟩ := hI
              obtain ⟨l9, hI⟩ := hI
              obtain ⟨l10, hI⟩ := hI
              have l11 := hI; clear hI
              subst ha
              have r8 := l8.on (hd 8 (by decide))
              clear hd
              obtain ⟨b, i, rfl, hb, hs, y, hy⟩ := r8
              simp only [over]
              go_simp
              exact hK.out _ _ ⟨by simpa using hsz, _, _, _, _, _, _, _, _, _, _, _, _, rfl, h0, h1, h2, h3, h4, h5, n3.set_ne (by decide), n7.set_ne (by decide), l0.set_ne (by decide), l1.set_ne (by decide), l2.set_ne (by decide), l3.set_ne (by decide), l4.set_ne (by decide), l5.set_ne (by decide), l6.set_ne (by decide), l7.set_ne (by decide), l8.set_ne (by decide), Lst.now ⟨y, rfl⟩, l10.set_ne (by decide), l11.set_ne (by decide)⟩
            refine StepsOK.cons (fun l a' w' K' hK hl hd hI => ?_) ?_
            · obtain ⟨hsz, hI⟩ := hI
              obtain ⟨u26, hI⟩ := hI
              obtain ⟨u27, hI⟩ := hI
              obtain ⟨u28, hI⟩ := hI
              obtain ⟨u29, hI⟩ := hI
              obtain ⟨u30, hI⟩ := hI
              obtain ⟨u31, hI⟩ := hI
              obtain ⟨u32, hI⟩ := hI
              obtain ⟨u33, hI⟩ := hI
              obtain ⟨u34, hI⟩ := hI
              obtain ⟨u35, hI⟩ := hI
              obtain ⟨u36, hI⟩ := hI
              obtain ⟨u37, hI⟩ := hI
              obtain ⟨ha, hI⟩ := hI
              obtain ⟨h0, hI⟩ := hI
              obtain ⟨h1, hI⟩ := hI
              obtain ⟨h2, hI⟩ := hI
              obtain ⟨h3, hI⟩ := hI
              obtain ⟨h4, hI⟩ := hI
              obtain ⟨h5, hI⟩ := hI
              obtain ⟨n3, hI⟩ := hI
              obtain ⟨n7, hI⟩ := hI
              obtain ⟨l0, hI⟩ := hI
              obtain ⟨l1, hI⟩ := hI
              obtain ⟨l2, hI⟩ := hI
              obtain ⟨l3, hI⟩ := hI
              obtain ⟨l4, hI⟩ := hI
              obtain ⟨l5, hI⟩ := hI
              obtain ⟨l6, hI⟩ := hI
              obtain ⟨l7, hI⟩ := hI
              obtain ⟨l8, hI⟩ := hI
              obtain ⟨l9, hI⟩ := hI
              obtain ⟨l10, hI⟩ := hI
              have l11 := hI; clear hI
              subst ha
              have r4 := l4.on (hd 4 (by decide))
              have r9 := l9.on (hd 9 (by decide))
              clear hd
              obtain ⟨x, rfl⟩ := r4
              obtain ⟨y, rfl⟩ := r9
              simp only [over]
              go_simp
              exact hK.out _ _ ⟨by simpa using hsz, _, _, _, _, _, _, _, _, _, _, _, _, rfl, h0, h1, h2, h3, h4, h5, n3.set_ne (by decide), n7.set_ne (by decide), l0.set_ne (by decide), l1.set_ne (by decide), l2.set_ne (by decide), l3.set_ne (by decide), l4.set_ne (by decide), l5.set_ne (by decide), l6.set_ne (by decide), l7.set_ne (by decide), l8.set_ne (by decide), l9.set_ne (by decide), Lst.now ⟨_, _, _, rfl⟩, l11.set_ne (by decide)⟩
            refine StepsOK.cons (fun l a' w' K' hK hl hd hI => ?_) ?_
            · obtain ⟨hsz, hI⟩ := hI
              obtain ⟨u26, hI⟩ := hI
              obtain ⟨u27, hI⟩ := hI
              obtain ⟨u28, hI⟩ := hI
              obtain ⟨u29, hI⟩ := hI
              obtain ⟨u30, hI⟩ := hI
              obtain ⟨u31, hI⟩ := hI
              obtain ⟨u32, hI⟩ := hI
              obtain ⟨u33, hI⟩ := hI
              obtain ⟨u34, hI⟩ := hI
              obtain ⟨u35, hI⟩ := hI
              obtain ⟨u36, hI⟩ := hI
              obtain ⟨u37, hI⟩ := hI
              obtain ⟨ha, hI⟩ := hI
              obtain ⟨h0, hI⟩ := hI
              obtain ⟨h1, hI⟩ := hI
              obtain ⟨h2, hI⟩ := hI
              obtain ⟨h3, hI⟩ := hI
              obtain ⟨h4, hI⟩ := hI
              obtain ⟨h5, hI⟩ := hI
              obtain ⟨n3, hI⟩ := hI
              obtain ⟨n7, hI⟩ := hI
              obtain ⟨l0, hI⟩ := hI
              obtain ⟨l1, hI⟩ := hI
              obtain ⟨l2, hI⟩ := hI
              obtain ⟨l3, hI⟩ := hI
              obtain ⟨l4, hI⟩ := hI
              obtain ⟨l5, hI⟩ := hI
              obtain ⟨l6, hI⟩ := hI
              obtain ⟨l7, hI⟩ := hI
              obtain ⟨l8, hI⟩ := hI
              obtain ⟨l9, hI⟩ := hI
              obtain ⟨l10, hI⟩ := hI
              have l11 := hI; clear hI
              subst ha
              have r10 := l10.on (hd 10 (by decide))
              clear hd
              obtain ⟨x, y, z, rfl⟩ := r10
              simp only [over]
              go_simp
              have kb := beB0 w' (.cells #[.int .i64 x, .int .i64 y, .int .i64 z] 61)
              have kg := grown_of_below kb (some g)
              exact hK.out _ _ ⟨by simpa using hsz, _, _, _, _, _, _, _, _, _, _, _, _, rfl, h0.kp kg hgl, h1.grown kg (fun e => by injection e with e; omega), h2.kp kg hgl2, grown_trans' h3 kg, Nat.le_trans h4 kg.size, h5.below kb, (n3.set_ne (by decide)).mono (fun h => h.below kb), (n7.set_ne (by decide)).mono (fun h => h.below kb), l0.set_ne (by decide), l1.set_ne (by decide), l2.set_ne (by decide), l3.set_ne (by decide), l4.set_ne (by decide), (l5.set_ne (by decide)).mono (fun h => h.kp kg hgl2), l6.set_ne (by decide), l7.set_ne (by decide), (l8.set_ne (by decide)).mono (fun h => h.kp kg hgl2), l9.set_ne (by decide), l10.set_ne (by decide), Lst.now ⟨_, x, y, z, rfl, h4, Blk.new _ _ _⟩⟩
            exact StepsOK.nil
          case fin =>
            intro a' w' hI
            obtain ⟨hsz, hI⟩ := hI
            obtain ⟨u26, hI⟩ := hI
            obtain ⟨u27, hI⟩ := hI
            obtain ⟨u28, hI⟩ := hI
            obtain ⟨u29, hI⟩ := hI
            obtain ⟨u30, hI⟩ := hI
            obtain ⟨u31, hI⟩ := hI
            obtain ⟨u32, hI⟩ := hI
            obtain ⟨u33, hI⟩ := hI
            obtain ⟨u34, hI⟩ := hI
            obtain ⟨u35, hI⟩ := hI
            obtain ⟨u36, hI⟩ := hI
            obtain ⟨u37, hI⟩ := hI
            obtain ⟨ha, hI⟩ := hI
            obtain ⟨h0, hI⟩ := hI
            obtain ⟨h1, hI⟩ := hI
            obtain ⟨h2, hI⟩ := hI
            obtain ⟨h3, hI⟩ := hI
            obtain ⟨h4, hI⟩ := hI
            obtain ⟨h5, hI⟩ := hI
            obtain ⟨n3, hI⟩ := hI
            obtain ⟨n7, hI⟩ := hI
            obtain ⟨l0, hI⟩ := hI
            obtain ⟨l1, hI⟩ := hI
            obtain ⟨l2, hI⟩ := hI
            obtain ⟨l3, hI⟩ := hI
            obtain ⟨l4, hI⟩ := hI
            obtain ⟨l5, hI⟩ := hI
            obtain ⟨l6, hI⟩ := hI
            obtain ⟨l7, hI⟩ := hI
            obtain ⟨l8, hI⟩ := hI
            obtain ⟨l9, hI⟩ := hI
            obtain ⟨l10, hI⟩ := hI
            have l11 := hI; clear hI
            subst ha
            obtain ⟨bo, x, y, z, rfl, hbo, hKo⟩ := l11.on rfl
            obtain rfl := l1.on rfl
            obtain ⟨_, d1, _, _⟩ := h1.two
            have df := h1.frozen 1
            clear l0 l1 l2 l3 l4 l5 l6 l7 l8 l9 l10 l11 n3 n7
            simp only [over]
            refine wpAny_ready (rs := [12]) (by kernel_rfl) (by simp) ?_
            refine AllReady.cons (by rw [List.getElem?_toArray]; exact rfl) (fun K hK1 => ?_) AllReady.nil
            refine step_app3 (by rfl) (.tmp 27) (.tmp 37) (by rfl) (by rfl) h2 (by rfl) (S3.one hKo (Nat.le_refl _)) (by omega) h4 ?_
            intro v' w9 ho9 hg9 hat9
            refine hK1 _ _ ?_
            simp only [Act.put, List.setIfInBounds_toArray, List.set_cons_zero, List.set_cons_succ]
            obtain ⟨A9, c9, rfl⟩ := ho9.shape
            have hnd : some db ≠ (Value.slice A k c).ownBlock := fun e => by have := (h2.of.lt db e.symm).1; omega
            have K9 := h1.grown hg9 hnd
            obtain ⟨_, d1', _, df'⟩ := K9.two
            clear d1 df
            refine wpAny_ready (rs := [13]) (by kernel_rfl) (by simp) ?_
            refine AllReady.cons (by rw [List.getElem?_toArray]; exact rfl) (fun K2 hK2 => ?_) AllReady.nil
            go_simp
            refine hK2 _ _ ?_
            refine wpAny_ready (rs := [14]) (by kernel_rfl) (by simp) ?_
            refine AllReady.cons (by rw [List.getElem?_toArray]; exact rfl) (fun K3 hK3 => ?_) AllReady.nil
            go_simp
            refine hK3 _ _ ?_
            refine wpAny_done (by kernel_rfl) ?_ _
            have hgr : ∀ q, (Value.slice A k c).ownBlock = some q → db + 1 ≤ q := fun q hq => (h2.of.lt q hq).1
            have hO9 := h0.far h2 hg9 (.slice A9 (k + 1) c9)
            have hK9 := K9.set_ 1 (.slice A9 (k + 1) c9)
            have hT9 : O3 61 (w9.setCell ⟨db, 1, none⟩ (.slice A9 (k + 1) c9)) (db + 1) (.slice A9 (k + 1) c9) (k + 1) (ts ++ [(x, y, z)]) := ho9.set_low (by show db < db + 1; omega) _
            have hR9 : RD (w9.setCell ⟨db, 1, none⟩ (.slice A9 (k + 1) c9)) g (P2 + 2) := RD.setC (h5.grown hg9 (fun q hq => by have := hgr q hq; omega)) (by show g < db; omega) _
            have hG9 := grown_setL (grown_row (grown_trans' HG.out h3) hg9 (fun q hq => by have := hgr q hq; omega)) (p := ⟨db, 1, none⟩) (by show w.heap.size ≤ db; omega) (.slice A9 (k + 1) c9)
            have hz9 : db < (w9.setCell ⟨db, 1, none⟩ (.slice A9 (k + 1) c9)).heap.size := by rw [size_setCell]; have := hg9.size; omega
            clear hK1 hK2 hK3 h0 h1 h2 h3 h5 hg9 hat9 hKo ho9 K9 d1' df'
            go_wp2_with fail
            go_roundw
            case rel => exact ⟨j2 - 1, k + 1, ts ++ [(x, y, z)], A9, c9, by go_num, by omega, hK9, hT9, hO9, hR9.mono (by omega), hG9, hz9⟩
            case measure => simp [intOf]; omega
        · obtain rfl : j2 = 0 := by omega
          obtain ⟨d0, d1, _, _⟩ := HK.out.two
          obtain ⟨es, ds, hD, hs, hd⟩ := (HO.out.out)
          have hDR := hD.row
          rename World => wq
          have hDA : (wq.alloc (.cells #[.int .i64 f, .slice A k c] 77)).ownsRow w.heap.size 77 2 (.slice Av n cv) n (cellsD es) := own_chg hDR (S := fun _ => False) (Chg.of_below (beB0 _ _)) (fun _ _ => id)
          have hDD := hD.below (beB0 wq (.cells #[.int .i64 f, .slice A k c] 77))
          have KA := Blk.new wq 77 #[.int .i64 f, .slice A k c]
          have hTA : SV (wq.alloc (.cells #[.int .i64 f, .slice A k c] 77)) w.heap.size (.slice A k c) := ⟨k, ts, A, c, rfl, (HT.out.mono (by omega)).below (beB0 _ _), by omega⟩
          have RA := R0.alloc (.cells #[.int .i64 f, .slice A k c] 77)
          have GA := hide (grown_alloc HG.out (.cells #[.int .i64 f, .slice A k c] 77))
          have hs' := hide hs; have hd' := hide hd; have hDD' := hide hDD; have hTA' := hide hTA
          clear hs hd hD hDR hDD HO HG HT HK hTA R0
          go_wp2_with (at_builtin; refine wpList_appD rfl _ _ rfl rfl hDA rfl KA rfl (by omega) (by simp; omega) ?_; intro v9 w9 hr9 hg9 hat9)
          have hOUT := OutV.push' hDD'.out hs'.out hd'.out hTA'.out (by omega) hg9 hr9
          have hRD := RA.grown hg9 (fun k hk => by have := (World.ownsRow.lt hDA k hk).1; omega)
          have hGR := grown_row GA.out hg9 (fun k hk => (World.ownsRow.lt hDA k hk).1)
          have hz9 : w.heap.size < w9.heap.size := by have := hg9.size; simp at this; omega
          clear hDA KA hr9 hg9 hat9
          go_wp2_with fail
          go_roundw
          case rel => exact ⟨j - 1, n + 1, by go_num, by omega, hOUT, hRD.mono (by omega), hGR, hz9⟩
          case measure => simp [intOf]; omega
    · obtain rfl : j = 0 := by omega
      subst hV
      have hgl : g < w.heap.size := hg
      go_wp2_with fail
      refine (odd_c hR (by omega) hq1 hq2).mono ?_
      rintro e W0 ⟨b, rfl, R0, g3⟩
      have G3 := hide (grown_trans' HG.out g3)
      have O3' := hide (HO.out.kp g3 hgl)
      have hz3 : w.heap.size < W0.heap.size := (by have := g3.size; omega)
      clear HO HG hR g3 hz
      cases b
      · go_wp2_with fail
        go_ret
        exact ⟨_, n, rfl, O3'.out, by omega, R0.mono (by omega), G3.out⟩
      · obtain ⟨PP, hPP⟩ : ∃ p, P + 80 - 12 * 0 + 1 = p := ⟨_, rfl⟩
        rw [hPP] at R0
        go_upto_region 12 with fail
        refine wp_region_invT 22 (fun a0 l a' w' => l.size = 24 ∧ ∃ u47 u48 u49 u50 u51 u52 u53 u54 u55 u56 u57 u58 u59 u60 u61 u62 u63 u64 u65 u66 u67 u68 : Value, a' = ⟨(over a0.tmps.toList [none, none, none, none, none, none, none, none, none, none, none, none, none, none, none, none, none, none, none, none, none, none, none, none, none, none, none, none, none, none, none, none, none, none, none, none, none, none, none, none, none, none, none, none, none, none, none, some u47, some u48, some u49, some u50, some u51, some u52, some u53, some u54, some u55, some u56, some u57, some u58, some u59, some u60, some u61, some u62, some u63, some u64, some u65, some u66, some u67, some u68]).toArray, a0.defers⟩ ∧ OutV w' w.heap.size (.slice Av n cv) n ∧ W0.grownBy w' (some g) ∧ w.heap.size ≤ w'.heap.size ∧ RD w' g (PP + 1) ∧ Nst l 18 (RD w' g PP) ∧ Lst l 0 (u47 = .slice Av n cv) ∧ Lst l 1 (DV w' w.heap.size u48) ∧ Lst l 2 (OPv u49) ∧ Lst l 3 (SV w' w.heap.size u50) ∧ Lst l 4 (DV w' w.heap.size u51) ∧ Lst l 5 (OPv u52) ∧ Lst l 6 (SV w' w.heap.size u53) ∧ Lst l 7 (DV w' w.heap.size u54) ∧ Lst l 8 (OPv u55) ∧ Lst l 9 (SV w' w.heap.size u56) ∧ Lst l 10 (DV w' w.heap.size u57) ∧ Lst l 11 (OPv u58) ∧ Lst l 12 (SV w' w.heap.size u59) ∧ Lst l 13 (DV w' w.heap.size u60) ∧ Lst l 14 (SV w' w.heap.size u61) ∧ Lst l 15 (DV w' w.heap.size u62) ∧ Lst l 16 (TV w' w.heap.size u63) ∧ Lst l 17 (u64 = .pointer (some ⟨g, 0, none⟩)) ∧ Lst l 18 (NV 6 u65) ∧ Lst l 19 (PV w' w.heap.size u66) ∧ Lst l 20 (DV w' w.heap.size u67) ∧ Lst l 21 (RVd w' w.heap.size u68)) (by kernel_rfl) (by decide) (by kernel_rfl) (by kernel_rfl) (fun l a' w' h => h.1) ⟨by rfl, _, _, _, _, _, _, _, _, _, _, _, _, _, _, _, _, _, _, _, _, _, _, rfl, ?G0, ?G1, ?G2, ?G3, ?N0, Lst.none, Lst.none, Lst.none, Lst.none, Lst.none, Lst.none, Lst.none, Lst.none, Lst.none, Lst.none, Lst.none, Lst.none, Lst.none, Lst.none, Lst.none, Lst.none, Lst.none, Lst.none, Lst.none, Lst.none, Lst.none, Lst.none⟩ ?steps ?fin
        case G0 => exact O3'.out.kp (grown_of_below (Below.refl _ _).drew _) hgl
        case G1 => exact grown_of_below (Below.refl _ _).drew _
        case G2 => exact by show w.heap.size ≤ W0.heap.size; omega
        case G3 => exact (R0.below (Below.refl _ _).drew).mono (by omega)
        case N0 => exact Nst.all (R0.below (Below.refl _ _).drew)
        case steps =>
          refine StepsOK.cons (fun l a' w' K' hK hl hd hI => ?_) ?_
          · obtain ⟨hsz, hI⟩ := hI
            obtain ⟨u47, hI⟩ := hI
            obtain ⟨u48, hI⟩ := hI
            obtain ⟨u49, hI⟩ := hI
            obtain ⟨u50, hI⟩ := hI
            obtain ⟨u51, hI⟩ := hI
            obtain ⟨u52, hI⟩ := hI
            obtain ⟨u53, hI⟩ := hI
            obtain ⟨u54, hI⟩ := hI
            obtain ⟨u55, hI⟩ := hI
            obtain ⟨u56, hI⟩ := hI
            obtain ⟨u57, hI⟩ := hI
            obtain ⟨u58, hI⟩ := hI
            obtain ⟨u59, hI⟩ := hI
            obtain ⟨u60, hI⟩ := hI
            obtain ⟨u61, hI⟩ := hI
            obtain ⟨u62, hI⟩ := hI
            obtain ⟨u63, hI⟩ := hI
            obtain ⟨u64, hI⟩ := hI
            obtain ⟨u65, hI⟩ := hI
            obtain ⟨u66, hI⟩ := hI
            obtain ⟨u67, hI⟩ := hI
            obtain ⟨u68, hI⟩ := hI
            obtain ⟨ha, hI⟩ := hI
            obtain ⟨h0, hI⟩ := hI
            obtain ⟨h1, hI⟩ := hI
            obtain ⟨h2, hI⟩ := hI
            obtain ⟨h3, hI⟩ := hI
            obtain ⟨n18, hI⟩ := hI
            obtain ⟨l0, hI⟩ := hI
            obtain ⟨l1, hI⟩ := hI
            obtain ⟨l2, hI⟩ := hI
            obtain ⟨l3, hI⟩ := hI
            obtain ⟨l4, hI⟩ := hI
            obtain ⟨l5, hI⟩ := hI
            obtain ⟨l6, hI⟩ := hI
            obtain ⟨l7, hI⟩ := hI
            obtain ⟨l8, hI⟩ := hI
            obtain ⟨l9, hI⟩ := hI
            obtain ⟨l10, hI⟩ := hI
            obtain ⟨l11, hI⟩ := hI
            obtain ⟨l12, hI⟩ := hI
            obtain ⟨l13, hI⟩ := hI
            obtain ⟨l14, hI⟩ := hI
            obtain ⟨l15, hI⟩ := hI
            obtain ⟨l16, hI⟩ := hI
            obtain ⟨l17, hI⟩ := hI
            obtain ⟨l18, hI⟩ := hI
            obtain ⟨l19, hI⟩ := hI
            obtain ⟨l20, hI⟩ := hI
            have l21 := hI; clear hI
            subst ha
            clear hd
            simp only [over]
            go_simp
            exact hK.out _ _ ⟨by simpa using hsz, _, _, _, _, _, _, _, _, _, _, _, _, _, _, _, _, _, _, _, _, _, _, rfl, h0, h1, h2, h3, n18.set_ne (by decide), Lst.now rfl, l1.set_ne (by decide), l2.set_ne (by decide), l3.set_ne (by decide), l4.set_ne (by decide), l5.set_ne (by decide), l6.set_ne (by decide), l7.set_ne (by decide), l8.set_ne (by decide), l9.set_ne (by decide), l10.set_ne (by decide), l11.set_ne (by decide), l12.set_ne (by decide), l13.set_ne (by decide), l14.set_ne (by decide), l15.set_ne (by decide), l16.set_ne (by decide), l17.set_ne (by decide), l18.set_ne (by decide), l19.set_ne (by decide), l20.set_ne (by decide), l21.set_ne (by decide)⟩
          refine StepsOK.cons (fun l a' w' K' hK hl hd hI => ?_) ?_
          · obtain ⟨hsz, hI⟩ := hI
            obtain ⟨u47, hI⟩ := hI
            obtain ⟨u48, hI⟩ := hI
            obtain ⟨u49, hI⟩ := hI
            obtain ⟨u50, hI⟩ := hI
            obtain ⟨u51, hI⟩ := hI
            obtain ⟨u52, hI⟩ := hI
            obtain ⟨u53, hI⟩ := hI
            obtain ⟨u54, hI⟩ := hI
            obtain ⟨u55, hI⟩ := hI
            obtain ⟨u56, hI⟩ := hI
            obtain ⟨u57, hI⟩ := hI
            obtain ⟨u58, hI⟩ := hI
            obtain ⟨u59, hI⟩ := hI
            obtain ⟨u60, hI⟩ := hI
            obtain ⟨u61, hI⟩ := hI
            obtain ⟨u62, hI⟩ := hI
            obtain ⟨u63, hI⟩ := hI
            obtain ⟨u64, hI⟩ := hI
            obtain ⟨u65, hI⟩ := hI
            obtain ⟨u66, hI⟩ := hI
            obtain ⟨u67, hI⟩ := hI
            obtain ⟨u68, hI⟩ := hI
            obtain ⟨ha, hI⟩ := hI
            obtain ⟨h0, hI⟩ := hI
            obtain ⟨h1, hI⟩ := hI
            obtain ⟨h2, hI⟩ := hI
            obtain ⟨h3, hI⟩ := hI
            obtain ⟨n18, hI⟩ := hI
            obtain ⟨l0, hI⟩ := hI
            obtain ⟨l1, hI⟩ := hI
            obtain ⟨l2, hI⟩ := hI
            obtain ⟨l3, hI⟩ := hI
            obtain ⟨l4, hI⟩ := hI
            obtain ⟨l5, hI⟩ := hI
            obtain ⟨l6, hI⟩ := hI
            obtain ⟨l7, hI⟩ := hI
            obtain ⟨l8, hI⟩ := hI
            obtain ⟨l9, hI⟩ := hI
            obtain ⟨l10, hI⟩ := hI
            obtain ⟨l11, hI⟩ := hI
            obtain ⟨l12, hI⟩ := hI
            obtain ⟨l13, hI⟩ := hI
            obtain ⟨l14, hI⟩ := hI
            obtain ⟨l15, hI⟩ := hI
            obtain ⟨l16, hI⟩ := hI
            obtain ⟨l17, hI⟩ := hI
            obtain ⟨l18, hI⟩ := hI
            obtain ⟨l19, hI⟩ := hI
            obtain ⟨l20, hI⟩ := hI
            have l21 := hI; clear hI
            subst ha
            clear hd
            simp only [over]
            go_simp
            exact hK.out _ _ ⟨by simpa using hsz, _, _, _, _, _, _, _, _, _, _, _, _, _, _, _, _, _, _, _, _, _, _, rfl, h0, h1, h2, h3, n18.set_ne (by decide), l0.set_ne (by decide), Lst.now ⟨0, _, rfl, SV.nil⟩, l2.set_ne (by decide), l3.set_ne (by decide), l4.set_ne (by decide), l5.set_ne (by decide), l6.set_ne (by decide), l7.set_ne (by decide), l8.set_ne (by decide), l9.set_ne (by decide), l10.set_ne (by decide), l11.set_ne (by decide), l12.set_ne (by decide), l13.set_ne (by decide), l14.set_ne (by decide), l15.set_ne (by decide), l16.set_ne (by decide), l17.set_ne (by decide), l18.set_ne (by decide), l19.set_ne (by decide), l20.set_ne (by decide), l21.set_ne (by decide)⟩
          refine StepsOK.cons (fun l a' w' K' hK hl hd hI => ?_) ?_
          · obtain ⟨hsz, hI⟩ := hI
            obtain ⟨u47, hI⟩ := hI
            obtain ⟨u48, hI⟩ := hI
            obtain ⟨u49, hI⟩ := hI
            obtain ⟨u50, hI⟩ := hI
            obtain ⟨u51, hI⟩ := hI
            obtain ⟨u52, hI⟩ := hI
            obtain ⟨u53, hI⟩ := hI
            obtain ⟨u54, hI⟩ := hI
            obtain ⟨u55, hI⟩ := hI
            obtain ⟨u56, hI⟩ := hI
            obtain ⟨u57, hI⟩ := hI
            obtain ⟨u58, hI⟩ := hI
            obtain ⟨u59, hI⟩ := hI
            obtain ⟨u60, hI⟩ := hI
            obtain ⟨u61, hI⟩ := hI
            obtain ⟨u62, hI⟩ := hI
            obtain ⟨u63, hI⟩ := hI
            obtain ⟨u64, hI⟩ := hI
            obtain ⟨u65, hI⟩ := hI
            obtain ⟨u66, hI⟩ := hI
            obtain ⟨u67, hI⟩ := hI
            obtain ⟨u68, hI⟩ := hI
            obtain ⟨ha, hI⟩ := hI
            obtain ⟨h0, hI⟩ := hI
            obtain ⟨h1, hI⟩ := hI
            obtain ⟨h2, hI⟩ := hI
            obtain ⟨h3, hI⟩ := hI
            obtain ⟨n18, hI⟩ := hI
            obtain ⟨l0, hI⟩ := hI
            obtain ⟨l1, hI⟩ := hI
            obtain ⟨l2, hI⟩ := hI
            obtain ⟨l3, hI⟩ := hI
            obtain ⟨l4, hI⟩ := hI
            obtain ⟨l5, hI⟩ := hI
            obtain ⟨l6, hI⟩ := hI
            obtain ⟨l7, hI⟩ := hI
            obtain ⟨l8, hI⟩ := hI
            obtain ⟨l9, hI⟩ := hI
            obtain ⟨l10, hI⟩ := hI
            obtain ⟨l11, hI⟩ := hI
            obtain ⟨l12, hI⟩ := hI
            obtain ⟨l13, hI⟩ := hI
            obtain ⟨l14, hI⟩ := hI
            obtain ⟨l15, hI⟩ := hI
            obtain ⟨l16, hI⟩ := hI
            obtain ⟨l17, hI⟩ := hI
            obtain ⟨l18, hI⟩ := hI
            obtain ⟨l19, hI⟩ := hI
            obtain ⟨l20, hI⟩ := hI
            have l21 := hI; clear hI
            subst ha
            clear hd
            simp only [over]
            go_simp
            exact hK.out _ _ ⟨by simpa using hsz, _, _, _, _, _, _, _, _, _, _, _, _, _, _, _, _, _, _, _, _, _, _, rfl, h0, h1, h2, h3, n18.set_ne (by decide), l0.set_ne (by decide), l1.set_ne (by decide), Lst.now ⟨1, 0, 0, rfl⟩, l3.set_ne (by decide), l4.set_ne (by decide), l5.set_ne (by decide), l6.set_ne (by decide), l7.set_ne (by decide), l8.set_ne (by decide), l9.set_ne (by decide), l10.set_ne (by decide), l11.set_ne (by decide), l12.set_ne (by decide), l13.set_ne (by decide), l14.set_ne (by decide), l15.set_ne (by decide), l16.set_ne (by decide), l17.set_ne (by decide), l18.set_ne (by decide), l19.set_ne (by decide), l20.set_ne (by decide), l21.set_ne (by decide)⟩
          refine StepsOK.cons (fun l a' w' K' hK hl hd hI => ?_) ?_
          · obtain ⟨hsz, hI⟩ := hI
            obtain ⟨u47, hI⟩ := hI
            obtain ⟨u48, hI⟩ := hI
            obtain ⟨u49, hI⟩ := hI
            obtain ⟨u50, hI⟩ := hI
            obtain ⟨u51, hI⟩ := hI
            obtain ⟨u52, hI⟩ := hI
            obtain ⟨u53, hI⟩ := hI
            obtain ⟨u54, hI⟩ := hI
            obtain ⟨u55, hI⟩ := hI
            obtain ⟨u56, hI⟩ := hI
            obtain ⟨u57, hI⟩ := hI
            obtain ⟨u58, hI⟩ := hI
            obtain ⟨u59, hI⟩ := hI
            obtain ⟨u60, hI⟩ := hI
            obtain ⟨u61, hI⟩ := hI
            obtain ⟨u62, hI⟩ := hI
            obtain ⟨u63, hI⟩ := hI
            obtain ⟨u64, hI⟩ := hI
            obtain ⟨u65, hI⟩ := hI
            obtain ⟨u66, hI⟩ := hI
            obtain ⟨u67, hI⟩ := hI
            obtain ⟨u68, hI⟩ := hI
            obtain ⟨ha, hI⟩ := hI
            obtain ⟨h0, hI⟩ := hI
            obtain ⟨h1, hI⟩ := hI
            obtain ⟨h2, hI⟩ := hI
            obtain ⟨h3, hI⟩ := hI
            obtain ⟨n18, hI⟩ := hI
            obtain ⟨l0, hI⟩ := hI
            obtain ⟨l1, hI⟩ := hI
            obtain ⟨l2, hI⟩ := hI
            obtain ⟨l3, hI⟩ := hI
            obtain ⟨l4, hI⟩ := hI
            obtain ⟨l5, hI⟩ := hI
            obtain ⟨l6, hI⟩ := hI
            obtain ⟨l7, hI⟩ := hI
            obtain ⟨l8, hI⟩ := hI
            obtain ⟨l9, hI⟩ := hI
            obtain ⟨l10, hI⟩ := hI
            obtain ⟨l11, hI⟩ := hI
            obtain ⟨l12, hI⟩ := hI
            obtain ⟨l13, hI⟩ := hI
            obtain ⟨l14, hI⟩ := hI
            obtain ⟨l15, hI⟩ := hI
            obtain ⟨l16, hI⟩ := hI
            obtain ⟨l17, hI⟩ := hI
            obtain ⟨l18, hI⟩ := hI
            obtain ⟨l19, hI⟩ := hI
            obtain ⟨l20, hI⟩ := hI
            have l21 := hI; clear hI
            subst ha
            have r2 := l2.on (hd 2 (by decide))
            clear hd
            obtain ⟨x, y, z, rfl⟩ := r2
            simp only [over]
            go_simp
            have kb := beB0 w' (.cells #[.int .i64 x, .int .i64 y, .int .i64 z] 61)
            have kg := grown_of_below kb (some g)
            exact hK.out _ _ ⟨by simpa using hsz, _, _, _, _, _, _, _, _, _, _, _, _, _, _, _, _, _, _, _, _, _, _, rfl, h0.kp kg hgl, grown_trans' h1 kg, Nat.le_trans h2 kg.size, h3.below kb, (n18.set_ne (by decide)).mono (fun h => h.below kb), l0.set_ne (by decide), (l1.set_ne (by decide)).mono (fun h => h.kp kg hgl), l2.set_ne (by decide), Lst.now (SV.one h2 rfl), (l4.set_ne (by decide)).mono (fun h => h.kp kg hgl), l5.set_ne (by decide), (l6.set_ne (by decide)).mono (fun h => h.kp kg hgl), (l7.set_ne (by decide)).mono (fun h => h.kp kg hgl), l8.set_ne (by decide), (l9.set_ne (by decide)).mono (fun h => h.kp kg hgl), (l10.set_ne (by decide)).mono (fun h => h.kp kg hgl), l11.set_ne (by decide), (l12.set_ne (by decide)).mono (fun h => h.kp kg hgl), (l13.set_ne (by decide)).mono (fun h => h.kp kg hgl), (l14.set_ne (by decide)).mono (fun h => h.kp kg hgl), (l15.set_ne (by decide)).mono (fun h => h.kp kg hgl), (l16.set_ne (by decide)).mono (fun h => h.kp kg hgl), l17.set_ne (by decide), l18.set_ne (by decide), (l19.set_ne (by decide)).mono (fun h => h.kp kg hgl), (l20.set_ne (by decide)).mono (fun h => h.kp kg hgl), (l21.set_ne (by decide)).mono (fun h => h.kp kg hgl)⟩
          refine StepsOK.cons (fun l a' w' K' hK hl hd hI => ?_) ?_
          · obtain ⟨hsz, hI⟩ := hI
            obtain ⟨u47, hI⟩ := hI
            obtain ⟨u48, hI⟩ := hI
            obtain ⟨u49, hI⟩ := hI
            obtain ⟨u50, hI⟩ := hI
            obtain ⟨u51, hI⟩ := hI
            obtain ⟨u52, hI⟩ := hI
            obtain ⟨u53, hI⟩ := hI
            obtain ⟨u54, hI⟩ := hI
            obtain ⟨u55, hI⟩ := hI
            obtain ⟨u56, hI⟩ := hI
            obtain ⟨u57, hI⟩ := hI
            obtain ⟨u58, hI⟩ := hI
            obtain ⟨u59, hI⟩ := hI
            obtain ⟨u60, hI⟩ := hI
            obtain ⟨u61, hI⟩ := hI
            obtain ⟨u62, hI⟩ := hI
            obtain ⟨u63, hI⟩ := hI
            obtain ⟨u64, hI⟩ := hI
            obtain ⟨u65, hI⟩ := hI
            obtain ⟨u66, hI⟩ := hI
            obtain ⟨u67, hI⟩ := hI
            obtain ⟨u68, hI⟩ := hI
            obtain ⟨ha, hI⟩ := hI
            obtain ⟨h0, hI⟩ := hI
            obtain ⟨h1, hI⟩ := hI
            obtain ⟨h2, hI⟩ := hI
            obtain ⟨h3, hI⟩ := hI
            obtain ⟨n18, hI⟩ := hI
            obtain ⟨l0, hI⟩ := hI
            obtain ⟨l1, hI⟩ := hI
            obtain ⟨l2, hI⟩ := hI
            obtain ⟨l3, hI⟩ := hI
            obtain ⟨l4, hI⟩ := hI
            obtain ⟨l5, hI⟩ := hI
            obtain ⟨l6, hI⟩ := hI
            obtain ⟨l7, hI⟩ := hI
            obtain ⟨l8, hI⟩ := hI
            obtain ⟨l9, hI⟩ := hI
            obtain ⟨l10, hI⟩ := hI
            obtain ⟨l11, hI⟩ := hI
            obtain ⟨l12, hI⟩ := hI
            obtain ⟨l13, hI⟩ := hI
            obtain ⟨l14, hI⟩ := hI
            obtain ⟨l15, hI⟩ := hI
            obtain ⟨l16, hI⟩ := hI
            obtain ⟨l17, hI⟩ := hI
            obtain ⟨l18, hI⟩ := hI
            obtain ⟨l19, hI⟩ := hI
            obtain ⟨l20, hI⟩ := hI
            have l21 := hI; clear hI
            subst ha
            have r3 := l3.on (hd 3 (by decide))
            clear hd
            obtain ⟨k, ts, A, c, rfl, ho, hk⟩ := r3
            simp only [over]
            go_simp
            exact hK.out _ _ ⟨by simpa using hsz, _, _, _, _, _, _, _, _, _, _, _, _, _, _, _, _, _, _, _, _, _, _, rfl, h0, h1, h2, h3, n18.set_ne (by decide), l0.set_ne (by decide), l1.set_ne (by decide), l2.set_ne (by decide), l3.set_ne (by decide), Lst.now ⟨(-1), _, rfl, k, ts, A, c, rfl, ho, hk⟩, l5.set_ne (by decide), l6.set_ne (by decide), l7.set_ne (by decide), l8.set_ne (by decide), l9.set_ne (by decide), l10.set_ne (by decide), l11.set_ne (by decide), l12.set_ne (by decide), l13.set_ne (by decide), l14.set_ne (by decide), l15.set_ne (by decide), l16.set_ne (by decide), l17.set_ne (by decide), l18.set_ne (by decide), l19.set_ne (by decide), l20.set_ne (by decide), l21.set_ne (by decide)⟩
          refine StepsOK.cons (fun l a' w' K' hK hl hd hI => ?_) ?_
          · obtain ⟨hsz, hI⟩ := hI
            obtain ⟨u47, hI⟩ := hI
            obtain ⟨u48, hI⟩ := hI
            obtain ⟨u49, hI⟩ := hI
            obtain ⟨u50, hI⟩ := hI
            obtain ⟨u51, hI⟩ := hI
            obtain ⟨u52, hI⟩ := hI
            obtain ⟨u53, hI⟩ := hI
            obtain ⟨u54, hI⟩ := hI
            obtain ⟨u55, hI⟩ := hI
            obtain ⟨u56, hI⟩ := hI
            obtain ⟨u57, hI⟩ := hI
            obtain ⟨u58, hI⟩ := hI
            obtain ⟨u59, hI⟩ := hI
            obtain ⟨u60, hI⟩ := hI
            obtain ⟨u61, hI⟩ := hI
            obtain ⟨u62, hI⟩ := hI
            obtain ⟨u63, hI⟩ := hI
            obtain ⟨u64, hI⟩ := hI
            obtain ⟨u65, hI⟩ := hI
            obtain ⟨u66, hI⟩ := hI
            obtain ⟨u67, hI⟩ := hI
            obtain ⟨u68, hI⟩ := hI
            obtain ⟨ha, hI⟩ := hI
            obtain ⟨h0, hI⟩ := hI
            obtain ⟨h1, hI⟩ := hI
            obtain ⟨h2, hI⟩ := hI
            obtain ⟨h3, hI⟩ := hI
            obtain ⟨n18, hI⟩ := hI
            obtain ⟨l0, hI⟩ := hI
            obtain ⟨l1, hI⟩ := hI
            obtain ⟨l2, hI⟩ := hI
            obtain ⟨l3, hI⟩ := hI
            obtain ⟨l4, hI⟩ := hI
            obtain ⟨l5, hI⟩ := hI
            obtain ⟨l6, hI⟩ := hI
            obtain ⟨l7, hI⟩ := hI
            obtain ⟨l8, hI⟩ := hI
            obtain ⟨l9, hI⟩ := hI
            obtain ⟨l10, hI⟩ := hI
            obtain ⟨l11, hI⟩ := hI
            obtain ⟨l12, hI⟩ := hI
            obtain ⟨l13, hI⟩ := hI
            obtain ⟨l14, hI⟩ := hI
            obtain ⟨l15, hI⟩ := hI
            obtain ⟨l16, hI⟩ := hI
            obtain ⟨l17, hI⟩ := hI
            obtain ⟨l18, hI⟩ := hI
            obtain ⟨l19, hI⟩ := hI
            obtain ⟨l20, hI⟩ := hI
            have l21 := hI; clear hI
            subst ha
            clear hd
            simp only [over]
            go_simp
            exact hK.out _ _ ⟨by simpa using hsz, _, _, _, _, _, _, _, _, _, _, _, _, _, _, _, _, _, _, _, _, _, _, rfl, h0, h1, h2, h3, n18.set_ne (by decide), l0.set_ne (by decide), l1.set_ne (by decide), l2.set_ne (by decide), l3.set_ne (by decide), l4.set_ne (by decide), Lst.now ⟨3, 0, 0, rfl⟩, l6.set_ne (by decide), l7.set_ne (by decide), l8.set_ne (by decide), l9.set_ne (by decide), l10.set_ne (by decide), l11.set_ne (by decide), l12.set_ne (by decide), l13.set_ne (by decide), l14.set_ne (by decide), l15.set_ne (by decide), l16.set_ne (by decide), l17.set_ne (by decide), l18.set_ne (by decide), l19.set_ne (by decide), l20.set_ne (by decide), l21.set_ne (by decide)⟩
          refine StepsOK.cons (fun l a' w' K' hK hl hd hI => ?_) ?_
          · obtain ⟨hsz, hI⟩ := hI
            obtain ⟨u47, hI⟩ := hI
            obtain ⟨u48, hI⟩ := hI
            obtain ⟨u49, hI⟩ := hI
            obtain ⟨u50, hI⟩ := hI
            obtain ⟨u51, hI⟩ := hI
            obtain ⟨u52, hI⟩ := hI
            obtain ⟨u53, hI⟩ := hI
            obtain ⟨u54, hI⟩ := hI
            obtain ⟨u55, hI⟩ := hI
            obtain ⟨u56, hI⟩ := hI
            obtain ⟨u57, hI⟩ := hI
            obtain ⟨u58, hI⟩ := hI
            obtain ⟨u59, hI⟩ := hI
            obtain ⟨u60, hI⟩ := hI
            obtain ⟨u61, hI⟩ := hI
            obtain ⟨u62, hI⟩ := hI
            obtain ⟨u63, hI⟩ := hI
            obtain ⟨u64, hI⟩ := hI
            obtain ⟨u65, hI⟩ := hI
            obtain ⟨u66, hI⟩ := hI
            obtain ⟨u67, hI⟩ := hI
            obtain ⟨u68, hI⟩ := hI
            obtain ⟨ha, hI⟩ := hI
            obtain ⟨h0, hI⟩ := hI
            obtain ⟨h1, hI⟩ := hI
            obtain ⟨h2, hI⟩ := hI
            obtain ⟨h3, hI⟩ := hI
            obtain ⟨n18, hI⟩ := hI
            obtain ⟨l0, hI⟩ := hI
            obtain ⟨l1, hI⟩ := hI
            obtain ⟨l2, hI⟩ := hI
            obtain ⟨l3, hI⟩ := hI
            obtain ⟨l4, hI⟩ := hI
            obtain ⟨l5, hI⟩ := hI
            obtain ⟨l6, hI⟩ := hI
            obtain ⟨l7, hI⟩ := hI
            obtain ⟨l8, hI⟩ := hI
            obtain ⟨l9, hI⟩ := hI
            obtain ⟨l10, hI⟩ := hI
            obtain ⟨l11, hI⟩ := hI
            obtain ⟨l12, hI⟩ := hI
            obtain ⟨l13, hI⟩ := hI
            obtain ⟨l14, hI⟩ := hI
            obtain ⟨l15, hI⟩ := hI
            obtain ⟨l16, hI⟩ := hI
            obtain ⟨l17, hI⟩ := hI
            obtain ⟨l18, hI⟩ := hI
            obtain ⟨l19, hI⟩ := hI
            obtain ⟨l20, hI⟩ := hI
            have l21 := hI; clear hI
            subst ha
            have r5 := l5.on (hd 5 (by decide))
            clear hd
            obtain ⟨x, y, z, rfl⟩ := r5
            simp only [over]
            go_simp
            have kb := beB0 w' (.cells #[.int .i64 x, .int .i64 y, .int .i64 z] 61)
            have kg := grown_of_below kb (some g)
            exact hK.out _ _ ⟨by simpa using hsz, _, _, _, _, _, _, _, _, _, _, _, _, _, _, _, _, _, _, _, _, _, _, rfl, h0.kp kg hgl, grown_trans' h1 kg, Nat.le_trans h2 kg.size, h3.below kb, (n18.set_ne (by decide)).mono (fun h => h.below kb), l0.set_ne (by decide), (l1.set_ne (by decide)).mono (fun h => h.kp kg hgl), l2.set_ne (by decide), (l3.set_ne (by decide)).mono (fun h => h.kp kg hgl), (l4.set_ne (by decide)).mono (fun h => h.kp kg hgl), l5.set_ne (by decide), Lst.now (SV.one h2 rfl), (l7.set_ne (by decide)).mono (fun h => h.kp kg hgl), l8.set_ne (by decide), (l9.set_ne (by decide)).mono (fun h => h.kp kg hgl), (l10.set_ne (by decide)).mono (fun h => h.kp kg hgl), l11.set_ne (by decide), (l12.set_ne (by decide)).mono (fun h => h.kp kg hgl), (l13.set_ne (by decide)).mono (fun h => h.kp kg hgl), (l14.set_ne (by decide)).mono (fun h => h.kp kg hgl), (l15.set_ne (by decide)).mono (fun h => h.kp kg hgl), (l16.set_ne (by decide)).mono (fun h => h.kp kg hgl), l17.set_ne (by decide), l18.set_ne (by decide), (l19.set_ne (by decide)).mono (fun h => h.kp kg hgl), (l20.set_ne (by decide)).mono (fun h => h.kp kg hgl), (l21.set_ne (by decide)).mono (fun h => h.kp kg hgl)⟩
          refine StepsOK.cons (fun l a' w' K' hK hl hd hI => ?_) ?_
          · obtain ⟨hsz, hI⟩ := hI
            obtain ⟨u47, hI⟩ := hI
            obtain ⟨u48, hI⟩ := hI
            obtain ⟨u49, hI⟩ := hI
            obtain ⟨u50, hI⟩ := hI
            obtain ⟨u51, hI⟩ := hI
            obtain ⟨u52, hI⟩ := hI
            obtain ⟨u53, hI⟩ := hI
            obtain ⟨u54, hI⟩ := hI
            obtain ⟨u55, hI⟩ := hI
            obtain ⟨u56, hI⟩ := hI
            obtain ⟨u57, hI⟩ := hI
            obtain ⟨u58, hI⟩ := hI
            obtain ⟨u59, hI⟩ := hI
            obtain ⟨u60, hI⟩ := hI
            obtain ⟨u61, hI⟩ := hI
            obtain ⟨u62, hI⟩ := hI
            obtain ⟨u63, hI⟩ := hI
            obtain ⟨u64, hI⟩ := hI
            obtain ⟨u65, hI⟩ := hI
            obtain ⟨u66, hI⟩ := hI
            obtain ⟨u67, hI⟩ := hI
            obtain ⟨u68, hI⟩ := hI
            obtain ⟨ha, hI⟩ := hI
            obtain ⟨h0, hI⟩ := hI
            obtain ⟨h1, hI⟩ := hI
            obtain ⟨h2, hI⟩ := hI
            obtain ⟨h3, hI⟩ := hI
            obtain ⟨n18, hI⟩ := hI
            obtain ⟨l0, hI⟩ := hI
            obtain ⟨l1, hI⟩ := hI
            obtain ⟨l2, hI⟩ := hI
            obtain ⟨l3, hI⟩ := hI
            obtain ⟨l4, hI⟩ := hI
            obtain ⟨l5, hI⟩ := hI
            obtain ⟨l6, hI⟩ := hI
            obtain ⟨l7, hI⟩ := hI
            obtain ⟨l8, hI⟩ := hI
            obtain ⟨l9, hI⟩ := hI
            obtain ⟨l10, hI⟩ := hI
            obtain ⟨l11, hI⟩ := hI
            obtain ⟨l12, hI⟩ := hI
            obtain ⟨l13, hI⟩ := hI
            obtain ⟨l14, hI⟩ := hI
            obtain ⟨l15, hI⟩ := hI
            obtain ⟨l16, hI⟩ := hI
            obtain ⟨l17, hI⟩ := hI
            obtain ⟨l18, hI⟩ := hI
            obtain ⟨l19, hI⟩ := hI
            obtain ⟨l20, hI⟩ := hI
            have l21 := hI; clear hI
            subst ha
            have r6 := l6.on (hd 6 (by decide))
            clear hd
            obtain ⟨k, ts, A, c, rfl, ho, hk⟩ := r6
            simp only [over]
            go_simp
            exact hK.out _ _ ⟨by simpa using hsz, _, _, _, _, _, _, _, _, _, _, _, _, _, _, _, _, _, _, _, _, _, _, rfl, h0, h1, h2, h3, n18.set_ne (by decide), l0.set_ne (by decide), l1.set_ne (by decide), l2.set_ne (by decide), l3.set_ne (by decide), l4.set_ne (by decide), l5.set_ne (by decide), l6.set_ne (by decide), Lst.now ⟨0, _, rfl, k, ts, A, c, rfl, ho, hk⟩, l8.set_ne (by decide), l9.set_ne (by decide), l10.set_ne (by decide), l11.set_ne (by decide), l12.set_ne (by decide), l13.set_ne (by decide), l14.set_ne (by decide), l15.set_ne (by decide), l16.set_ne (by decide), l17.set_ne (by decide), l18.set_ne (by decide), l19.set_ne (by decide), l20.set_ne (by decide), l21.set_ne (by decide)⟩
          refine StepsOK.cons (fun l a' w' K' hK hl hd hI => ?_) ?_
          · obtain ⟨hsz, hI⟩ := hI
            obtain ⟨u47, hI⟩ := hI
            obtain ⟨u48, hI⟩ := hI
            obtain ⟨u49, hI⟩ := hI
            obtain ⟨u50, hI⟩ := hI
            obtain ⟨u51, hI⟩ := hI
            obtain ⟨u52, hI⟩ := hI
            obtain ⟨u53, hI⟩ := hI
            obtain ⟨u54, hI⟩ := hI
            obtain ⟨u55, hI⟩ := hI
            obtain ⟨u56, hI⟩ := hI
            obtain ⟨u57, hI⟩ := hI
            obtain ⟨u58, hI⟩ := hI
            obtain ⟨u59, hI⟩ := hI
            obtain ⟨u60, hI⟩ := hI
            obtain ⟨u61, hI⟩ := hI
            obtain ⟨u62, hI⟩ := hI
            obtain ⟨u63, hI⟩ := hI
            obtain ⟨u64, hI⟩ := hI
            obtain ⟨u65, hI⟩ := hI
            obtain ⟨u66, hI⟩ := hI
            obtain ⟨u67, hI⟩ := hI
            obtain ⟨u68, hI⟩ := hI
            obtain ⟨ha, hI⟩ := hI
            obtain ⟨h0, hI⟩ := hI
            obtain ⟨h1, hI⟩ := hI
            obtain ⟨h2, hI⟩ := hI
            obtain ⟨h3, hI⟩ := hI
            obtain ⟨n18, hI⟩ := hI
            obtain ⟨l0, hI⟩ := hI
            obtain ⟨l1, hI⟩ := hI
            obtain ⟨l2, hI⟩ := hI
            obtain ⟨l3, hI⟩ := hI
            obtain ⟨l4, hI⟩ := hI
            obtain ⟨l5, hI⟩ := hI
            obtain ⟨l6, hI⟩ := hI
            obtain ⟨l7, hI⟩ := hI
            obtain ⟨l8, hI⟩ := hI
            obtain ⟨l9, hI⟩ := hI
            obtain ⟨l10, hI⟩ := hI
            obtain ⟨l11, hI⟩ := hI
            obtain ⟨l12, hI⟩ := hI
            obtain ⟨l13, hI⟩ := hI
            obtain ⟨l14, hI⟩ := hI
            obtain ⟨l15, hI⟩ := hI
            obtain ⟨l16, hI⟩ := hI
            obtain ⟨l17, hI⟩ := hI
            obtain ⟨l18, hI⟩ := hI
            obtain ⟨l19, hI⟩ := hI
            obtain ⟨l20, hI⟩ := hI
            have l21 := hI; clear hI
            subst ha
            clear hd
            simp only [over]
            go_simp
            exact hK.out _ _ ⟨by simpa using hsz, _, _, _, _, _, _, _, _, _, _, _, _, _, _, _, _, _, _, _, _, _, _, rfl, h0, h1, h2, h3, n18.set_ne (by decide), l0.set_ne (by decide), l1.set_ne (by decide), l2.set_ne (by decide), l3.set_ne (by decide), l4.set_ne (by decide), l5.set_ne (by decide), l6.set_ne (by decide), l7.set_ne (by decide), Lst.now ⟨1, 3, 0, rfl⟩, l9.set_ne (by decide), l10.set_ne (by decide), l11.set_ne (by decide), l12.set_ne (by decide), l13.set_ne (by decide), l14.set_ne (by decide), l15.set_ne (by decide), l16.set_ne (by decide), l17.set_ne (by decide), l18.set_ne (by decide), l19.set_ne (by decide), l20.set_ne (by decide), l21.set_ne (by decide)⟩
          refine StepsOK.cons (fun l a' w' K' hK hl hd hI => ?_) ?_
          · obtain ⟨hsz, hI⟩ := hI
            obtain ⟨u47, hI⟩ := hI
            obtain ⟨u48, hI⟩ := hI
            obtain ⟨u49, hI⟩ := hI
            obtain ⟨u50, hI⟩ := hI
            obtain ⟨u51, hI⟩ := hI
            obtain ⟨u52, hI⟩ := hI
            obtain ⟨u53, hI⟩ := hI
            obtain ⟨u54, hI⟩ := hI
            obtain ⟨u55, hI⟩ := hI
            obtain ⟨u56, hI⟩ := hI
            obtain ⟨u57, hI⟩ := hI
            obtain ⟨u58, hI⟩ := hI
            obtain ⟨u59, hI⟩ := hI
            obtain ⟨u60, hI⟩ := hI
            obtain ⟨u61, hI⟩ := hI
            obtain ⟨u62, hI⟩ := hI
            obtain ⟨u63, hI⟩ := hI
            obtain ⟨u64, hI⟩ := hI
            obtain ⟨u65, hI⟩ := hI
            obtain ⟨u66, hI⟩ := hI
            obtain ⟨u67, hI⟩ := hI
            obtain ⟨u68, hI⟩ := hI
            obtain ⟨ha, hI⟩ := hI
            obtain ⟨h0, hI⟩ := hI
            obtain ⟨h1, hI⟩ := hI
            obtain ⟨h2, hI⟩ := hI
            obtain ⟨h3, hI⟩ := hI
            obtain ⟨n18, hI⟩ := hI
            obtain ⟨l0, hI⟩ := hI
            obtain ⟨l1, hI⟩ := hI
            obtain ⟨l2, hI⟩ := hI
            obtain ⟨l3, hI⟩ := hI
            obtain ⟨l4, hI⟩ := hI
            obtain ⟨l5, hI⟩ := hI
            obtain ⟨l6, hI⟩ := hI
            obtain ⟨l7, hI⟩ := hI
            obtain ⟨l8, hI⟩ := hI
            obtain ⟨l9, hI⟩ := hI
            obtain ⟨l10, hI⟩ := hI
            obtain ⟨l11, hI⟩ := hI
            obtain ⟨l12, hI⟩ := hI
            obtain ⟨l13, hI⟩ := hI
            obtain ⟨l14, hI⟩ := hI
            obtain ⟨l15, hI⟩ := hI
            obtain ⟨l16, hI⟩ := hI
            obtain ⟨l17, hI⟩ := hI
            obtain ⟨l18, hI⟩ := hI
            obtain ⟨l19, hI⟩ := hI
            obtain ⟨l20, hI⟩ := hI
            have l21 := hI; clear hI
            subst ha
            have r8 := l8.on (hd 8 (by decide))
            clear hd
            obtain ⟨x, y, z, rfl⟩ := r8
            simp only [over]
            go_simp
            have kb := beB0 w' (.cells #[.int .i64 x, .int .i64 y, .int .i64 z] 61)
            have kg := grown_of_below kb (some g)
            exact hK.out _ _ ⟨by simpa using hsz, _, _, _, _, _, _, _, _, _, _, _, _, _, _, _, _, _, _, _, _, _, _, rfl, h0.kp kg hgl, grown_trans' h1 kg, Nat.le_trans h2 kg.size, h3.below kb, (n18.set_ne (by decide)).mono (fun h => h.below kb), l0.set_ne (by decide), (l1.set_ne (by decide)).mono (fun h => h.kp kg hgl), l2.set_ne (by decide), (l3.set_ne (by decide)).mono (fun h => h.kp kg hgl), (l4.set_ne (by decide)).mono (fun h => h.kp kg hgl), l5.set_ne (by decide), (l6.set_ne (by decide)).mono (fun h => h.kp kg hgl), (l7.set_ne (by decide)).mono (fun h => h.kp kg hgl), l8.set_ne (by decide), Lst.now (SV.one h2 rfl), (l10.set_ne (by decide)).mono (fun h => h.kp kg hgl), l11.set_ne (by decide), (l12.set_ne (by decide)).mono (fun h => h.kp kg hgl), (l13.set_ne (by decide)).mono (fun h => h.kp kg hgl), (l14.set_ne (by decide)).mono (fun h => h.kp kg hgl), (l15.set_ne (by decide)).mono (fun h => h.kp kg hgl), (l16.set_ne (by decide)).mono (fun h => h.kp kg hgl), l17.set_ne (by decide), l18.set_ne (by decide), (l19.set_ne (by decide)).mono (fun h => h.kp kg hgl), (l20.set_ne (by decide)).mono (fun h => h.kp kg hgl), (l21.set_ne (by decide)).mono (fun h => h.kp kg hgl)⟩
          refine StepsOK.cons (fun l a' w' K' hK hl hd hI => ?_) ?_
          · obtain ⟨hsz, hI⟩ := hI
            obtain ⟨u47, hI⟩ := hI
            obtain ⟨u48, hI⟩ := hI
            obtain ⟨u49, hI⟩ := hI
            obtain ⟨u50, hI⟩ := hI
            obtain ⟨u51, hI⟩ := hI
            obtain ⟨u52, hI⟩ := hI
            obtain ⟨u53, hI⟩ := hI
            obtain ⟨u54, hI⟩ := hI
            obtain ⟨u55, hI⟩ := hI
            obtain ⟨u56, hI⟩ := hI
            obtain ⟨u57, hI⟩ := hI
            obtain ⟨u58, hI⟩ := hI
            obtain ⟨u59, hI⟩ := hI
            obtain ⟨u60, hI⟩ := hI
            obtain ⟨u61, hI⟩ := hI
            obtain ⟨u62, hI⟩ := hI
            obtain ⟨u63, hI⟩ := hI
            obtain ⟨u64, hI⟩ := hI
            obtain ⟨u65, hI⟩ := hI
            obtain ⟨u66, hI⟩ := hI
            obtain ⟨u67, hI⟩ := hI
            obtain ⟨u68, hI⟩ := hI
            obtain ⟨ha, hI⟩ := hI
            obtain ⟨h0, hI⟩ := hI
            obtain ⟨h1, hI⟩ := hI
            obtain ⟨h2, hI⟩ := hI
            obtain ⟨h3, hI⟩ := hI
            obtain ⟨n18, hI⟩ := hI
            obtain ⟨l0, hI⟩ := hI
            obtain ⟨l1, hI⟩ := hI
            obtain ⟨l2, hI⟩ := hI
            obtain ⟨l3, hI⟩ := hI
            obtain ⟨l4, hI⟩ := hI
            obtain ⟨l5, hI⟩ := hI
            obtain ⟨l6, hI⟩ := hI
            obtain ⟨l7, hI⟩ := hI
            obtain ⟨l8, hI⟩ := hI
            obtain ⟨l9, hI⟩ := hI
            obtain ⟨l10, hI⟩ := hI
            obtain ⟨l11, hI⟩ := hI
            obtain ⟨l12, hI⟩ := hI
            obtain ⟨l13, hI⟩ := hI
            obtain ⟨l14, hI⟩ := hI
            obtain ⟨l15, hI⟩ := hI
            obtain ⟨l16, hI⟩ := hI
            obtain ⟨l17, hI⟩ := hI
            obtain ⟨l18, hI⟩ := hI
            obtain ⟨l19, hI⟩ := hI
            obtain ⟨l20, hI⟩ := hI
            have l21 := hI; clear hI
            subst ha
            have r9 := l9.on (hd 9 (by decide))
            clear hd
            obtain ⟨k, ts, A, c, rfl, ho, hk⟩ := r9
            simp only [over]
            go_simp
            exact hK.out _ _ ⟨by simpa using hsz, _, _, _, _, _, _, _, _, _, _, _, _, _, _, _, _, _, _, _, _, _, _, rfl, h0, h1, h2, h3, n18.set_ne (by decide), l0.set_ne (by decide), l1.set_ne (by decide), l2.set_ne (by decide), l3.set_ne (by decide), l4.set_ne (by decide), l5.set_ne (by decide), l6.set_ne (by decide), l7.set_ne (by decide), l8.set_ne (by decide), l9.set_ne (by decide), Lst.now ⟨0, _, rfl, k, ts, A, c, rfl, ho, hk⟩, l11.set_ne (by decide), l12.set_ne (by decide), l13.set_ne (by decide), l14.set_ne (by decide), l15.set_ne (by decide), l16.set_ne (by decide), l17.set_ne (by decide), l18.set_ne (by decide), l19.set_ne (by decide), l20.set_ne (by decide), l21.set_ne (by decide)⟩
          refine StepsOK.cons (fun l a' w' K' hK hl hd hI => ?_) ?_
          · obtain ⟨hsz, hI⟩ := hI
            obtain ⟨u47, hI⟩ := hI
            obtain ⟨u48, hI⟩ := hI
            obtain ⟨u49, hI⟩ := hI
            obtain ⟨u50, hI⟩ := hI
            obtain ⟨u51, hI⟩ := hI
            obtain ⟨u52, hI⟩ := hI
            obtain ⟨u53, hI⟩ := hI
            obtain ⟨u54, hI⟩ := hI
            obtain ⟨u55, hI⟩ := hI
            obtain ⟨u56, hI⟩ := hI
            obtain ⟨u57, hI⟩ := hI
            obtain ⟨u58, hI⟩ := hI
            obtain ⟨u59, hI⟩ := hI
            obtain ⟨u60, hI⟩ := hI
            obtain ⟨u61, hI⟩ := hI
            obtain ⟨u62, hI⟩ := hI
            obtain ⟨u63, hI⟩ := hI
            obtain ⟨u64, hI⟩ := hI
            obtain ⟨u65, hI⟩ := hI
            obtain ⟨u66, hI⟩ := hI
            obtain ⟨u67, hI⟩ := hI
            obtain ⟨u68, hI⟩ := hI
            obtain ⟨ha, hI⟩ := hI
            obtain ⟨h0, hI⟩ := hI
            obtain ⟨h1, hI⟩ := hI
            obtain ⟨h2, hI⟩ := hI
            obtain ⟨h3, hI⟩ := hI
            obtain ⟨n18, hI⟩ := hI
            obtain ⟨l0, hI⟩ := hI
            obtain ⟨l1, hI⟩ := hI
            obtain ⟨l2, hI⟩ := hI
            obtain ⟨l3, hI⟩ := hI
            obtain ⟨l4, hI⟩ := hI
            obtain ⟨l5, hI⟩ := hI
            obtain ⟨l6, hI⟩ := hI
            obtain ⟨l7, hI⟩ := hI
            obtain ⟨l8, hI⟩ := hI
            obtain ⟨l9, hI⟩ := hI
            obtain ⟨l10, hI⟩ := hI
            obtain ⟨l11, hI⟩ := hI
            obtain ⟨l12, hI⟩ := hI
            obtain ⟨l13, hI⟩ := hI
            obtain ⟨l14, hI⟩ := hI
            obtain ⟨l15, hI⟩ := hI
            obtain ⟨l16, hI⟩ := hI
            obtain ⟨l17, hI⟩ := hI
            obtain ⟨l18, hI⟩ := hI
            obtain ⟨l19, hI⟩ := hI
            obtain ⟨l20, hI⟩ := hI
            have l21 := hI; clear hI
            subst ha
            clear hd
            simp only [over]
            go_simp
            exact hK.out _ _ ⟨by simpa using hsz, _, _, _, _, _, _, _, _, _, _, _, _, _, _, _, _, _, _, _, _, _, _, rfl, h0, h1, h2, h3, n18.set_ne (by decide), l0.set_ne (by decide), l1.set_ne (by decide), l2.set_ne (by decide), l3.set_ne (by decide), l4.set_ne (by decide), l5.set_ne (by decide), l6.set_ne (by decide), l7.set_ne (by decide), l8.set_ne (by decide), l9.set_ne (by decide), l10.set_ne (by decide), Lst.now ⟨2, 0, 1, rfl⟩, l12.set_ne (by decide), l13.set_ne (by decide), l14.set_ne (by decide), l15.set_ne (by decide), l16.set_ne (by decide), l17.set_ne (by decide), l18.set_ne (by decide), l19.set_ne (by decide), l20.set_ne (by decide), l21.set_ne (by decide)⟩
          refine StepsOK.cons (fun l a' w' K' hK hl hd hI => ?_) ?_
          · obtain ⟨hsz, hI⟩ := hI
            obtain ⟨u47, hI⟩ := hI
            obtain ⟨u48, hI⟩ := hI
            obtain ⟨u49, hI⟩ := hI
            obtain ⟨u50, hI⟩ := hI
            obtain ⟨u51, hI⟩ := hI
            obtain ⟨u52, hI⟩ := hI
            obtain ⟨u53, hI⟩ := hI
            obtain ⟨u54, hI⟩ := hI
            obtain ⟨u55, hI⟩ := hI
            obtain ⟨u56, hI⟩ := hI
            obtain ⟨u57, hI⟩ := hI
            obtain ⟨u58, hI⟩ := hI
            obtain ⟨u59, hI⟩ := hI
            obtain ⟨u60, hI⟩ := hI
            obtain ⟨u61, hI⟩ := hI
            obtain ⟨u62, hI⟩ := hI
            obtain ⟨u63, hI⟩ := hI
            obtain ⟨u64, hI⟩ := hI
            obtain ⟨u65, hI⟩ := hI
            obtain ⟨u66, hI⟩ := hI
            obtain ⟨u67, hI⟩ := hI
            obtain ⟨u68, hI⟩ := hI
            obtain ⟨ha, hI⟩ := hI
            obtain ⟨h0, hI⟩ := hI
            obtain ⟨h1, hI⟩ := hI
            obtain ⟨h2, hI⟩ := hI
            obtain ⟨h3, hI⟩ := hI
            obtain ⟨n18, hI⟩ := hI
            obtain ⟨l0, hI⟩ := hI
            obtain ⟨l1, hI⟩ := hI
            obtain ⟨l2, hI⟩ := hI
            obtain ⟨l3, hI⟩ := hI
            obtain ⟨l4, hI⟩ := hI
            obtain ⟨l5, hI⟩ := hI
            obtain ⟨l6, hI⟩ := hI
            obtain ⟨l7, hI⟩ := hI
            obtain ⟨l8, hI⟩ := hI
            obtain ⟨l9, hI⟩ := hI
            obtain ⟨l10, hI⟩ := hI
            obtain ⟨l11, hI⟩ := hI
            obtain ⟨l12, hI⟩ := hI
            obtain ⟨l13, hI⟩ := hI
            obtain ⟨l14, hI⟩ := hI
            obtain ⟨l15, hI⟩ := hI
            obtain ⟨l16, hI⟩ := hI
            obtain ⟨l17, hI⟩ := hI
            obtain ⟨l18, hI⟩ := hI
            obtain ⟨l19, hI⟩ := hI
            obtain ⟨l20, hI⟩ := hI
            have l21 := hI; clear hI
            subst ha
            have r11 := l11.on (hd 11 (by decide))
            clear hd
            obtain ⟨x, y, z, rfl⟩ := r11
            simp only [over]
            go_simp
            have kb := beB0 w' (.cells #[.int .i64 x, .int .i64 y, .int .i64 z] 61)
            have kg := grown_of_below kb (some g)
            exact hK.out _ _ ⟨by simpa using hsz, _, _, _, _, _, _, _, _, _, _, _, _, _, _, _, _, _, _, _, _, _, _, rfl, h0.kp kg hgl, grown_trans' h1 kg, Nat.le_trans h2 kg.size, h3.below kb, (n18.set_ne (by decide)).mono (fun h => h.below kb), l0.set_ne (by decide), (l1.set_ne (by decide)).mono (fun h => h.kp kg hgl), l2.set_ne (by decide), (l3.set_ne (by decide)).mono (fun h => h.kp kg hgl), (l4.set_ne (by decide)).mono (fun h => h.kp kg hgl), l5.set_ne (by decide), (l6.set_ne (by decide)).mono (fun h => h.kp kg hgl), (l7.set_ne (by decide)).mono (fun h => h.kp kg hgl), l8.set_ne (by decide), (l9.set_ne (by decide)).mono (fun h => h.kp kg hgl), (l10.set_ne (by decide)).mono (fun h => h.kp kg hgl), l11.set_ne (by decide), Lst.now (SV.one h2 rfl), (l13.set_ne (by decide)).mono (fun h => h.kp kg hgl), (l14.set_ne (by decide)).mono (fun h => h.kp kg hgl), (l15.set_ne (by decide)).mono (fun h => h.kp kg hgl), (l16.set_ne (by decide)).mono (fun h => h.kp kg hgl), l17.set_ne (by decide), l18.set_ne (by decide), (l19.set_ne (by decide)).mono (fun h => h.kp kg hgl), (l20.set_ne (by decide)).mono (fun h => h.kp kg hgl), (l21.set_ne (by decide)).mono (fun h => h.kp kg hgl)⟩
          refine StepsOK.cons (fun l a' w' K' hK hl hd hI => ?_) ?_
          · obtain ⟨hsz, hI⟩ := hI
            obtain ⟨u47, hI⟩ := hI
            obtain ⟨u48, hI⟩ := hI
            obtain ⟨u49, hI⟩ := hI
            obtain ⟨u50, hI⟩ := hI
            obtain ⟨u51, hI⟩ := hI
            obtain ⟨u52, hI⟩ := hI
            obtain ⟨u53, hI⟩ := hI
            obtain ⟨u54, hI⟩ := hI
            obtain ⟨u55, hI⟩ := hI
            obtain ⟨u56, hI⟩ := hI
            obtain ⟨u57, hI⟩ := hI
            obtain ⟨u58, hI⟩ := hI
            obtain ⟨u59, hI⟩ := hI
            obtain ⟨u60, hI⟩ := hI
            obtain ⟨u61, hI⟩ := hI
            obtain ⟨u62, hI⟩ := hI
            obtain ⟨u63, hI⟩ := hI
            obtain ⟨u64, hI⟩ := hI
            obtain ⟨u65, hI⟩ := hI
            obtain ⟨u66, hI⟩ := hI
            obtain ⟨u67, hI⟩ := hI
            obtain ⟨u68, hI⟩ := hI
            obtain ⟨ha, hI⟩ := hI
            obtain ⟨h0, hI⟩ := hI
            obtain ⟨h1, hI⟩ := hI
            obtain ⟨h2, hI⟩ := hI
            obtain ⟨h3, hI⟩ := hI
            obtain ⟨n18, hI⟩ := hI
            obtain ⟨l0, hI⟩ := hI
            obtain ⟨l1, hI⟩ := hI
            obtain ⟨l2, hI⟩ := hI
            obtain ⟨l3, hI⟩ := hI
            obtain ⟨l4, hI⟩ := hI
            obtain ⟨l5, hI⟩ := hI
            obtain ⟨l6, hI⟩ := hI
            obtain ⟨l7, hI⟩ := hI
            obtain ⟨l8, hI⟩ := hI
            obtain ⟨l9, hI⟩ := hI
            obtain ⟨l10, hI⟩ := hI
            obtain ⟨l11, hI⟩ := hI
            obtain ⟨l12, hI⟩ := hI
            obtain ⟨l13, hI⟩ := hI
            obtain ⟨l14, hI⟩ := hI
            obtain ⟨l15, hI⟩ := hI
            obtain ⟨l16, hI⟩ := hI
            obtain ⟨l17, hI⟩ := hI
            obtain ⟨l18, hI⟩ := hI
            obtain ⟨l19, hI⟩ := hI
            obtain ⟨l20, hI⟩ := hI
            have l21 := hI; clear hI
            subst ha
            have r12 := l12.on (hd 12 (by decide))
            clear hd
            obtain ⟨k, ts, A, c, rfl, ho, hk⟩ := r12
            simp only [over]
            go_simp
            exact hK.out _ _ ⟨by simpa using hsz, _, _, _, _, _, _, _, _, _, _, _, _, _, _, _, _, _, _, _, _, _, _, rfl, h0, h1, h2, h3, n18.set_ne (by decide), l0.set_ne (by decide), l1.set_ne (by decide), l2.set_ne (by decide), l3.set_ne (by decide), l4.set_ne (by decide), l5.set_ne (by decide), l6.set_ne (by decide), l7.set_ne (by decide), l8.set_ne (by decide), l9.set_ne (by decide), l10.set_ne (by decide), l11.set_ne (by decide), l12.set_ne (by decide), Lst.now ⟨0, _, rfl, k, ts, A, c, rfl, ho, hk⟩, l14.set_ne (by decide), l15.set_ne (by decide), l16.set_ne (by decide), l17.set_ne (by decide), l18.set_ne (by decide), l19.set_ne (by decide), l20.set_ne (by decide), l21.set_ne (by decide)⟩
          refine StepsOK.cons (fun l a' w' K' hK hl hd hI => ?_) ?_
          · obtain ⟨hsz, hI⟩ := hI
            obtain ⟨u47, hI⟩ := hI
            obtain ⟨u48, hI⟩ := hI
            obtain ⟨u49, hI⟩ := hI
            obtain ⟨u50, hI⟩ := hI
            obtain ⟨u51, hI⟩ := hI
            obtain ⟨u52, hI⟩ := hI
            obtain ⟨u53, hI⟩ := hI
            obtain ⟨u54, hI⟩ := hI
            obtain ⟨u55, hI⟩ := hI
            obtain ⟨u56, hI⟩ := hI
            obtain ⟨u57, hI⟩ := hI
            obtain ⟨u58, hI⟩ := hI
            obtain ⟨u59, hI⟩ := hI
            obtain ⟨u60, hI⟩ := hI
            obtain ⟨u61, hI⟩ := hI
            obtain ⟨u62, hI⟩ := hI
            obtain ⟨u63, hI⟩ := hI
            obtain ⟨u64, hI⟩ := hI
            obtain ⟨u65, hI⟩ := hI
            obtain ⟨u66, hI⟩ := hI
            obtain ⟨u67, hI⟩ := hI
            obtain ⟨u68, hI⟩ := hI
            obtain ⟨ha, hI⟩ := hI
            obtain ⟨h0, hI⟩ := hI
            obtain ⟨h1, hI⟩ := hI
            obtain ⟨h2, hI⟩ := hI
            obtain ⟨h3, hI⟩ := hI
            obtain ⟨n18, hI⟩ := hI
            obtain ⟨l0, hI⟩ := hI
            obtain ⟨l1, hI⟩ := hI
            obtain ⟨l2, hI⟩ := hI
            obtain ⟨l3, hI⟩ := hI
            obtain ⟨l4, hI⟩ := hI
            obtain ⟨l5, hI⟩ := hI
            obtain ⟨l6, hI⟩ := hI
            obtain ⟨l7, hI⟩ := hI
            obtain ⟨l8, hI⟩ := hI
            obtain ⟨l9, hI⟩ := hI
            obtain ⟨l10, hI⟩ := hI
            obtain ⟨l11, hI⟩ := hI
            obtain ⟨l12, hI⟩ := hI
            obtain ⟨l13, hI⟩ := hI
            obtain ⟨l14, hI⟩ := hI
            obtain ⟨l15, hI⟩ := hI
            obtain ⟨l16, hI⟩ := hI
            obtain ⟨l17, hI⟩ := hI
            obtain ⟨l18, hI⟩ := hI
            obtain ⟨l19, hI⟩ := hI
            obtain ⟨l20, hI⟩ := hI
            have l21 := hI; clear hI
            subst ha
            clear hd
            have hmk := run_make_Op5
            simp only [over]
            go_simp
            have kb := beB0 w' (.cells ((List.replicate (5 * 3) (Value.int .i64 0)).toArray) 61)
            have kg := grown_of_below kb (some g)
            exact hK.out _ _ ⟨by simpa using hsz, _, _, _, _, _, _, _, _, _, _, _, _, _, _, _, _, _, _, _, _, _, _, rfl, h0.kp kg hgl, grown_trans' h1 kg, Nat.le_trans h2 kg.size, h3.below kb, (n18.set_ne (by decide)).mono (fun h => h.below kb), l0.set_ne (by decide), (l1.set_ne (by decide)).mono (fun h => h.kp kg hgl), l2.set_ne (by decide), (l3.set_ne (by decide)).mono (fun h => h.kp kg hgl), (l4.set_ne (by decide)).mono (fun h => h.kp kg hgl), l5.set_ne (by decide), (l6.set_ne (by decide)).mono (fun h => h.kp kg hgl), (l7.set_ne (by decide)).mono (fun h => h.kp kg hgl), l8.set_ne (by decide), (l9.set_ne (by decide)).mono (fun h => h.kp kg hgl), (l10.set_ne (by decide)).mono (fun h => h.kp kg hgl), l11.set_ne (by decide), (l12.set_ne (by decide)).mono (fun h => h.kp kg hgl), (l13.set_ne (by decide)).mono (fun h => h.kp kg hgl), Lst.now (SV.five h2), (l15.set_ne (by decide)).mono (fun h => h.kp kg hgl), (l16.set_ne (by decide)).mono (fun h => h.kp kg hgl), l17.set_ne (by decide), l18.set_ne (by decide), (l19.set_ne (by decide)).mono (fun h => h.kp kg hgl), (l20.set_ne (by decide)).mono (fun h => h.kp kg hgl), (l21.set_ne (by decide)).mono (fun h => h.kp kg hgl)⟩
          refine StepsOK.cons (fun l a' w' K' hK hl hd hI => ?_) ?_
          · obtain ⟨hsz, hI⟩ := hI
            obtain ⟨u47, hI⟩ := hI
            obtain ⟨u48, hI⟩ := hI
            obtain ⟨u49, hI⟩ := hI
            obtain ⟨u50, hI⟩ := hI
            obtain ⟨u51, hI⟩ := hI
            obtain ⟨u52, hI⟩ := hI
            obtain ⟨u53, hI⟩ := hI
            obtain ⟨u54, hI⟩ := hI
            obtain ⟨u55, hI⟩ := hI
            obtain ⟨u56, hI⟩ := hI
            obtain ⟨u57, hI⟩ := hI
            obtain ⟨u58, hI⟩ := hI
            obtain ⟨u59, hI⟩ := hI
            obtain ⟨u60, hI⟩ := hI
            obtain ⟨u61, hI⟩ := hI
            obtain ⟨u62, hI⟩ := hI
            obtain ⟨u63, hI⟩ := hI
            obtain ⟨u64, hI⟩ := hI
            obtain ⟨u65, hI⟩ := hI
            obtain ⟨u66, hI⟩ := hI
            obtain ⟨u67, hI⟩ := hI
            obtain ⟨u68, hI⟩ := hI
            obtain ⟨ha, hI⟩ := hI
            obtain ⟨h0, hI⟩ := hI
            obtain ⟨h1, hI⟩ := hI
            obtain ⟨h2, hI⟩ := hI
            obtain ⟨h3, hI⟩ := hI
            obtain ⟨n18, hI⟩ := hI
            obtain ⟨l0, hI⟩ := hI
            obtain ⟨l1, hI⟩ := hI
            obtain ⟨l2, hI⟩ := hI
            obtain ⟨l3, hI⟩ := hI
            obtain ⟨l4, hI⟩ := hI
            obtain ⟨l5, hI⟩ := hI
            obtain ⟨l6, hI⟩ := hI
            obtain ⟨l7, hI⟩ := hI
            obtain ⟨l8, hI⟩ := hI
            obtain ⟨l9, hI⟩ := hI
            obtain ⟨l10, hI⟩ := hI
            obtain ⟨l11, hI⟩ := hI
            obtain ⟨l12, hI⟩ := hI
            obtain ⟨l13, hI⟩ := hI
            obtain ⟨l14, hI⟩ := hI
            obtain ⟨l15, hI⟩ := hI
            obtain ⟨l16, hI⟩ := hI
            obtain ⟨l17, hI⟩ := hI
            obtain ⟨l18, hI⟩ := hI
            obtain ⟨l19, hI⟩ := hI
            obtain ⟨l20, hI⟩ := hI
            have l21 := hI; clear hI
            subst ha
            have r14 := l14.on (hd 14 (by decide))
            clear hd
            obtain ⟨k, ts, A, c, rfl, ho, hk⟩ := r14
            simp only [over]
            go_simp
            exact hK.out _ _ ⟨by simpa using hsz, _, _, _, _, _, _, _, _, _, _, _, _, _, _, _, _, _, _, _, _, _, _, rfl, h0, h1, h2, h3, n18.set_ne (by decide), l0.set_ne (by decide), l1.set_ne (by decide), l2.set_ne (by decide), l3.set_ne (by decide), l4.set_ne (by decide), l5.set_ne (by decide), l6.set_ne (by decide), l7.set_ne (by decide), l8.set_ne (by decide), l9.set_ne (by decide), l10.set_ne (by decide), l11.set_ne (by decide), l12.set_ne (by decide), l13.set_ne (by decide), l14.set_ne (by decide), Lst.now ⟨0, _, rfl, k, ts, A, c, rfl, ho, hk⟩, l16.set_ne (by decide), l17.set_ne (by decide), l18.set_ne (by decide), l19.set_ne (by decide), l20.set_ne (by decide), l21.set_ne (by decide)⟩
          refine StepsOK.cons (fun l a' w' K' hK hl hd hI => ?_) ?_
          · obtain ⟨hsz, hI⟩ := hI
            obtain ⟨u47, hI⟩ := hI
            obtain ⟨u48, hI⟩ := hI
            obtain ⟨u49, hI⟩ := hI
            obtain ⟨u50, hI⟩ := hI
            obtain ⟨u51, hI⟩ := hI
            obtain ⟨u52, hI⟩ := hI
            obtain ⟨u53, hI⟩ := hI
            obtain ⟨u54, hI⟩ := hI
            obtain ⟨u55, hI⟩ := hI
            obtain ⟨u56, hI⟩ := hI
            obtain ⟨u57, hI⟩ := hI
            obtain ⟨u58, hI⟩ := hI
            obtain ⟨u59, hI⟩ := hI
            obtain ⟨u60, hI⟩ := hI
            obtain ⟨u61, hI⟩ := hI
            obtain ⟨u62, hI⟩ := hI
            obtain ⟨u63, hI⟩ := hI
            obtain ⟨u64, hI⟩ := hI
            obtain ⟨u65, hI⟩ := hI
            obtain ⟨u66, hI⟩ := hI
            obtain ⟨u67, hI⟩ := hI
            obtain ⟨u68, hI⟩ := hI
            obtain ⟨ha, hI⟩ := hI
            obtain ⟨h0, hI⟩ := hI
            obtain ⟨h1, hI⟩ := hI
            obtain ⟨h2, hI⟩ := hI
            obtain ⟨h3, hI⟩ := hI
            obtain ⟨n18, hI⟩ := hI
            obtain ⟨l0, hI⟩ := hI
            obtain ⟨l1, hI⟩ := hI
            obtain ⟨l2, hI⟩ := hI
            obtain ⟨l3, hI⟩ := hI
            obtain ⟨l4, hI⟩ := hI
            obtain ⟨l5, hI⟩ := hI
            obtain ⟨l6, hI⟩ := hI
            obtain ⟨l7, hI⟩ := hI
            obtain ⟨l8, hI⟩ := hI
            obtain ⟨l9, hI⟩ := hI
            obtain ⟨l10, hI⟩ := hI
            obtain ⟨l11, hI⟩ := hI
            obtain ⟨l12, hI⟩ := hI
            obtain ⟨l13, hI⟩ := hI
            obtain ⟨l14, hI⟩ := hI
            obtain ⟨l15, hI⟩ := hI
            obtain ⟨l16, hI⟩ := hI
            obtain ⟨l17, hI⟩ := hI
            obtain ⟨l18, hI⟩ := hI
            obtain ⟨l19, hI⟩ := hI
            obtain ⟨l20, hI⟩ := hI
            have l21 := hI; clear hI
            subst ha
            have r1 := l1.on (hd 1 (by decide))
            have r4 := l4.on (hd 4 (by decide))
            have r7 := l7.on (hd 7 (by decide))
            have r10 := l10.on (hd 10 (by decide))
            have r13 := l13.on (hd 13 (by decide))
            have r15 := l15.on (hd 15 (by decide))
            clear hd
            obtain ⟨f0, q0, rfl, k0, ts0, A0, c0, rfl, o0, hk0⟩ := r1
            obtain ⟨f1, q1, rfl, k1, ts1, A1, c1, rfl, o1, hk1⟩ := r4
            obtain ⟨f2, q2, rfl, k2, ts2, A2, c2, rfl, o2, hk2⟩ := r7
            obtain ⟨f3, q3, rfl, k3, ts3, A3, c3, rfl, o3, hk3⟩ := r10
            obtain ⟨f4, q4, rfl, k4, ts4, A4, c4, rfl, o4, hk4⟩ := r13
            obtain ⟨f5, q5, rfl, k5, ts5, A5, c5, rfl, o5, hk5⟩ := r15
            simp only [over]
            go_simp
            have kb := beB0 w' (.cells #[.int .i64 f0, .slice A0 k0 c0, .int .i64 f1, .slice A1 k1 c1, .int .i64 f2, .slice A2 k2 c2, .int .i64 f3, .slice A3 k3 c3, .int .i64 f4, .slice A4 k4 c4, .int .i64 f5, .slice A5 k5 c5] 77)
            have kg := grown_of_below kb (some g)
            exact hK.out _ _ ⟨by simpa using hsz, _, _, _, _, _, _, _, _, _, _, _, _, _, _, _, _, _, _, _, _, _, _, rfl, h0.kp kg hgl, grown_trans' h1 kg, Nat.le_trans h2 kg.size, h3.below kb, (n18.set_ne (by decide)).mono (fun h => h.below kb), l0.set_ne (by decide), (l1.set_ne (by decide)).mono (fun h => h.kp kg hgl), l2.set_ne (by decide), (l3.set_ne (by decide)).mono (fun h => h.kp kg hgl), (l4.set_ne (by decide)).mono (fun h => h.kp kg hgl), l5.set_ne (by decide), (l6.set_ne (by decide)).mono (fun h => h.kp kg hgl), (l7.set_ne (by decide)).mono (fun h => h.kp kg hgl), l8.set_ne (by decide), (l9.set_ne (by decide)).mono (fun h => h.kp kg hgl), (l10.set_ne (by decide)).mono (fun h => h.kp kg hgl), l11.set_ne (by decide), (l12.set_ne (by decide)).mono (fun h => h.kp kg hgl), (l13.set_ne (by decide)).mono (fun h => h.kp kg hgl), (l14.set_ne (by decide)).mono (fun h => h.kp kg hgl), (l15.set_ne (by decide)).mono (fun h => h.kp kg hgl), Lst.now (TV.new h2 kg hgl ⟨_, _, _, _, rfl, o0, hk0⟩ ⟨_, _, _, _, rfl, o1, hk1⟩ ⟨_, _, _, _, rfl, o2, hk2⟩ ⟨_, _, _, _, rfl, o3, hk3⟩ ⟨_, _, _, _, rfl, o4, hk4⟩ ⟨_, _, _, _, rfl, o5, hk5⟩), l17.set_ne (by decide), l18.set_ne (by decide), (l19.set_ne (by decide)).mono (fun h => h.kp kg hgl), (l20.set_ne (by decide)).mono (fun h => h.kp kg hgl), (l21.set_ne (by decide)).mono (fun h => h.kp kg hgl)⟩
          refine StepsOK.cons (fun l a' w' K' hK hl hd hI => ?_) ?_
          · obtain ⟨hsz, hI⟩ := hI
            obtain ⟨u47, hI⟩ := hI
            obtain ⟨u48, hI⟩ := hI
            obtain ⟨u49, hI⟩ := hI
            obtain ⟨u50, hI⟩ := hI
            obtain ⟨u51, hI⟩ := hI
            obtain ⟨u52, hI⟩ := hI
            obtain ⟨u53, hI⟩ := hI
            obtain ⟨u54, hI⟩ := hI
            obtain ⟨u55, hI⟩ := hI
            obtain ⟨u56, hI⟩ := hI
            obtain ⟨u57, hI⟩ := hI
            obtain ⟨u58, hI⟩ := hI
            obtain ⟨u59, hI⟩ := hI
            obtain ⟨u60, hI⟩ := hI
            obtain ⟨u61, hI⟩ := hI
            obtain ⟨u62, hI⟩ := hI
            obtain ⟨u63, hI⟩ := hI
            obtain ⟨u64, hI⟩ := hI
            obtain ⟨u65, hI⟩ := hI
            obtain ⟨u66, hI⟩ := hI
            obtain ⟨u67, hI⟩ := hI
            obtain ⟨u68, hI⟩ := hI
            obtain ⟨ha, hI⟩ := hI
            obtain ⟨h0, hI⟩ := hI
            obtain ⟨h1, hI⟩ := hI
            obtain ⟨h2, hI⟩ := hI
            obtain ⟨h3, hI⟩ := hI
            obtain ⟨n18, hI⟩ := hI
            obtain ⟨l0, hI⟩ := hI
            obtain ⟨l1, hI⟩ := hI
            obtain ⟨l2, hI⟩ := hI
            obtain ⟨l3, hI⟩ := hI
            obtain ⟨l4, hI⟩ := hI
            obtain ⟨l5, hI⟩ := hI
            obtain ⟨l6, hI⟩ := hI
            obtain ⟨l7, hI⟩ := hI
            obtain ⟨l8, hI⟩ := hI
            obtain ⟨l9, hI⟩ := hI
            obtain ⟨l10, hI⟩ := hI
            obtain ⟨l11, hI⟩ := hI
            obtain ⟨l12, hI⟩ := hI
            obtain ⟨l13, hI⟩ := hI
            obtain ⟨l14, hI⟩ := hI
            obtain ⟨l15, hI⟩ := hI
            obtain ⟨l16, hI⟩ := hI
            obtain ⟨l17, hI⟩ := hI
            obtain ⟨l18, hI⟩ := hI
            obtain ⟨l19, hI⟩ := hI
            obtain ⟨l20, hI⟩ := hI
            have l21 := hI; clear hI
            subst ha
            clear hd
            simp only [over]
            go_simp
            exact hK.out _ _ ⟨by simpa using hsz, _, _, _, _, _, _, _, _, _, _, _, _, _, _, _, _, _, _, _, _, _, _, rfl, h0, h1, h2, h3, n18.set_ne (by decide), l0.set_ne (by decide), l1.set_ne (by decide), l2.set_ne (by decide), l3.set_ne (by decide), l4.set_ne (by decide), l5.set_ne (by decide), l6.set_ne (by decide), l7.set_ne (by decide), l8.set_ne (by decide), l9.set_ne (by decide), l10.set_ne (by decide), l11.set_ne (by decide), l12.set_ne (by decide), l13.set_ne (by decide), l14.set_ne (by decide), l15.set_ne (by decide), l16.set_ne (by decide), Lst.now rfl, l18.set_ne (by decide), l19.set_ne (by decide), l20.set_ne (by decide), l21.set_ne (by decide)⟩
          refine StepsOK.cons (fun l a' w' K' hK hl hd hI => ?_) ?_
          · obtain ⟨hsz, hI⟩ := hI
            obtain ⟨u47, hI⟩ := hI
            obtain ⟨u48, hI⟩ := hI
            obtain ⟨u49, hI⟩ := hI
            obtain ⟨u50, hI⟩ := hI
            obtain ⟨u51, hI⟩ := hI
            obtain ⟨u52, hI⟩ := hI
            obtain ⟨u53, hI⟩ := hI
            obtain ⟨u54, hI⟩ := hI
            obtain ⟨u55, hI⟩ := hI
            obtain ⟨u56, hI⟩ := hI
            obtain ⟨u57, hI⟩ := hI
            obtain ⟨u58, hI⟩ := hI
            obtain ⟨u59, hI⟩ := hI
            obtain ⟨u60, hI⟩ := hI
            obtain ⟨u61, hI⟩ := hI
            obtain ⟨u62, hI⟩ := hI
            obtain ⟨u63, hI⟩ := hI
            obtain ⟨u64, hI⟩ := hI
            obtain ⟨u65, hI⟩ := hI
            obtain ⟨u66, hI⟩ := hI
            obtain ⟨u67, hI⟩ := hI
            obtain ⟨u68, hI⟩ := hI
            obtain ⟨ha, hI⟩ := hI
            obtain ⟨h0, hI⟩ := hI
            obtain ⟨h1, hI⟩ := hI
            obtain ⟨h2, hI⟩ := hI
            obtain ⟨h3, hI⟩ := hI
            obtain ⟨n18, hI⟩ := hI
            obtain ⟨l0, hI⟩ := hI
            obtain ⟨l1, hI⟩ := hI
            obtain ⟨l2, hI⟩ := hI
            obtain ⟨l3, hI⟩ := hI
            obtain ⟨l4, hI⟩ := hI
            obtain ⟨l5, hI⟩ := hI
            obtain ⟨l6, hI⟩ := hI
            obtain ⟨l7, hI⟩ := hI
            obtain ⟨l8, hI⟩ := hI
            obtain ⟨l9, hI⟩ := hI
            obtain ⟨l10, hI⟩ := hI
            obtain ⟨l11, hI⟩ := hI
            obtain ⟨l12, hI⟩ := hI
            obtain ⟨l13, hI⟩ := hI
            obtain ⟨l14, hI⟩ := hI
            obtain ⟨l15, hI⟩ := hI
            obtain ⟨l16, hI⟩ := hI
            obtain ⟨l17, hI⟩ := hI
            obtain ⟨l18, hI⟩ := hI
            obtain ⟨l19, hI⟩ := hI
            obtain ⟨l20, hI⟩ := hI
            have l21 := hI; clear hI
            subst ha
            have r17 := l17.on (hd 17 (by decide))
            clear hd
            subst r17
            simp only [over]
            go_simp
            go_at_call 140
            refine (pick_c (n18.on hl) (by omega) (by omega) (by omega)).mono ?_
            rintro e w9 ⟨x, rfl, x0, x1, r9, g9⟩
            go_simp
            have kg := g9
            exact hK.out _ _ ⟨by simpa using hsz, _, _, _, _, _, _, _, _, _, _, _, _, _, _, _, _, _, _, _, _, _, _, rfl, h0.kp kg hgl, grown_trans' h1 kg, Nat.le_trans h2 kg.size, r9, Nst.gone hl, l0.set_ne (by decide), (l1.set_ne (by decide)).mono (fun h => h.kp kg hgl), l2.set_ne (by decide), (l3.set_ne (by decide)).mono (fun h => h.kp kg hgl), (l4.set_ne (by decide)).mono (fun h => h.kp kg hgl), l5.set_ne (by decide), (l6.set_ne (by decide)).mono (fun h => h.kp kg hgl), (l7.set_ne (by decide)).mono (fun h => h.kp kg hgl), l8.set_ne (by decide), (l9.set_ne (by decide)).mono (fun h => h.kp kg hgl), (l10.set_ne (by decide)).mono (fun h => h.kp kg hgl), l11.set_ne (by decide), (l12.set_ne (by decide)).mono (fun h => h.kp kg hgl), (l13.set_ne (by decide)).mono (fun h => h.kp kg hgl), (l14.set_ne (by decide)).mono (fun h => h.kp kg hgl), (l15.set_ne (by decide)).mono (fun h => h.kp kg hgl), (l16.set_ne (by decide)).mono (fun h => h.kp kg hgl), l17.set_ne (by decide), Lst.now ⟨x.toNat, by rw [Int.toNat_of_nonneg x0], by omega⟩, (l19.set_ne (by decide)).mono (fun h => h.kp kg hgl), (l20.set_ne (by decide)).mono (fun h => h.kp kg hgl), (l21.set_ne (by decide)).mono (fun h => h.kp kg hgl)⟩
          refine StepsOK.cons (fun l a' w' K' hK hl hd hI => ?_) ?_
          · obtain ⟨hsz, hI⟩ := hI
            obtain ⟨u47, hI⟩ := hI
            obtain ⟨u48, hI⟩ := hI
            obtain ⟨u49, hI⟩ := hI
            obtain ⟨u50, hI⟩ := hI
            obtain ⟨u51, hI⟩ := hI
            obtain ⟨u52, hI⟩ := hI
            obtain ⟨u53, hI⟩ := hI
            obtain ⟨u54, hI⟩ := hI
            obtain ⟨u55, hI⟩ := hI
            obtain ⟨u56, hI⟩ := hI
            obtain ⟨u57, hI⟩ := hI
            obtain ⟨u58, hI⟩ := hI
            obtain ⟨u59, hI⟩ := hI
            obtain ⟨u60, hI⟩ := hI
            obtain ⟨u61, hI⟩ := hI
            obtain ⟨u62, hI⟩ := hI
            obtain ⟨u63, hI⟩ := hI
            obtain ⟨u64, hI⟩ := hI
            obtain ⟨u65, hI⟩ := hI
            obtain ⟨u66, hI⟩ := hI
            obtain ⟨u67, hI⟩ := hI
            obtain ⟨u68, hI⟩ := hI
            obtain ⟨ha, hI⟩ := hI
            obtain ⟨h0, hI⟩ := hI
            obtain ⟨h1, hI⟩ := hI
            obtain ⟨h2, hI⟩ := hI
            obtain ⟨h3, hI⟩ := hI
            obtain ⟨n18, hI⟩ := hI
            obtain ⟨l0, hI⟩ := hI
            obtain ⟨l1, hI⟩ := hI
            obtain ⟨l2, hI⟩ := hI
            obtain ⟨l3, hI⟩ := hI
            obtain ⟨l4, hI⟩ := hI
            obtain ⟨l5, hI⟩ := hI
            obtain ⟨l6, hI⟩ := hI
            obtain ⟨l7, hI⟩ := hI
            obtain ⟨l8, hI⟩ := hI
            obtain ⟨l9, hI⟩ := hI
            obtain ⟨l10, hI⟩ := hI
            obtain ⟨l11, hI⟩ := hI
            obtain ⟨l12, hI⟩ := hI
            obtain ⟨l13, hI⟩ := hI
            obtain ⟨l14, hI⟩ := hI
            obtain ⟨l15, hI⟩ := hI
            obtain ⟨l16, hI⟩ := hI
            obtain ⟨l17, hI⟩ := hI
            obtain ⟨l18, hI⟩ := hI
            obtain ⟨l19, hI⟩ := hI
            obtain ⟨l20, hI⟩ := hI
            have l21 := hI; clear hI
            subst ha
            have r16 := l16.on (hd 16 (by decide))
            have r18 := l18.on (hd 18 (by decide))
            clear hd
            obtain ⟨b, rfl, hb, hs, hc⟩ := r16
            obtain ⟨x, rfl, hx⟩ := r18
            have x0 : (0 : Int) ≤ x := by omega
            have x1 : (x : Int) < 6 := by omega
            simp only [over]
            go_simp
            exact hK.out _ _ ⟨by simpa using hsz, _, _, _, _, _, _, _, _, _, _, _, _, _, _, _, _, _, _, _, _, _, _, rfl, h0, h1, h2, h3, n18.set_ne (by decide), l0.set_ne (by decide), l1.set_ne (by decide), l2.set_ne (by decide), l3.set_ne (by decide), l4.set_ne (by decide), l5.set_ne (by decide), l6.set_ne (by decide), l7.set_ne (by decide), l8.set_ne (by decide), l9.set_ne (by decide), l10.set_ne (by decide), l11.set_ne (by decide), l12.set_ne (by decide), l13.set_ne (by decide), l14.set_ne (by decide), l15.set_ne (by decide), l16.set_ne (by decide), l17.set_ne (by decide), l18.set_ne (by decide), Lst.now ⟨b, x, by simp, hb, hs, hc x hx⟩, l20.set_ne (by decide), l21.set_ne (by decide)⟩
          refine StepsOK.cons (fun l a' w' K' hK hl hd hI => ?_) ?_
          · obtain ⟨hsz, hI⟩ := hI
            obtain ⟨u47, hI⟩ := hI
            obtain ⟨u48, hI⟩ := hI
            obtain ⟨u49, hI⟩ := hI
            obtain ⟨u50, hI⟩ := hI
            obtain ⟨u51, hI⟩ := hI
            obtain ⟨u52, hI⟩ := hI
            obtain ⟨u53, hI⟩ := hI
            obtain ⟨u54, hI⟩ := hI
            obtain ⟨u55, hI⟩ := hI
            obtain ⟨u56, hI⟩ := hI
            obtain ⟨u57, hI⟩ := hI
            obtain ⟨u58, hI⟩ := hI
            obtain ⟨u59, hI⟩ := hI
            obtain ⟨u60, hI⟩ := hI
            obtain ⟨u61, hI⟩ := hI
            obtain ⟨u62, hI⟩ := hI
            obtain ⟨u63, hI⟩ := hI
            obtain ⟨u64, hI⟩ := hI
            obtain ⟨u65, hI⟩ := hI
            obtain ⟨u66, hI⟩ := hI
            obtain ⟨u67, hI⟩ := hI
            obtain ⟨u68, hI⟩ := hI
            obtain ⟨ha, hI⟩ := hI
            obtain ⟨h0, hI⟩ := hI
            obtain ⟨h1, hI⟩ := hI
            obtain ⟨h2, hI⟩ := hI
            obtain ⟨h3, hI⟩ := hI
            obtain ⟨n18, hI⟩ := hI
            obtain ⟨l0, hI⟩ := hI
            obtain ⟨l1, hI⟩ := hI
            obtain ⟨l2, hI⟩ := hI
            obtain ⟨l3, hI⟩ := hI
            obtain ⟨l4, hI⟩ := hI
            obtain ⟨l5, hI⟩ := hI
            obtain ⟨l6, hI⟩ := hI
            obtain ⟨l7, hI⟩ := hI
            obtain ⟨l8, hI⟩ := hI
            obtain ⟨l9, hI⟩ := hI
            obtain ⟨l10, hI⟩ := hI
            obtain ⟨l11, hI⟩ := hI
            obtain ⟨l12, hI⟩ := hI
            obtain ⟨l13, hI⟩ := hI
            obtain ⟨l14, hI⟩ := hI
            obtain ⟨l15, hI⟩ := hI
            obtain ⟨l16, hI⟩ := hI
            obtain ⟨l17, hI⟩ := hI
            obtain ⟨l18, hI⟩ := hI
            obtain ⟨l19, hI⟩ := hI
            obtain ⟨l20, hI⟩ := hI
            have l21 := hI; clear hI
            subst ha
            have r19 := l19.on (hd 19 (by decide))
            clear hd
            obtain ⟨b, i, rfl, hb, hs, f, q, c0, c1, k, ts, A, c, rfl, ho, hk⟩ := r19
            simp only [over]
            go_simp
            exact hK.out _ _ ⟨by simpa using hsz, _, _, _, _, _, _, _, _, _, _, _, _, _, _, _, _, _, _, _, _, _, _, rfl, h0, h1, h2, h3, n18.set_ne (by decide), l0.set_ne (by decide), l1.set_ne (by decide), l2.set_ne (by decide), l3.set_ne (by decide), l4.set_ne (by decide), l5.set_ne (by decide), l6.set_ne (by decide), l7.set_ne (by decide), l8.set_ne (by decide), l9.set_ne (by decide), l10.set_ne (by decide), l11.set_ne (by decide), l12.set_ne (by decide), l13.set_ne (by decide), l14.set_ne (by decide), l15.set_ne (by decide), l16.set_ne (by decide), l17.set_ne (by decide), l18.set_ne (by decide), l19.set_ne (by decide), Lst.now ⟨f, _, rfl, k, ts, A, c, rfl, ho, hk⟩, l21.set_ne (by decide)⟩
          refine StepsOK.cons (fun l a' w' K' hK hl hd hI => ?_) ?_
          · obtain ⟨hsz, hI⟩ := hI
            obtain ⟨u47, hI⟩ := hI
            obtain ⟨u48, hI⟩ := hI
            obtain ⟨u49, hI⟩ := hI
            obtain ⟨u50, hI⟩ := hI
            obtain ⟨u51, hI⟩ := hI
            obtain ⟨u52, hI⟩ := hI
            obtain ⟨u53, hI⟩ := hI
            obtain ⟨u54, hI⟩ := hI
            obtain ⟨u55, hI⟩ := hI
            obtain ⟨u56, hI⟩ := hI
            obtain ⟨u57, hI⟩ := hI
            obtain ⟨u58, hI⟩ := hI
            obtain ⟨u59, hI⟩ := hI
            obtain ⟨u60, hI⟩ := hI
            obtain ⟨u61, hI⟩ := hI
            obtain ⟨u62, hI⟩ := hI
            obtain ⟨u63, hI⟩ := hI
            obtain ⟨u64, hI⟩ := hI
            obtain ⟨u65, hI⟩ := hI
            obtain ⟨u66, hI⟩ := hI
            obtain ⟨u67, hI⟩ := hI
            obtain ⟨u68, hI⟩ := hI
            obtain ⟨ha, hI⟩ := hI
            obtain ⟨h0, hI⟩ := hI
            obtain ⟨h1, hI⟩ := hI
            obtain ⟨h2, hI⟩ := hI
            obtain ⟨h3, hI⟩ := hI
            obtain ⟨n18, hI⟩ := hI
            obtain ⟨l0, hI⟩ := hI
            obtain ⟨l1, hI⟩ := hI
            obtain ⟨l2, hI⟩ := hI
            obtain ⟨l3, hI⟩ := hI
            obtain ⟨l4, hI⟩ := hI
            obtain ⟨l5, hI⟩ := hI
            obtain ⟨l6, hI⟩ := hI
            obtain ⟨l7, hI⟩ := hI
            obtain ⟨l8, hI⟩ := hI
            obtain ⟨l9, hI⟩ := hI
            obtain ⟨l10, hI⟩ := hI
            obtain ⟨l11, hI⟩ := hI
            obtain ⟨l12, hI⟩ := hI
            obtain ⟨l13, hI⟩ := hI
            obtain ⟨l14, hI⟩ := hI
            obtain ⟨l15, hI⟩ := hI
            obtain ⟨l16, hI⟩ := hI
            obtain ⟨l17, hI⟩ := hI
            obtain ⟨l18, hI⟩ := hI
            obtain ⟨l19, hI⟩ := hI
            obtain ⟨l20, hI⟩ := hI
            have l21 := hI; clear hI
            subst ha
            have r20 := l20.on (hd 20 (by decide))
            clear hd
            obtain ⟨f, q, rfl, k, ts, A, c, rfl, ho, hk⟩ := r20
            simp only [over]
            go_simp
            have kb := beB0 w' (.cells #[.int .i64 f, .slice A k c] 77)
            have kg := grown_of_below kb (some g)
            exact hK.out _ _ ⟨by simpa using hsz, _, _, _, _, _, _, _, _, _, _, _, _, _, _, _, _, _, _, _, _, _, _, rfl, h0.kp kg hgl, grown_trans' h1 kg, Nat.le_trans h2 kg.size, h3.below kb, (n18.set_ne (by decide)).mono (fun h => h.below kb), l0.set_ne (by decide), (l1.set_ne (by decide)).mono (fun h => h.kp kg hgl), l2.set_ne (by decide), (l3.set_ne (by decide)).mono (fun h => h.kp kg hgl), (l4.set_ne (by decide)).mono (fun h => h.kp kg hgl), l5.set_ne (by decide), (l6.set_ne (by decide)).mono (fun h => h.kp kg hgl), (l7.set_ne (by decide)).mono (fun h => h.kp kg hgl), l8.set_ne (by decide), (l9.set_ne (by decide)).mono (fun h => h.kp kg hgl), (l10.set_ne (by decide)).mono (fun h => h.kp kg hgl), l11.set_ne (by decide), (l12.set_ne (by decide)).mono (fun h => h.kp kg hgl), (l13.set_ne (by decide)).mono (fun h => h.kp kg hgl), (l14.set_ne (by decide)).mono (fun h => h.kp kg hgl), (l15.set_ne (by decide)).mono (fun h => h.kp kg hgl), (l16.set_ne (by decide)).mono (fun h => h.kp kg hgl), l17.set_ne (by decide), l18.set_ne (by decide), (l19.set_ne (by decide)).mono (fun h => h.kp kg hgl), (l20.set_ne (by decide)).mono (fun h => h.kp kg hgl), Lst.now ⟨_, f, _, rfl, h2, Blk.new _ _ _, (SV.kp ⟨k, ts, A, c, rfl, ho, hk⟩ kg hgl)⟩⟩
          exact StepsOK.nil
        case fin =>
          intro a' w' hI
          obtain ⟨hsz, hI⟩ := hI
          obtain ⟨u47, hI⟩ := hI
          obtain ⟨u48, hI⟩ := hI
          obtain ⟨u49, hI⟩ := hI
          obtain ⟨u50, hI⟩ := hI
          obtain ⟨u51, hI⟩ := hI
          obtain ⟨u52, hI⟩ := hI
          obtain ⟨u53, hI⟩ := hI
          obtain ⟨u54, hI⟩ := hI
          obtain ⟨u55, hI⟩ := hI
          obtain ⟨u56, hI⟩ := hI
          obtain ⟨u57, hI⟩ := hI
          obtain ⟨u58, hI⟩ := hI
          obtain ⟨u59, hI⟩ := hI
          obtain ⟨u60, hI⟩ := hI
          obtain ⟨u61, hI⟩ := hI
          obtain ⟨u62, hI⟩ := hI
          obtain ⟨u63, hI⟩ := hI
          obtain ⟨u64, hI⟩ := hI
          obtain ⟨u65, hI⟩ := hI
          obtain ⟨u66, hI⟩ := hI
          obtain ⟨u67, hI⟩ := hI
          obtain ⟨u68, hI⟩ := hI
          obtain ⟨ha, hI⟩ := hI
          obtain ⟨h0, hI⟩ := hI
          obtain ⟨h1, hI⟩ := hI
          obtain ⟨h2, hI⟩ := hI
          obtain ⟨h3, hI⟩ := hI
          obtain ⟨n18, hI⟩ := hI
          obtain ⟨l0, hI⟩ := hI
          obtain ⟨l1, hI⟩ := hI
          obtain ⟨l2, hI⟩ := hI
          obtain ⟨l3, hI⟩ := hI
          obtain ⟨l4, hI⟩ := hI
          obtain ⟨l5, hI⟩ := hI
          obtain ⟨l6, hI⟩ := hI
          obtain ⟨l7, hI⟩ := hI
          obtain ⟨l8, hI⟩ := hI
          obtain ⟨l9, hI⟩ := hI
          obtain ⟨l10, hI⟩ := hI
          obtain ⟨l11, hI⟩ := hI
          obtain ⟨l12, hI⟩ := hI
          obtain ⟨l13, hI⟩ := hI
          obtain ⟨l14, hI⟩ := hI
          obtain ⟨l15, hI⟩ := hI
          obtain ⟨l16, hI⟩ := hI
          obtain ⟨l17, hI⟩ := hI
          obtain ⟨l18, hI⟩ := hI
          obtain ⟨l19, hI⟩ := hI
          obtain ⟨l20, hI⟩ := hI
          have l21 := hI; clear hI
          subst ha
          obtain ⟨b, f, q, rfl, hb, hK, hq⟩ := l21.on rfl
          obtain rfl := l0.on rfl
          obtain ⟨kq, tq, Aq, cq, rfl, hoq, hkq⟩ := hq
          obtain ⟨es, ds, hD, hs, hd⟩ := h0
          have hDR := hD.row
          clear l0 l1 l2 l3 l4 l5 l6 l7 l8 l9 l10 l11 l12 l13 l14 l15 l16 l17 l18 l19 l20 l21 n18
          simp only [over]
          refine wpAny_ready (rs := [22]) (by kernel_rfl) (by simp) ?_
          refine AllReady.cons (by rw [List.getElem?_toArray]; exact rfl) (fun K hK1 => ?_) AllReady.nil
          refine step_appD (by rfl) (.tmp 47) (.tmp 68) (by rfl) (by rfl) hDR (by rfl) hK rfl (by omega) (by omega) ?_
          intro v' w9 hr9 hg9 hat9
          refine hK1 _ _ ?_
          simp only [Act.put, List.setIfInBounds_toArray, List.set_cons_zero, List.set_cons_succ]
          refine wpAny_ready (rs := [23]) (by kernel_rfl) (by simp) ?_
          refine AllReady.cons (by rw [List.getElem?_toArray]; exact rfl) (fun K2 hK2 => ?_) AllReady.nil
          go_simp
          refine hK2 _ _ ?_
          refine wpAny_done (by kernel_rfl) ?_ _
          have hOUT := OutV.push' hD hs hd ⟨kq, tq, Aq, cq, rfl, hoq, hkq⟩ (by omega) hg9 hr9
          have hRD := h3.grown hg9 (fun k hk => by have := (World.ownsRow.lt hDR k hk).1; omega)
          have hGR := grown_row (grown_trans' G3.out h1) hg9 (fun k hk => (World.ownsRow.lt hDR k hk).1)
          clear hK1 hK2 hD hs hd hDR hr9 hg9 hat9 hK
          go_wp2_with fail
          go_ret
          exact ⟨_, n + 1, rfl, hOUT, by omega, hRD.mono (by omega), hGR⟩
end Go.Proofs.YtcfkemchekmjbaaGreatDoor
namespace Go.Proofs.YtcfkemchekmjbaaGreatDoor
open Go.RowKit
def TurnR (w : World) (g P : Nat) (e : Ending) (w' : World) : Prop := ∃ v k xs, e = .returned v ∧ OI w' w.heap.size v k xs ∧ k ≤ 50 ∧ RD w' g P ∧ w.grownBy w' (some g)
set_option maxRecDepth 100000 in
set_option maxHeartbeats 8000000 in
theorem l20Turns_c {w : World} {g P many : Nat} {q : Int} (hr : RD w g P) (hP : P ≤ 10000) (hm : many ≤ 5) (hq1 : 0 ≤ q) (hq2 : q ≤ 100000) :
    Calls Tryz.prog 91 #[.pointer (some ⟨g, 0, none⟩), .int .i64 many, .int .i64 q] w (TurnR w g (P + 100)) := by
  have hg := hr.lt
  have o0 := OI.empty w
  have r0 := hr.alloc (.cells #[] 3)
  have hmk := run_make_ints 41 (by omega)
  go_enter Tryz.func91, Tryz.ntmps91
  go_wp2_with fail
  refine (pick_c r0 (by omega) (by omega) (by omega)).mono ?_
  rintro e w1 ⟨x, rfl, x0, x1, r1, g1⟩
  obtain ⟨j0, rfl⟩ : ∃ j : Nat, x = j := ⟨x.toNat, by omega⟩
  have G1 := grown_trans' (grown_of_below (beB0 w (.cells #[] 3)) (some g)) g1
  have o1 := o0.grown g1 (o0.block_ne hg)
  have hz1 : w.heap.size < w1.heap.size := by have := g1.size; simp at this; omega
  clear o0 r0 g1
  go_wp2_with fail
  go_loopw [7, 8] (fun v i wr => ∃ (j m : Nat) (xs : List Int), i = .int .i64 j ∧ m + j ≤ 20 ∧ OI wr w.heap.size v m xs ∧ RD wr g (P + 60 - 2 * j) ∧ w.grownBy wr (some g) ∧ w.heap.size < wr.heap.size) (fun _ i _ => (intOf i).toNat)
  case atStart => exact ⟨j0, 0, [], rfl, by omega, o1, r1.mono (by omega), G1, hz1⟩
  case round =>
    clear o1 r1 G1 hz1
    obtain ⟨j, m, xs, rfl, hj, o2, r2, G2, hz2⟩ := hrel
    by_cases hlt : 0 < j ∧ 0 < many
    · obtain ⟨hlt, hmn⟩ := hlt
      have hlt' : (0 : Int) < j := by omega
      have hmn' : (0 : Int) < many := by omega
      go_wp2_with fail
      refine (pick_c r2 (by omega) (by omega) (by omega)).mono ?_
      rintro e w3 ⟨a, rfl, a0, a1, r3, g3⟩
      have G3 := grown_trans' G2 g3
      have o3 := o2.grown g3 (o2.block_ne hg)
      have hz3 : w.heap.size < w3.heap.size := by have := g3.size; omega
      have oa := o3.alloc (.cells #[.int .i64 a] 3)
      have s4 := SI.one w3 a 1 (Nat.le_refl _)
      have ra := r3.alloc (.cells #[.int .i64 a] 3)
      have Ga := grown_alloc G3 (.cells #[.int .i64 a] 3)
      clear o2 r2 G2 o3 r3 G3 g3
      go_wp2_with (at_builtin; refine wpList_appI rfl _ _ rfl rfl oa rfl s4 (by omega) (by simp; omega) ?_; intro v5 w5 h5 hg5 hat)
      have G5 := grown_own Ga oa (Nat.le_refl _) hg5
      have r5 := ra.own oa hg hg5
      have hz5 : w.heap.size < w5.heap.size := by have := hg5.size; simp at this; omega
      go_roundw
      case rel => exact ⟨j - 1, m + 1, _, by go_num, by omega, h5, r5.mono (by omega), G5, hz5⟩
      case measure => simp [intOf]; omega
    · have hend : (¬ (0 : Int) < j) ∨ ((0 : Int) < j ∧ ¬ (0 : Int) < many) := by omega
      rcases hend with hlt' | ⟨hlt', hmn'⟩
      all_goals
        go_wp2_with fail
        refine (odd_c r2 (by omega) hq1 hq2).mono ?_
        rintro e w3 ⟨b, rfl, r3, g3⟩
        have G3 := grown_trans' G2 g3
        have o3 := o2.grown g3 (o2.block_ne hg)
        have hz3 : w.heap.size < w3.heap.size := by have := g3.size; omega
        clear o2 r2 G2 g3
        cases b
        · go_wp2_with fail
          go_ret
          exact ⟨_, m, xs, rfl, o3, by omega, r3.mono (by omega), G3⟩
        · go_wp2_with fail
          refine (pick_c r3 (by omega) (by omega) (by omega)).mono ?_
          rintro e w4 ⟨i, rfl, i0, i1, r4, g4⟩
          have G4 := grown_trans' G3 g4
          have o4 := o3.grown g4 (o3.block_ne hg)
          have hz4 : w.heap.size < w4.heap.size := by have := g4.size; omega
          have hi : i = 0 ∨ i = 1 ∨ i = 2 := by omega
          clear i0 i1 G3 o3 r3 g4
          rcases hi with rfl | rfl | rfl
          · have oa := o4.alloc (.cells #[.int .i64 (many : Int)] 3)
            have s4 := SI.one w4 (many : Int) 1 (Nat.le_refl _)
            have ra := r4.alloc (.cells #[.int .i64 (many : Int)] 3)
            have Ga := grown_alloc G4 (.cells #[.int .i64 (many : Int)] 3)
            go_wp2_with (at_builtin; refine wpList_appI rfl _ _ rfl rfl oa rfl s4 (by omega) (by simp; omega) ?_; intro v5 w5 h5 hg5 hat)
            have G5 := grown_own Ga oa (Nat.le_refl _) hg5
            have r5 := ra.own oa hg hg5
            go_ret
            exact ⟨_, m + 1, _, rfl, h5, by omega, r5.mono (by omega), G5⟩
          · have oa := o4.alloc (.cells #[.int .i64 (-1)] 3)
            have s4 := SI.one w4 (-1) 1 (Nat.le_refl _)
            have ra := r4.alloc (.cells #[.int .i64 (-1)] 3)
            have Ga := grown_alloc G4 (.cells #[.int .i64 (-1)] 3)
            go_wp2_with (at_builtin; refine wpList_appI rfl _ _ rfl rfl oa rfl s4 (by omega) (by simp; omega) ?_; intro v5 w5 h5 hg5 hat)
            have G5 := grown_own Ga oa (Nat.le_refl _) hg5
            have r5 := ra.own oa hg hg5
            go_ret
            exact ⟨_, m + 1, _, rfl, h5, by omega, r5.mono (by omega), G5⟩
          · have om := OI.of_blk (B := w.heap.size) (n := 41) (xs := List.replicate 41 0) (Blk.new w4 3 ((List.replicate 41 (Value.int .i64 0)).toArray)) (by omega) (by simp) (by simp) (by omega)
            have rm := r4.alloc (.cells ((List.replicate 41 (Value.int .i64 0)).toArray) 3)
            have Gm := grown_alloc G4 (.cells ((List.replicate 41 (Value.int .i64 0)).toArray) 3)
            have hmk' : ∀ w : World, (Instr.makeSlice 24 (.int .i64 41) (.int .i64 41)).run Tryz.prog w = .ok (.slice (some ⟨w.heap.size, 0, none⟩) 41 41) (w.alloc (.cells ((List.replicate 41 (Value.int .i64 0)).toArray) 3)) := hmk
            go_wp2_with fail
            go_ret
            exact ⟨_, 41, _, rfl, om, by omega, rm.mono (by omega), Gm⟩
def DrawPS (w : World) (e : Ending) (w' : World) : Prop := ∃ (A : Option Addr) (n c : Nat) (ms : Ds) (u : Value) (k : Nat) (xs : List Int), e = .returned (.tuple #[.slice A n c, u]) ∧ n ≤ c ∧ n ≤ 5 ∧ RDs w' A n ms ∧ SmallD ms ∧ OI w' w.heap.size u k xs ∧ k ≤ 50 ∧ Below w.heap.size w w'
set_option maxHeartbeats 4000000 in
theorem DrawRunDirty_c {w : World} {A : Option Addr} {n c : Nat} (hnc : n ≤ c) (hmx : c ≤ maxLen) (hb : BY w w.heap.size A n) : Calls Tryz.prog 31 #[.slice A n c] w (DrawPS w) := by
  go_enter Tryz.func31, Tryz.ntmps31
  go_wp2_with fail
  refine (l20Open_c hnc hmx hb).mono ?_
  rintro e w1 ⟨rfl, r1, b1⟩
  have hz := b1.size
  have hg1 := r1.lt
  go_wp2_with fail
  refine (l20Plan_c r1 (by omega) (by omega) (by omega)).mono ?_
  rintro e w2 ⟨v, m, rfl, hO, hm, r2, g2⟩
  obtain ⟨Av, cv, rfl⟩ : ∃ A c, v = .slice A m c := by
    obtain ⟨es, ds, hD, _⟩ := hO
    rcases hD.row.2 with ⟨h1, h2⟩ | ⟨g', cap, cur, h1, _⟩
    · exact ⟨none, 0, by rw [h1, h2]⟩
    · exact ⟨_, cap, h1⟩
  have hz2 := g2.size
  go_wp2_with fail
  refine (l20Turns_c r2 (by omega) (by omega) (by omega) (by omega)).mono ?_
  rintro e w3 ⟨u, k, xs, rfl, o3, hk, r3, g3⟩
  have hO3 := hO.kp g3 hg1
  go_wp2_with fail
  go_ret2
  obtain ⟨es, ds, hD, hs, hd⟩ := hO3
  obtain ⟨A', c', e', h1, h2⟩ := hD.rds hs
  injection e' with e1 _ e2
  subst e1; subst e2
  exact ⟨_, m, _, ds, u, k, xs, rfl, h1, hm, h2, fun d hd' => by have := hd d hd'; omega, o3.mono (by omega), hk, belowG (belowG b1 g2 (Nat.le_refl _)) g3 (Nat.le_refl _)⟩
set_option maxHeartbeats 4000000 in
theorem DrawRunSnapshots_c {w : World} {A : Option Addr} {n c : Nat} (hnc : n ≤ c) (hmx : c ≤ maxLen) (hb : BY w w.heap.size A n) : Calls Tryz.prog 6 #[.slice A n c] w (DrawPS w) := by
  go_enter Tryz.func6, Tryz.ntmps6
  go_wp2_with fail
  refine (DrawRunDirty_c hnc hmx hb).mono ?_
  rintro e w1 ⟨A1, n1, c1, ms, u, k, xs, rfl, h1, h2, h3, h4, h5, h6, h7⟩
  go_wp2_with fail
  go_ret2
  exact ⟨A1, n1, c1, ms, u, k, xs, rfl, h1, h2, h3, h4, h5, h6, h7⟩
end Go.Proofs.YtcfkemchekmjbaaGreatDoor
