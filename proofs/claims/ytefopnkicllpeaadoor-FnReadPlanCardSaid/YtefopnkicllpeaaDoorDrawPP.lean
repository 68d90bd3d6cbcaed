/- Words for the drawing of plans. -/
import Derived.Test.YtefopnkicllpeaaDoorDraw3
import Derived.Test.YtefopnkicllpeaaDoorDrawB
import Derived.Test.YtefopnkicllpeaaDoorRun1
import Derived.Test.YtefopnkicllpeaaDoorRunI1
import Derived.Test.YtefopnkicllpeaaDoorRegInv
namespace Go.Proofs.YtefopnkicllpeaaDoor
open Go.RowKit

theorem step_appD {w : World} {o : Oper} {a : Act} {K : Act → World → Prop} {Q : Exit → Act → World → Prop} {ops : Array Oper} {E : Prop} (hgd : o.guard = none) (s x : Operand)
    (ho : o.op = .call { callee := .builtin .append, args := #[s, x], argTypes := #[22, 22] })
    {B : Nat} {v : Value} {n : Nat} {cs : List Value} (hs : a.eval s = v) (hown : w.ownsRow B 37 2 v n cs)
    {g c : Nat} {f : Int} {u : Value} (hx : a.eval x = .slice (some ⟨g, 0, none⟩) 1 c) (KB : Blk w g 37 #[.int .i64 f, u]) (hu : u.oneCell' = true) (hnm : n + 1 ≤ 1048576) (hbase : B ≤ w.heap.size)
    (h : ∀ v' w', w'.ownsRow B 37 2 v' (n + 1) (cs ++ [.int .i64 f, u]) → w.grownBy w' v.ownBlock → (v'.ownBlock = v.ownBlock ∨ v'.ownBlock = some w.heap.size) → K (a.put o.dst v') w') :
    if Region.wanted o (yielded ops a.tmps) = true then Oper.wp Tryd.prog o a w K Q else E := by
  have hw : Region.wanted o (yielded ops a.tmps) = true := by simp [Region.wanted, hgd]
  rw [if_pos hw]
  obtain ⟨i, hi, hz, hsz, hby⟩ := info_parts infoDr
  obtain ⟨v', w', hrun, h2, h3, h4⟩ := app_rd (P := Tryd.prog) B 22 o.type 37 i (.agg #[.int .i64 0, .slice none 0 0]) 2 32 Tryd.underlying22 hi hz hsz hby rfl (by omega) v n _ hown _ 1 c _ (Rd.two KB) (fun q hq => by
    simp at hq
    rcases hq with rfl | rfl
    · rfl
    · exact hu) (by simp only [maxLen]; omega) (by omega) hbase
  unfold Oper.wp execOp
  simp only [ho, resolve, invoke, builtin, Sem.run_bind, Sem.run_pure, Result.andThen_ok, List.map_toArray, List.map_cons, List.map_nil, hs, hx, hrun]
  exact h v' w' h2 h3 h4
/-- A slice of steps of the call's own. -/
def SV (w : World) (lo : Nat) (q : Value) : Prop := ∃ (k : Nat) (ts : List T3) (A : Option Addr) (c : Nat), q = .slice A k c ∧ O3 42 w lo q k ts ∧ k ≤ 5
/-- A draft as a value. -/
def DV (w : World) (lo : Nat) (u : Value) : Prop := ∃ (f : Int) (q : Value), u = .agg #[.int .i64 f, q] ∧ SV w lo q
def OPv (u : Value) : Prop := ∃ x y z : Int, u = .agg #[.int .i64 x, .int .i64 y, .int .i64 z]
/-- A cell's two halves of a draft. -/
def CV (w : World) (lo b i : Nat) : Prop := ∃ (f : Int) (q : Value), w.cell? ⟨b, i * 2, none⟩ = some (.int .i64 f) ∧ w.cell? ⟨b, i * 2 + 1, none⟩ = some q ∧ SV w lo q
def TV (w : World) (lo : Nat) (u : Value) : Prop := ∃ b, u = .slice (some ⟨b, 0, none⟩) 6 6 ∧ lo ≤ b ∧ b < w.heap.size ∧ ∀ i, i < 6 → CV w lo b i
def PV (w : World) (lo : Nat) (u : Value) : Prop := ∃ b i, u = .pointer (some ⟨b, i * 2, none⟩) ∧ lo ≤ b ∧ b < w.heap.size ∧ CV w lo b i
def RVd (w : World) (lo : Nat) (u : Value) : Prop := ∃ b f q, u = .slice (some ⟨b, 0, none⟩) 1 1 ∧ lo ≤ b ∧ Blk w b 37 #[.int .i64 f, q] ∧ SV w lo q
def NV (k : Nat) (u : Value) : Prop := ∃ x : Nat, u = .int .i64 x ∧ x < k
section
variable {w w' : World} {g lo : Nat}
theorem O3.kp {n : Nat} {v : Value} {ts : List T3} (h : O3 42 w lo v n ts) (hg : w.grownBy w' (some g)) (hl : g < lo) : O3 42 w' lo v n ts :=
  h.grown hg (.inr fun e => by have := (h.of.lt g e).1; omega)
theorem SV.kp {q : Value} (h : SV w lo q) (hg : w.grownBy w' (some g)) (hl : g < lo) : SV w' lo q := by
  obtain ⟨k, ts, A, c, e, ho, hk⟩ := h; exact ⟨k, ts, A, c, e, ho.kp hg hl, hk⟩
theorem DV.kp {u : Value} (h : DV w lo u) (hg : w.grownBy w' (some g)) (hl : g < lo) : DV w' lo u := by
  obtain ⟨f, q, e, hq⟩ := h; exact ⟨f, q, e, hq.kp hg hl⟩
theorem cell_kp {b i : Nat} (hb : lo ≤ b) (hs : b < w.heap.size) (hg : w.grownBy w' (some g)) (hl : g < lo) : w'.cell? ⟨b, i, none⟩ = w.cell? ⟨b, i, none⟩ :=
  World.cell?_of_block (hg.block b hs (fun e => by injection e with e; omega))
theorem CV.kp {b i : Nat} (h : CV w lo b i) (hb : lo ≤ b) (hs : b < w.heap.size) (hg : w.grownBy w' (some g)) (hl : g < lo) : CV w' lo b i := by
  obtain ⟨f, q, h1, h2, hq⟩ := h; exact ⟨f, q, (cell_kp hb hs hg hl).trans h1, (cell_kp hb hs hg hl).trans h2, hq.kp hg hl⟩
theorem TV.kp {u : Value} (h : TV w lo u) (hg : w.grownBy w' (some g)) (hl : g < lo) : TV w' lo u := by
  obtain ⟨b, e, hb, hs, hc⟩ := h; exact ⟨b, e, hb, Nat.lt_of_lt_of_le hs hg.size, fun i hi => (hc i hi).kp hb hs hg hl⟩
theorem PV.kp {u : Value} (h : PV w lo u) (hg : w.grownBy w' (some g)) (hl : g < lo) : PV w' lo u := by
  obtain ⟨b, i, e, hb, hs, hc⟩ := h; exact ⟨b, i, e, hb, Nat.lt_of_lt_of_le hs hg.size, hc.kp hb hs hg hl⟩
theorem RVd.kp {u : Value} (h : RVd w lo u) (hg : w.grownBy w' (some g)) (hl : g < lo) : RVd w' lo u := by
  obtain ⟨b, f, q, e, hb, hK, hq⟩ := h; exact ⟨b, f, q, e, hb, hK.grown hg (fun e => by injection e with e; omega), hq.kp hg hl⟩
theorem SV.one {W : World} {x y z : Int} (hl : lo ≤ w.heap.size) (hW : w.alloc (.cells #[.int .i64 x, .int .i64 y, .int .i64 z] 42) = W) : SV W lo (.slice (some ⟨w.heap.size, 0, none⟩) 1 1) := by
  subst hW
  exact ⟨1, [(x, y, z)], _, _, rfl, O3.of_blk (Blk.new w _ _) hl rfl rfl (by omega), by omega⟩
theorem SV.nil : SV w lo (.slice none 0 0) := ⟨0, [], none, 0, rfl, ⟨World.ownsRow_nil _ _ _ _, by omega⟩, by omega⟩
end
/-- What holds as long as an operation is not listed. -/
def Nst (l : Array Bool) (k : Nat) (p : Prop) : Prop := l.getD k false = false → p
theorem Nst.on {l : Array Bool} {k : Nat} {p : Prop} (h : Nst l k p) (hk : l[k]? = some false) : p := h (by rw [Array.getD_eq_getD_getElem?, hk]; rfl)
theorem Nst.mono {l : Array Bool} {k : Nat} {p q : Prop} (h : Nst l k p) (f : p → q) : Nst l k q := fun hk => f (h hk)
theorem Nst.set_ne {l : Array Bool} {k i : Nat} {p : Prop} (h : Nst l k p) (hk : i ≠ k) : Nst (l.setIfInBounds i true) k p := fun hl => h (by rwa [getD_set_ne' hk] at hl)
theorem Nst.gone {l : Array Bool} {k : Nat} {p : Prop} (h : l[k]? = some false) : Nst (l.setIfInBounds k true) k p := fun hl => by rw [getD_set_self h] at hl; cases hl
theorem Nst.all {l : Array Bool} {k : Nat} {p : Prop} (h : p) : Nst l k p := fun _ => h
/-- Drafts of the call's own: what has been drawn so far. -/
def OutV (w : World) (lo : Nat) (v : Value) (n : Nat) : Prop := ∃ es ds, OD w lo v n es ∧ SaysD es ds ∧ ∀ d ∈ ds, d.2.length ≤ 5
theorem OutV.kp {w w' : World} {g lo n : Nat} {v : Value} (h : OutV w lo v n) (hg : w.grownBy w' (some g)) (hl : g < lo) : OutV w' lo v n := by
  obtain ⟨es, ds, hD, hs, hd⟩ := h
  have hc := Chg.of_grown (S := fun k => k = g) hg (fun k e => by injection e with e; exact e.symm)
  exact ⟨es, ds, ⟨own_chg hD.row hc (fun k hk e => by have := (World.ownsRow.lt hD.row k hk).1; omega), fun j e hj => (hD.own j e hj).chg hc (fun k hk e' => by have := ((hD.own j e hj).lt k hk).1; omega), hD.len, hD.small⟩, hs, hd⟩
theorem OutV.zero (w : World) : OutV (w.alloc (.cells #[] 37)) w.heap.size (.slice (some ⟨w.heap.size, 0, none⟩) 0 0) 0 :=
  ⟨[], [], ⟨⟨rfl, .inr ⟨w.heap.size, 0, _, rfl, Nat.le_refl _, Blk.new w _ _, Nat.le_refl _, by simp [maxLen], rfl, rfl⟩⟩, fun j e h => by simp at h, rfl, by omega⟩, rfl, fun d h => by simp at h⟩
/-- One more draft. -/
theorem OutV.push {w w' : World} {lo n : Nat} {v v' : Value} {f : Int} {q : Value} (h : OutV w lo v n) (hq : SV w lo q)
    (hn : n + 1 ≤ 1048576) (hg : w.grownBy w' v.ownBlock)
    (hr : ∀ es : List (Int × In), w.ownsRow lo 37 2 v n (cellsD es) → w'.ownsRow lo 37 2 v' (n + 1) (cellsD es ++ [.int .i64 f, q])) : OutV w' lo v' (n + 1) := by
  obtain ⟨es, ds, hD, hs, hd⟩ := h
  obtain ⟨k, ts, A, c, e, ho, hk⟩ := hq
  have hoW : OF 42 3 w' lo q k (flat3 ts) := ho.of.grown hg (by
    cases hv : v.ownBlock with
    | none => cases hq' : q.ownBlock <;> simp
    | some b =>
      right
      obtain ⟨cs, hb⟩ : ∃ cs, Blk w b 37 cs := by
        rcases hD.row.2 with ⟨h1, _⟩ | ⟨g', cap, cur, h1, _, hb, _⟩
        · rw [h1] at hv; simp [Value.ownBlock] at hv
        · rw [h1] at hv
          have e1 : g' = b := by have h : some g' = some b := hv; injection h
          subst e1; exact ⟨cur, hb⟩
      exact ho.of.ne_blk hb (by decide))
  refine ⟨es ++ [(f, q, k, flat3 ts)], ds ++ [(f, ts)], hD.push (e := (f, q, k, flat3 ts)) (hr es hD.row) hg hoW hn, ?_, fun d hd' => ?_⟩
  · unfold SaysD at hs ⊢
    rw [List.map_append, List.map_append, hs]; rfl
  · rcases List.mem_append.1 hd' with h1 | h1
    · exact hd d h1
    · obtain rfl := List.mem_singleton.1 h1
      have := ho.len
      show ts.length ≤ 5
      omega

theorem Nst.off {l : Array Bool} {k i : Nat} {p : Prop} (h : l.getD k false = true) (hk : i ≠ k) : Nst (l.setIfInBounds i true) k p := fun hl => by rw [getD_set_ne' hk, h] at hl; cases hl
theorem OutV.push' {w w' : World} {lo n : Nat} {v v' : Value} {f : Int} {q : Value} {es : List (Int × In)} {ds : Ds} (hD : OD w lo v n es) (hs : SaysD es ds) (hd : ∀ d ∈ ds, d.2.length ≤ 5) (hq : SV w lo q)
    (hn : n + 1 ≤ 1048576) (hg : w.grownBy w' v.ownBlock) (hr : w'.ownsRow lo 37 2 v' (n + 1) (cellsD es ++ [.int .i64 f, q])) : OutV w' lo v' (n + 1) := by
  obtain ⟨k, ts, A, c, e, ho, hk⟩ := hq
  have hoW : OF 42 3 w' lo q k (flat3 ts) := ho.of.grown hg (by
    cases hv : v.ownBlock with
    | none => cases hq' : q.ownBlock <;> simp
    | some b =>
      right
      obtain ⟨cs, hb⟩ : ∃ cs, Blk w b 37 cs := by
        rcases hD.row.2 with ⟨h1, _⟩ | ⟨g', cap, cur, h1, _, hb, _⟩
        · rw [h1] at hv; simp [Value.ownBlock] at hv
        · rw [h1] at hv
          have e1 : g' = b := by have h : some g' = some b := hv; injection h
          subst e1; exact ⟨cur, hb⟩
      exact ho.of.ne_blk hb (by decide))
  refine ⟨es ++ [(f, q, k, flat3 ts)], ds ++ [(f, ts)], hD.push (e := (f, q, k, flat3 ts)) hr hg hoW hn, ?_, fun d hd' => ?_⟩
  · unfold SaysD at hs ⊢
    rw [List.map_append, List.map_append, hs]; rfl
  · rcases List.mem_append.1 hd' with h1 | h1
    · exact hd d h1
    · obtain rfl := List.mem_singleton.1 h1
      have := ho.len
      show ts.length ≤ 5
      omega
theorem grown_row {a b c : World} {g : Nat} {row : Option Nat} (h : a.grownBy b (some g)) (k : b.grownBy c row) (hr : ∀ k, row = some k → a.heap.size ≤ k) : a.grownBy c (some g) :=
  ⟨k.os.trans h.os, k.tape.trans h.tape, k.output.trans h.output, Nat.le_trans h.size k.size, fun i hi hn => (k.block i (Nat.lt_of_lt_of_le hi h.size) (fun e => by have := hr i e.symm; omega)).trans (h.block i hi hn)⟩
def IV (u : Value) : Prop := ∃ x : Int, u = .int .i64 x
def TI (w : World) (lo : Nat) (u : Value) : Prop := ∃ b, u = .slice (some ⟨b, 0, none⟩) 5 5 ∧ lo ≤ b ∧ b < w.heap.size ∧ ∀ i, i < 5 → ∃ y : Int, w.cell? ⟨b, i, none⟩ = some (.int .i64 y)
def PI (w : World) (lo : Nat) (u : Value) : Prop := ∃ b i, u = .pointer (some ⟨b, i, none⟩) ∧ lo ≤ b ∧ b < w.heap.size ∧ ∃ y : Int, w.cell? ⟨b, i, none⟩ = some (.int .i64 y)
def RO (w : World) (lo : Nat) (u : Value) : Prop := ∃ b x y z, u = .slice (some ⟨b, 0, none⟩) 1 1 ∧ lo ≤ b ∧ Blk w b 42 #[.int .i64 x, .int .i64 y, .int .i64 z]
section
variable {w w' : World} {g lo : Nat}
theorem TI.kp {u : Value} (h : TI w lo u) (hg : w.grownBy w' (some g)) (hl : g < lo) : TI w' lo u := by
  obtain ⟨b, e, hb, hs, hc⟩ := h; exact ⟨b, e, hb, Nat.lt_of_lt_of_le hs hg.size, fun i hi => by obtain ⟨y, hy⟩ := hc i hi; exact ⟨y, (cell_kp hb hs hg hl).trans hy⟩⟩
theorem PI.kp {u : Value} (h : PI w lo u) (hg : w.grownBy w' (some g)) (hl : g < lo) : PI w' lo u := by
  obtain ⟨b, i, e, hb, hs, y, hy⟩ := h; exact ⟨b, i, e, hb, Nat.lt_of_lt_of_le hs hg.size, y, (cell_kp hb hs hg hl).trans hy⟩
theorem RO.kp {u : Value} (h : RO w lo u) (hg : w.grownBy w' (some g)) (hl : g < lo) : RO w' lo u := by
  obtain ⟨b, x, y, z, e, hb, hK⟩ := h; exact ⟨b, x, y, z, e, hb, hK.grown hg (fun e => by injection e with e; omega)⟩
theorem TI.new (hl : lo ≤ w.heap.size) (a b c d e : Int) : TI (w.alloc (.cells #[.int .i64 a, .int .i64 b, .int .i64 c, .int .i64 d, .int .i64 e] 3)) lo (.slice (some ⟨w.heap.size, 0, none⟩) 5 5) := by
  have K := Blk.new w 3 #[.int .i64 a, .int .i64 b, .int .i64 c, .int .i64 d, .int .i64 e]
  refine ⟨_, rfl, hl, by simp, fun i hi => ?_⟩
  match i, hi with
  | 0, _ => exact ⟨a, K.cell 0⟩
  | 1, _ => exact ⟨b, K.cell 1⟩
  | 2, _ => exact ⟨c, K.cell 2⟩
  | 3, _ => exact ⟨d, K.cell 3⟩
  | 4, _ => exact ⟨e, K.cell 4⟩
end

/-- What was drawn, all of it below a block. -/
def OutB (w : World) (lo hi : Nat) (v : Value) (n : Nat) : Prop := ∃ es ds, OD w lo v n es ∧ SaysD es ds ∧ (∀ d ∈ ds, d.2.length ≤ 5) ∧ (∀ b, v.ownBlock = some b → b < hi) ∧ ∀ (j : Nat) (e : Int × In) (b : Nat), es[j]? = some e → e.2.1.ownBlock = some b → b < hi
theorem OutB.of {w : World} {lo n : Nat} {v : Value} (h : OutV w lo v n) : OutB w lo w.heap.size v n := by
  obtain ⟨es, ds, hD, hs, hd⟩ := h
  exact ⟨es, ds, hD, hs, hd, fun b hb => (World.ownsRow.lt hD.row b hb).2, fun j e b hj hb => ((hD.own j e hj).lt b hb).2⟩
theorem OutB.out {w : World} {lo hi n : Nat} {v : Value} (h : OutB w lo hi v n) : OutV w lo v n := by
  obtain ⟨es, ds, hD, hs, hd, _⟩ := h; exact ⟨es, ds, hD, hs, hd⟩
theorem OutB.kp {w w' : World} {g lo hi n : Nat} {v : Value} (h : OutB w lo hi v n) (hg : w.grownBy w' (some g)) (hl : g < lo) : OutB w' lo hi v n := by
  obtain ⟨es, ds, hD, hs, hd, h1, h2⟩ := h
  have hc := Chg.of_grown (S := fun k => k = g) hg (fun k e => by injection e with e; exact e.symm)
  exact ⟨es, ds, ⟨own_chg hD.row hc (fun k hk e => by have := (World.ownsRow.lt hD.row k hk).1; omega), fun j e hj => (hD.own j e hj).chg hc (fun k hk e' => by have := ((hD.own j e hj).lt k hk).1; omega), hD.len, hD.small⟩, hs, hd, h1, h2⟩
/-- A draft under way: an append to its steps, and the store of it, leave what was drawn. -/
theorem OutB.far {w w9 : World} {lo n db k : Nat} {v u : Value} {ts : List T3} (h : OutB w lo db v n) (hT : O3 42 w (db + 1) u k ts) (hg : w.grownBy w9 u.ownBlock) (x : Value) : OutB (w9.setCell ⟨db, 1, none⟩ x) lo db v n := by
  obtain ⟨es, ds, hD, hs, hd, h1, h2⟩ := h
  have hc := (Chg.of_grown (S := fun k => u.ownBlock = some k ∨ k = db) hg (fun k e => .inl e)).trans (Chg.setCell (p := ⟨db, 1, none⟩) (.inr rfl) x)
  have hu : ∀ b, (u.ownBlock = some b ∨ b = db) → db ≤ b := fun b e => by
    rcases e with e | e
    · have := (hT.of.lt b e).1; omega
    · omega
  exact ⟨es, ds, ⟨own_chg hD.row hc (fun b hb e => by have := h1 b hb; have := hu b e; omega), fun j e hj => (hD.own j e hj).chg hc (fun b hb e' => by have := h2 j e b hj hb; have := hu b e'; omega), hD.len, hD.small⟩, hs, hd, h1, h2⟩
theorem grown_setL {a w : World} {g : Nat} (h : a.grownBy w (some g)) {p : Addr} (hp : a.heap.size ≤ p.block) (u : Value) : a.grownBy (w.setCell p u) (some g) := grown_setCell h (.inr hp) u

end Go.Proofs.YtefopnkicllpeaaDoor
