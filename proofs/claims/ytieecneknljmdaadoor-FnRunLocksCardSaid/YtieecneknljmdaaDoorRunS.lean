/- spec.RunDirty. -/
import Derived.Test.YtieecneknljmdaaDoorRunP
import Derived.Deep.RegionLaw
import Derived.Deep.RegionWith
import Derived.Deep.RegionHeld3
import Derived.BigRegion
namespace Go.Proofs.YtieecneknljmdaaDoor
open Go.RowKit

/-- 'append(v, u...)' on slices of ops, inside a region that draws its order. -/
theorem step_app3 {w : World} {o : Oper} {a : Act} {K : Act → World → Prop} {Q : Exit → Act → World → Prop} {ops : Array Oper} {E : Prop} (hgd : o.guard = none) (s x : Operand)
    (ho : o.op = .call { callee := .builtin .append, args := #[s, x], argTypes := #[56, 56] })
    {B : Nat} {v : Value} {n : Nat} {ts : List T3} (hs : a.eval s = v) (hown : O3 51 w B v n ts)
    {u : Value} {m : Nat} {us : List T3} (hx : a.eval x = u) (hr : S3 w u m us) (hnm : n + m ≤ 1048576) (hbase : B ≤ w.heap.size)
    (h : ∀ v' w', O3 51 w' B v' (n + m) (ts ++ us) → w.grownBy w' v.ownBlock → (v'.ownBlock = v.ownBlock ∨ v'.ownBlock = some w.heap.size) → K (a.put o.dst v') w') :
    if Region.wanted o (yielded ops a.tmps) = true then Oper.wp Tryd.prog o a w K Q else E := by
  have hw : Region.wanted o (yielded ops a.tmps) = true := by simp [Region.wanted, hgd]
  rw [if_pos hw]
  obtain ⟨i, hi, hz, hsz, hby⟩ := info_parts infoOpz
  obtain ⟨A, c, rfl, _, _, hR⟩ := hr
  obtain ⟨v', w', hrun, h2, h3, h4⟩ := app_rd (P := Tryd.prog) B 56 o.type 51 i (.agg #[.int .i64 0, .int .i64 0, .int .i64 0]) 3 24 Tryd.underlying56 hi hz hsz hby rfl (by omega) v n _ hown.1 A m c _ hR.rd (ints_oneCell _ _) (by simp only [maxLen]; omega) (by omega) hbase
  unfold Oper.wp execOp
  simp only [ho, resolve, invoke, builtin, Sem.run_bind, Sem.run_pure, Result.andThen_ok, List.map_toArray, List.map_cons, List.map_nil, hs, hx, hrun]
  exact h v' w' ⟨by rw [flat3_append]; simpa using h2, hnm⟩ h3 h4

set_option maxHeartbeats 400000 in
theorem l17Value_c {n at_ : Nat} {w : World} (hn : n < 4) (ha : at_ < 4) : Calls Tryd.prog 38 #[.int .i64 (n : Int), .int .i64 (at_ : Int)] w fun e w' => e = .returned (.int .i64 (valOf n at_)) ∧ w = w' := by
  have h1 : (n : Int) < 4 := by omega
  have h2 : (at_ : Int) < 4 := by omega
  go_enter Tryd.func38, Tryd.ntmps38
  go_wp2
  go_ret
  exact ⟨by unfold valOf; rfl, rfl⟩

theorem make3 (w : World) : (Instr.makeSlice 27 (.int .i64 3) (.int .i64 3)).run Tryd.prog w = .ok (.slice (some ⟨w.heap.size, 0, none⟩) 3 3) (w.alloc (.cells #[.int .i64 0, .int .i64 0, .int .i64 0] 3)) := run_make_ints 3 (by omega) w
theorem own3 (w : World) : OI (w.alloc (.cells #[.int .i64 0, .int .i64 0, .int .i64 0] 3)) w.heap.size (.slice (some ⟨w.heap.size, 0, none⟩) 3 3) 3 [0, 0, 0] := OI.of_blk (Blk.new w _ _) (Nat.le_refl _) rfl rfl (by omega)
theorem SaysT.ops {es : List El} {ts : List Tx} (h : SaysT es ts) {lo n : Nat} {v : Value} {w : World} (D : OT w lo v n es) {k : Nat} {t : Tx} (hk : ts[k]? = some t) :
    ∃ u, es[k]? = some (t.1, (u, t.2.1.length, flat3 t.2.1), t.2.2) ∧ O3 51 w lo u t.2.1.length t.2.1 := by
  obtain ⟨e, he, e1, e2, e3⟩ := h.at_ hk
  have ho := D.own k e he
  obtain ⟨f, ⟨u, m, xs⟩, d⟩ := e
  dsimp only at e1 e2 e3 ho
  subst e1; subst e2; subst e3
  have hl := ho.len
  rw [flat3_len] at hl
  obtain rfl : t.2.1.length = m := by omega
  exact ⟨u, he, ho⟩
theorem SaysT.set_ {es : List El} {ts : List Tx} (h : SaysT es ts) (k : Nat) (t : Tx) (u : Value) (m : Nat) : SaysT (es.set k (t.1, (u, m, flat3 t.2.1), t.2.2)) (ts.set k t) := by
  unfold SaysT at *
  rw [List.map_set, List.map_set, h]
theorem OI.set_ne {w : World} {B n : Nat} {v : Value} {xs : List Int} (h : OI w B v n xs) {p : Addr} (hp : v.ownBlock ≠ some p.block) (u : Value) : OI (w.setCell p u) B v n xs :=
  h.grown (grown_setCell (World.grownBy.refl w (some p.block)) (.inl rfl) u) (.inr hp)
/-- The state of a run in memory: the history, the store. -/
structure AtRun (w : World) (lo : Nat) (v : Value) (gs n : Nat) (S : RunSt) (es : List El) : Prop where
  own : OT w lo v n es
  says : SaysT es S.1
  store : OI w lo (.slice (some ⟨gs, 0, none⟩) 3 3) 3 S.2
  apart : v.ownBlock ≠ some gs
  inner : ∀ (j : Nat) (e : El), es[j]? = some e → e.2.1.1.ownBlock ≠ some gs

theorem AtRun.below {w w' : World} {lo gs n : Nat} {v : Value} {S : RunSt} {es : List El} (h : AtRun w lo v gs n S es) (hb : Below w.heap.size w w') : AtRun w' lo v gs n S es :=
  ⟨h.own.below hb, h.says, h.store.below hb, h.apart, h.inner⟩
theorem AtRun.alloc {w : World} {lo gs n : Nat} {v : Value} {S : RunSt} {es : List El} (h : AtRun w lo v gs n S es) (o : Obj) : AtRun (w.alloc o) lo v gs n S es := h.below ((Below.refl _ _).alloc (Nat.le_refl _) _)
theorem AtRun.drew {w : World} {lo gs n : Nat} {v : Value} {S : RunSt} {es : List El} (h : AtRun w lo v gs n S es) : AtRun w.drew lo v gs n S es := h.below (Below.refl _ _).drew
/-- A value put into the store. -/
theorem AtRun.put {w : World} {lo gs n : Nat} {v : Value} {S : RunSt} {es : List El} (h : AtRun w lo v gs n S es) (i : Nat) (x : Int) : AtRun (w.setCell ⟨gs, i, none⟩ (.int .i64 x)) lo v gs n (S.1, S.2.set i x) es :=
  ⟨h.own.chg (Chg.setCell (S := fun k => k = gs) (p := ⟨gs, i, none⟩) rfl _) (fun k hk e => by
      subst e
      rcases hk with hk | ⟨j, e, hj, hk⟩
      · exact h.apart hk
      · exact h.inner j e hj hk), h.says, h.store.store i x, h.apart, h.inner⟩
/-- One more operation, and done or not. -/
theorem AtRun.add {w w' : World} {lo gs n g c : Nat} {S : RunSt} {es : List El} (h : AtRun w lo (.slice (some ⟨g, 0, none⟩) n c) gs n S es) {j : Nat} {t : Tx} {u : Value} (he : es[j]? = some (t.1, (u, t.2.1.length, flat3 t.2.1), t.2.2))
    (hg : w.grownBy w' u.ownBlock) {u' : Value} {o : T3} {L : Nat} (ho : O3 51 w' lo u' L (t.2.1 ++ [o])) (hq : u'.ownBlock = u.ownBlock ∨ u'.ownBlock = some w.heap.size) (d : Bool) :
    AtRun ((w'.setCell ⟨g, j * 3 + 1, none⟩ u').setCell ⟨g, j * 3 + 2, none⟩ (.bool d)) lo (.slice (some ⟨g, 0, none⟩) n c) gs n (S.1.set j (t.1, t.2.1 ++ [o], d), S.2) (es.set j (t.1, (u', L, flat3 (t.2.1 ++ [o])), d)) := by
  have hjl := (List.getElem?_eq_some_iff.1 he).1
  have hgs : gs < w.heap.size := (World.ownsRow.lt h.store.1 gs rfl).2
  have hu : u.ownBlock ≠ some gs := h.inner j _ he
  have D1 := h.own.append he hg (q := (u', L, flat3 (t.2.1 ++ [o]))) ho.of (hq.imp id (fun e k hk => by rw [e] at hk; injection hk with hk; omega))
  have D2 := D1.set2 (List.getElem?_set_self hjl) d
  rw [List.set_set] at D2
  refine ⟨D2, ?_, ?_, h.apart, fun i e hi => ?_⟩
  · exact h.says.set_ j (t.1, t.2.1 ++ [o], d) u' L
  · have hne : gs ≠ g := fun e => h.apart (by rw [e]; rfl)
    exact ((h.store.grown hg (.inr (fun e => hu e.symm))).set_ne (p := ⟨g, j * 3 + 1, none⟩) (fun e => hne (by injection e)) _).set_ne (p := ⟨g, j * 3 + 2, none⟩) (fun e => hne (by injection e)) _
  · by_cases e1 : j = i
    · subst e1
      rw [List.getElem?_set_self hjl] at hi
      injection hi with hi; subst hi
      rcases hq with hq | hq
      · rw [hq]; exact hu
      · rw [hq]; intro e; injection e with e; omega
    · rw [List.getElem?_set_ne e1] at hi
      exact h.inner i e hi


end Go.Proofs.YtieecneknljmdaaDoor
