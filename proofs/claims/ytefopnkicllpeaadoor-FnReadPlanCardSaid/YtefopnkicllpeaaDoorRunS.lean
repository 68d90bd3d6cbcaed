/- spec.RunDirty. -/
import Derived.Test.YtefopnkicllpeaaDoorRunP
import Derived.Deep.RegionLaw
import Derived.Deep.RegionWith
import Derived.Deep.RegionHeld3
import Derived.BigRegion
namespace Go.Proofs.YtefopnkicllpeaaDoor
open Go.RowKit

/-- 'append(v, u...)' on slices of ops, inside a region that draws its order. -/
theorem step_app3 {w : World} {o : Oper} {a : Act} {K : Act → World → Prop} {Q : Exit → Act → World → Prop} {ops : Array Oper} {E : Prop} (hgd : o.guard = none) (s x : Operand)
    (ho : o.op = .call { callee := .builtin .append, args := #[s, x], argTypes := #[35, 35] })
    {B : Nat} {v : Value} {n : Nat} {ts : List T3} (hs : a.eval s = v) (hown : O3 42 w B v n ts)
    {u : Value} {m : Nat} {us : List T3} (hx : a.eval x = u) (hr : S3 w u m us) (hnm : n + m ≤ 1048576) (hbase : B ≤ w.heap.size)
    (h : ∀ v' w', O3 42 w' B v' (n + m) (ts ++ us) → w.grownBy w' v.ownBlock → (v'.ownBlock = v.ownBlock ∨ v'.ownBlock = some w.heap.size) → K (a.put o.dst v') w') :
    if Region.wanted o (yielded ops a.tmps) = true then Oper.wp Tryd.prog o a w K Q else E := by
  have hw : Region.wanted o (yielded ops a.tmps) = true := by simp [Region.wanted, hgd]
  rw [if_pos hw]
  obtain ⟨i, hi, hz, hsz, hby⟩ := info_parts infoOpz
  obtain ⟨A, c, rfl, _, _, hR⟩ := hr
  obtain ⟨v', w', hrun, h2, h3, h4⟩ := app_rd (P := Tryd.prog) B 35 o.type 42 i (.agg #[.int .i64 0, .int .i64 0, .int .i64 0]) 3 24 Tryd.underlying35 hi hz hsz hby rfl (by omega) v n _ hown.1 A m c _ hR.rd (ints_oneCell _ _) (by simp only [maxLen]; omega) (by omega) hbase
  unfold Oper.wp execOp
  simp only [ho, resolve, invoke, builtin, Sem.run_bind, Sem.run_pure, Result.andThen_ok, List.map_toArray, List.map_cons, List.map_nil, hs, hx, hrun]
  exact h v' w' ⟨by rw [flat3_append]; simpa using h2, hnm⟩ h3 h4


theorem make3 (w : World) : (Instr.makeSlice 78 (.int .i64 3) (.int .i64 3)).run Tryd.prog w = .ok (.slice (some ⟨w.heap.size, 0, none⟩) 3 3) (w.alloc (.cells #[.int .i64 0, .int .i64 0, .int .i64 0] 3)) := run_make_ints 3 (by omega) w
theorem own3 (w : World) : OI (w.alloc (.cells #[.int .i64 0, .int .i64 0, .int .i64 0] 3)) w.heap.size (.slice (some ⟨w.heap.size, 0, none⟩) 3 3) 3 [0, 0, 0] := OI.of_blk (Blk.new w _ _) (Nat.le_refl _) rfl rfl (by omega)
theorem SaysT.set_ {es : List El} {ts : List Tx} (h : SaysT es ts) (k : Nat) (t : Tx) (u : Value) (m : Nat) : SaysT (es.set k (t.1, (u, m, flat3 t.2.1), t.2.2)) (ts.set k t) := by
  unfold SaysT at *
  rw [List.map_set, List.map_set, h]
theorem OI.set_ne {w : World} {B n : Nat} {v : Value} {xs : List Int} (h : OI w B v n xs) {p : Addr} (hp : v.ownBlock ≠ some p.block) (u : Value) : OI (w.setCell p u) B v n xs :=
  h.grown (grown_setCell (World.grownBy.refl w (some p.block)) (.inl rfl) u) (.inr hp)



end Go.Proofs.YtefopnkicllpeaaDoor
