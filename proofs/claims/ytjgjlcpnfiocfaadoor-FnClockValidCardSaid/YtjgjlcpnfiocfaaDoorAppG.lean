/- Appending under a guard that says yes. -/
import Derived.Test.YtjgjlcpnfiocfaaDoorApp
import Derived.BigFrame
namespace Go.Proofs.YtjgjlcpnfiocfaaDoor
open Go.RowKit

/-- 'append(v, u...)' on []int under a guard: v the call's own, u whatever slice. -/
theorem wpList_appG {w : World} {o : Oper} {a : Act} {Q : Exit → Act → World → Prop} {ops : Array Oper} {rest : List Oper} (hw : Region.wanted o (yielded ops a.tmps) = true) (s x : Operand)
    (ho : o.op = .call { callee := .builtin .append, args := #[s, x], argTypes := #[34, 34] })
    {B : Nat} {v : Value} {n : Nat} {xs : List Int} (hs : a.eval s = v) (hown : OI w B v n xs)
    {u : Value} {m : Nat} {ys : List Int} (hx : a.eval x = u) (hr : SI w u m ys) (hnm : n + m ≤ 1048576) (hbase : B ≤ w.heap.size)
    (h : ∀ v' w', OI w' B v' (n + m) (xs ++ ys) → w.grownBy w' v.ownBlock → (v'.ownBlock = v.ownBlock ∨ v'.ownBlock = some w.heap.size) → wpList Tryd.prog ops Q rest (a.put o.dst v') w') : wpList Tryd.prog ops Q (o :: rest) a w :=
  BigFrame.wpList_want hw fun K hK => by
    obtain ⟨i, hi, hz, hsz, hby⟩ := info_parts intInfo
    obtain ⟨A, c, rfl, _, _, hR⟩ := hr
    obtain ⟨v', w', hrun, h2, h3, h4⟩ := app_rd (P := Tryd.prog) B 34 o.type 3 i (.int .i64 0) 1 8 Tryd.underlying34 hi hz hsz hby rfl (by omega) v n _ hown.1 A m c _ hR.rd (ints_oneCell _ _) (by simp only [maxLen]; omega) (by omega) hbase
    unfold Oper.wp execOp
    simp only [ho, resolve, invoke, builtin, Sem.run_bind, Sem.run_pure, Result.andThen_ok, List.map_toArray, List.map_cons, List.map_nil, hs, hx, hrun]
    exact hK _ _ (h v' w' ⟨by simpa using h2, hnm⟩ h3 h4)

end Go.Proofs.YtjgjlcpnfiocfaaDoor
