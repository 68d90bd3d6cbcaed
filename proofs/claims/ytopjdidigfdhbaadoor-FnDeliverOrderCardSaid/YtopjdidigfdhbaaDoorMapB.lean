/- A map keyed by a struct of two integers, its elements bools: the call's own. -/
import Derived.Test.YtopjdidigfdhbaaDoorLib2
import Derived.Maps.OwnSet
import Derived.Maps.OwnOps
import Derived.DeepKeys4
import Derived.ProofKit
namespace Go.Proofs.YtopjdidigfdhbaaDoor
open Go.RowKit Go.Maps

theorem laidOutM : laidOutB Tryd.prog = true := by kernel_rfl
set_option maxRecDepth 100000 in
theorem rowSent : (85 : TypeId) < Tryd.prog.types.size := of_decide_eq_true (by kernel_rfl)
set_option maxRecDepth 100000 in
theorem wideSent : (match Tryd.prog.underlying 85 with | some (.array _ _) | some (.struct _) => true | _ => false) = true := by rw [Tryd.underlying85]
set_option maxRecDepth 100000 in
theorem lawSent : Keyed Tryd.prog 85 := Keyed.of_law (deep_law_laid laidOutM (m := 2) (by omega) rowSent (by kernel_rfl) wideSent)

theorem plainElem_boolB {H : Type} {e : TypeId} (he : Tryd.prog.underlying e = some .bool) (x : Bool) : (plainElem Tryd.prog e (.bool x) : Option (DataW H × List MemPlace)) = some (.lit (.bool x), []) := by
  unfold plainElem; rw [he]
theorem plainElem_bool_invB {H : Type} {e : TypeId} (he : Tryd.prog.underlying e = some .bool) {v : Value} {z : DataW H × List MemPlace} (h : plainElem Tryd.prog e v = some z) : ∃ x, v = .bool x ∧ z = (.lit (.bool x), []) := by
  unfold plainElem at h
  rw [he] at h
  cases v <;> simp at h
  exact ⟨_, rfl, h.symm⟩

/-- 'm[k]' (without 'ok') at bool elements. -/
theorem wpList_lookup_own_bool {H : Type} (w : World) {ops : Array Oper} {rest : List Oper} {o : Oper} {a : Act} {Q : Exit → Act → World → Prop}
    (hg : o.guard = none) (m x : Operand) (t : TypeId) (hop : o.op = Op.lookup t m x false)
    (k e : TypeId) (K : Keyed Tryd.prog k) (ht : Tryd.prog.underlying t = some (.map k e)) (he : Tryd.prog.underlying e = some .bool) (hz : (zeroValue e).run Tryd.prog w = .ok (.bool false) w) (b n : Nat) (D : DataW H)
    (hm : a.eval m = .map (some b)) (hown : w.ownsMap Tryd.prog k (plainElem Tryd.prog e) b n D) (key : Value) (kl : Lit) (hx : a.eval x = key) (hkey : keyOf Tryd.prog k key = some kl)
    (hK : ∀ c : Bool, D.atKey kl (.lit (.bool false)) = .lit (.bool c) → wpList Tryd.prog ops Q rest (a.put o.dst (.bool c)) w) :
    wpList Tryd.prog ops Q (o :: rest) a w := by
  refine wpList_plain hg fun K' hK' => ?_
  obtain ⟨v, ps, hrun, hv⟩ := hown.lookup K ht hz (plainElem_boolB he false) hkey
  obtain ⟨c, rfl, hc⟩ := plainElem_bool_invB he hv
  simp only [Prod.mk.injEq] at hc
  unfold Oper.wp
  simp [execOp, hop, hm, hx, hrun, Result.andThen]
  exact hK' _ _ (hK c hc.1)

set_option maxRecDepth 100000 in
theorem keySent (f c : Int) (hf : (Lit.int .i64 f).wf = true) (hc : (Lit.int .i64 c).wf = true) : keyOf Tryd.prog 85 (.agg #[.int .i64 f, .int .i64 c]) = some (.string (keyBytes [.int .i64 f, .int .i64 c])) := by
  have u := Tryd.underlying85
  have u3 := Tryd.underlying3
  have k1 : Tryd.prog.keyType 85 = true := by kernel_rfl
  have c1 : Tryd.prog.cellsOf 85 = 2 := by kernel_rfl
  have c2 : Tryd.prog.cellsOf 3 = 1 := by kernel_rfl
  have k2 : Value.formed Tryd.prog 85 (.agg #[.int .i64 f, .int .i64 c]) = true := by simp [Value.formed, u, c1]
  have hs : ∃ m, Tryd.prog.types.size + 1 = m + 2 := ⟨Tryd.prog.types.size - 1, by have h : 0 < Tryd.prog.types.size := Nat.lt_of_le_of_lt (Nat.zero_le _) rowSent; omega⟩
  obtain ⟨m, hm⟩ := hs
  unfold keyOf
  simp only [u, k1, k2, hm]
  simp [Program.keyLits, u, u3, c1, c2, hf, hc, Value.cells]

end Go.Proofs.YtopjdidigfdhbaaDoor
