/- What impl.MessagesValid's map tells: is a pair among those of the first k messages. -/
import Derived.Test.YtopjdidigfdhbaaDoorMsgsP
import Derived.Test.YtopjdidigfdhbaaDoorMapB
namespace Go.Proofs.YtopjdidigfdhbaaDoor
open Go.RowKit Go.Maps

def klS (q : Int × Int) : Lit := .string (keyBytes [.int .i64 q.1, .int .i64 q.2])
def wfS (q : Int × Int) : Prop := (Lit.int .i64 q.1).wf = true ∧ (Lit.int .i64 q.2).wf = true
set_option maxRecDepth 100000 in
theorem klS_inj {q q' : Int × Int} (h : wfS q) (h' : wfS q') (he : klS q = klS q') : q = q' := by
  have e := keyOf_inj_deep (P := Tryd.prog) (m := 2) (k := 85) (by kernel_rfl) wideSent (keySent q.1 q.2 h.1 h.2) ((keySent q'.1 q'.2 h'.1 h'.2).trans (congrArg some he.symm))
  simp at e
  exact Prod.ext e.1 e.2
def Seen (w : World) (b n : Nat) (ms : Ms) (k : Nat) : Prop :=
  ∃ D : DataW Unit, w.ownsMap Tryd.prog 85 (plainElem Tryd.prog 4) b n D ∧ ∀ q, wfS q → D.atKey (klS q) (.lit (.bool false)) = .lit (.bool (metB ms k q))
theorem Seen.zero (w : World) (ms : Ms) : Seen (w.alloc (.map #[] 0)) w.heap.size 0 ms 0 :=
  ⟨_, World.ownsMap_made w _ _ _, fun q _ => by rw [metB_zero]; rfl⟩
theorem Seen.below {w w' : World} {b n k : Nat} {ms : Ms} (h : Seen w b n ms k) (hb : Below w.heap.size w w') : Seen w' b n ms k := by
  obtain ⟨D, ho, h2⟩ := h
  have hlt := ho.lt
  obtain ⟨es, cl, h3, h4⟩ := ho
  exact ⟨D, ⟨es, cl, (hb.block b hlt).trans h3, h4⟩, h2⟩
theorem Seen.step {w' : World} {b n k : Nat} {ms : Ms} {D : DataW Unit} (hm : IsMap D) (h2 : ∀ q, wfS q → D.atKey (klS q) (.lit (.bool false)) = .lit (.bool (metB ms k q)))
    (hw : wfS (keyM (atM ms k))) (ho : w'.ownsMap Tryd.prog 85 (plainElem Tryd.prog 4) b n (D.put (klS (keyM (atM ms k))) (.lit (.bool true)))) : Seen w' b n ms (k + 1) := by
  refine ⟨_, ho, fun q hq => ?_⟩
  rw [metB_succ]
  by_cases e : q = keyM (atM ms k)
  · subst e
    rw [atKey_put_same hm (show Go.WideAt.IsKeyLit (klS _) from trivial)]; simp
  · rw [atKey_put_other (fun h => e (klS_inj hq hw h)), h2 q hq]; simp [e]

end Go.Proofs.YtopjdidigfdhbaaDoor
