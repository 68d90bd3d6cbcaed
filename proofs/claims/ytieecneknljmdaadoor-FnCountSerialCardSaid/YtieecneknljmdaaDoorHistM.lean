/- impl.writers' map, by what is written: it has just what was written so far. -/
import Derived.Test.YtieecneknljmdaaDoorHistV
import Derived.Maps.OwnSet
import Derived.Maps.OwnOps
import Derived.ProofKit
import Derived.DeepKeys4
namespace Go.Proofs.YtieecneknljmdaaDoor
open Go.RowKit Go.Maps

def RVw : Value → Option (DataW Value × List MemPlace) := fun v => some (.held v, [])
theorem laidOutW : laidOutB Tryd.prog = true := by kernel_rfl
set_option maxRecDepth 100000 in
theorem rowWr : (103 : TypeId) < Tryd.prog.types.size := of_decide_eq_true (by kernel_rfl)
set_option maxRecDepth 100000 in
theorem wideWr : (match Tryd.prog.underlying 103 with | some (.array _ _) | some (.struct _) => true | _ => false) = true := by rw [Tryd.underlying103]
set_option maxRecDepth 100000 in
theorem lawWr : Keyed Tryd.prog 103 := Keyed.of_law (deep_law_laid laidOutW (m := 2) (by omega) rowWr (by kernel_rfl) wideWr)
set_option maxRecDepth 100000 in
theorem keyWr (f c : Int) (hf : (Lit.int .i64 f).wf = true) (hc : (Lit.int .i64 c).wf = true) : keyOf Tryd.prog 103 (.agg #[.int .i64 f, .int .i64 c]) = some (.string (keyBytes [.int .i64 f, .int .i64 c])) := by
  have u := Tryd.underlying103
  have u3 := Tryd.underlying3
  have k1 : Tryd.prog.keyType 103 = true := by kernel_rfl
  have c1 : Tryd.prog.cellsOf 103 = 2 := by kernel_rfl
  have c2 : Tryd.prog.cellsOf 3 = 1 := by kernel_rfl
  have k2 : Value.formed Tryd.prog 103 (.agg #[.int .i64 f, .int .i64 c]) = true := by simp [Value.formed, u, c1]
  have hs : ∃ m, Tryd.prog.types.size + 1 = m + 2 := ⟨Tryd.prog.types.size - 1, by have h : 0 < Tryd.prog.types.size := Nat.lt_of_le_of_lt (Nat.zero_le _) rowWr; omega⟩
  obtain ⟨m, hm⟩ := hs
  unfold keyOf
  simp only [u, k1, k2, hm]
  simp [Program.keyLits, u, u3, c1, c2, hf, hc, Value.cells]
theorem zeroI (w : World) : (zeroValue 3).run Tryd.prog w = .ok (.int .i64 0) w := by kernel_rfl
def klW (q : Int × Int) : Lit := .string (keyBytes [.int .i64 q.1, .int .i64 q.2])
def wfW (q : Int × Int) : Prop := (Lit.int .i64 q.1).wf = true ∧ (Lit.int .i64 q.2).wf = true
set_option maxRecDepth 100000 in
theorem klW_inj {q q' : Int × Int} (h : wfW q) (h' : wfW q') (he : klW q = klW q') : q = q' := by
  have e := keyOf_inj_deep (P := Tryd.prog) (m := 2) (k := 103) (by kernel_rfl) wideWr (keyWr q.1 q.2 h.1 h.2) ((keyWr q'.1 q'.2 h'.1 h'.2).trans (congrArg some he.symm))
  simp at e
  exact Prod.ext e.1 e.2
def Wrote (w : World) (b n : Nat) (ws : List (Int × Int)) : Prop :=
  ∃ D : DataW Value, w.ownsMap Tryd.prog 103 RVw b n D ∧ (∀ q, wfW q → Maps.has D (klW q) = decide (q ∈ ws))
theorem Wrote.zero (w : World) : Wrote (w.alloc (.map #[] 0)) w.heap.size 0 [] :=
  ⟨_, World.ownsMap_made w _ _ _, fun _ _ => rfl⟩
theorem Wrote.lt {w : World} {b n : Nat} {os : List (Int × Int)} (h : Wrote w b n os) : b < w.heap.size := by obtain ⟨D, ho, _⟩ := h; exact ho.lt
theorem Wrote.below {w w' : World} {b n : Nat} {os : List (Int × Int)} (h : Wrote w b n os) (hb : Below w.heap.size w w') : Wrote w' b n os := by
  obtain ⟨D, ho, h2⟩ := h
  have hlt := ho.lt
  obtain ⟨es, cl, h3, h4⟩ := ho
  exact ⟨D, ⟨es, cl, (hb.block b hlt).trans h3, h4⟩, h2⟩
theorem Wrote.alloc {w : World} {b n : Nat} {os : List (Int × Int)} (h : Wrote w b n os) (o : Obj) : Wrote (w.alloc o) b n os := h.below ((Below.refl _ _).alloc (Nat.le_refl _) _)
theorem Wrote.mono {w : World} {b n m : Nat} {os : List (Int × Int)} (h : Wrote w b n os) (hm : n ≤ m) : Wrote w b m os := by
  obtain ⟨D, h1, h2⟩ := h; exact ⟨D, h1.mono hm, h2⟩
theorem Wrote.step {w' : World} {b n : Nat} {ws : List (Int × Int)} {q0 : Int × Int} {x : DataW Value} {D : DataW Value} (hm : IsMap D)
    (h2 : ∀ q, wfW q → Maps.has D (klW q) = decide (q ∈ ws)) (hq : wfW q0) (h : w'.ownsMap Tryd.prog 103 RVw b n (D.put (klW q0) x)) : Wrote w' b n (ws ++ [q0]) := by
  refine ⟨_, h, fun q hqw => ?_⟩
  by_cases e : q = q0
  · subst e
    rw [has_put_same hm (show Go.WideAt.IsKeyLit (klW _) from trivial)]; simp
  · rw [has_put_other (fun h => e (klW_inj hqw hq h)), h2 q hqw]; simp [e]

end Go.Proofs.YtieecneknljmdaaDoor
