/- impl.lastWrites' map of operations by key: what it tells. -/
import Derived.Test.YtfcfhgophpoibaaDoorLwS2
import Derived.Maps.OwnSet
import Derived.Maps.OwnOps
import Derived.ProofKit
namespace Go.Proofs.YtfcfhgophpoibaaDoor
open Go.RowKit Go.Maps

def opV (o : T3) : Value := .agg #[.int .i64 o.1, .int .i64 o.2.1, .int .i64 o.2.2]
def RV : Value → Option (DataW Value × List MemPlace) := fun v => some (.held v, [])
theorem lawInt : Keyed Tryd.prog 3 := int_keyed Tryd.underlying3
def kI (x : Int) : Lit := .int .i64 x
def wfI (x : Int) : Prop := (Lit.int .i64 x).wf = true
theorem kI_inj {x y : Int} (h : kI x = kI y) : x = y := by unfold kI at h; injection h
theorem keyInt {x : Int} (h : wfI x) : keyOf Tryd.prog 3 (.int .i64 x) = some (kI x) := keyOf_int_mk Tryd.underlying3 h
theorem wfI_small {x : Int} (h0 : 0 ≤ x) (h1 : x ≤ 1000) : wfI x := WalkArith.wf_i64 (by omega)
theorem zeroOp (w : World) : (zeroValue 53).run Tryd.prog w = .ok (opV (0, 0, 0)) w := by kernel_rfl
/-- The map at block b: the last writes among ops. -/
def Last (w : World) (b n : Nat) (os : List T3) : Prop :=
  ∃ D : DataW Value, w.ownsMap Tryd.prog 3 RV b n D ∧ ∀ q, Maps.has D (kI q) = (lastK os q).isSome ∧ D.atKey (kI q) (.held (opV (0, 0, 0))) = .held (opV ((lastK os q).getD (0, 0, 0)))
theorem Last.zero (w : World) : Last (w.alloc (.map #[] 0)) w.heap.size 0 [] :=
  ⟨_, World.ownsMap_made w _ _ _, fun _ => ⟨rfl, rfl⟩⟩
theorem Last.lt {w : World} {b n : Nat} {os : List T3} (h : Last w b n os) : b < w.heap.size := by obtain ⟨D, ho, _⟩ := h; exact ho.lt
theorem Last.below {w w' : World} {b n : Nat} {os : List T3} (h : Last w b n os) (hb : Below w.heap.size w w') : Last w' b n os := by
  obtain ⟨D, ho, h2⟩ := h
  have hlt := ho.lt
  obtain ⟨es, cl, h3, h4⟩ := ho
  exact ⟨D, ⟨es, cl, (hb.block b hlt).trans h3, h4⟩, h2⟩
theorem Last.alloc {w : World} {b n : Nat} {os : List T3} (h : Last w b n os) (o : Obj) : Last (w.alloc o) b n os := h.below ((Below.refl _ _).alloc (Nat.le_refl _) _)
theorem Last.kept {w w' : World} {row : Option Nat} {b n : Nat} {os : List T3} (h : Last w b n os) (hg : w.grownBy w' row) (hne : some b ≠ row) : Last w' b n os := by
  obtain ⟨D, ho, h2⟩ := h
  exact ⟨D, ho.kept hg hne, h2⟩
theorem Last.skip {w : World} {b n k : Nat} {os : List T3} {o : T3} (h : Last w b n (os.take k)) (hk : os[k]? = some o) (ho : o.1 ≠ 2) : Last w b n (os.take (k + 1)) := by
  obtain ⟨D, h1, h2⟩ := h
  refine ⟨D, h1, fun q => ?_⟩
  rw [List.take_add_one, hk]
  simp only [Option.toList_some]
  rw [lastK_snoc, if_neg (fun h => ho h.1)]
  exact h2 q
theorem Last.step {w' : World} {b n k : Nat} {os : List T3} {o : T3} {D : DataW Value} (hm : IsMap D)
    (h2 : ∀ q, Maps.has D (kI q) = (lastK (os.take k) q).isSome ∧ D.atKey (kI q) (.held (opV (0, 0, 0))) = .held (opV ((lastK (os.take k) q).getD (0, 0, 0))))
    (hk : os[k]? = some o) (ho : o.1 = 2) (h : w'.ownsMap Tryd.prog 3 RV b n (D.put (kI o.2.1) (.held (opV o)))) : Last w' b n (os.take (k + 1)) := by
  refine ⟨_, h, fun q => ?_⟩
  rw [List.take_add_one, hk]
  simp only [Option.toList_some]
  rw [lastK_snoc]
  by_cases e : o.2.1 = q
  · subst e
    rw [if_pos ⟨ho, rfl⟩, has_put_same hm (show Go.WideAt.IsKeyLit (kI _) from trivial), atKey_put_same hm (show Go.WideAt.IsKeyLit (kI _) from trivial)]
    exact ⟨rfl, rfl⟩
  · rw [if_neg (fun h => e h.2), has_put_other (fun h => e (kI_inj h).symm), atKey_put_other (fun h => e (kI_inj h).symm)]
    exact h2 q
theorem txnB_op {f : Int} {dn : Bool} {ys : List T3} (h : txnB (f, ys, dn) = true) {k : Nat} {o : T3} (hk : ys[k]? = some o) : opB o = true := by
  unfold txnB at h
  simp only [Bool.and_eq_true] at h
  exact List.all_eq_true.1 h.1 o (List.mem_of_getElem? hk)
theorem txnB_len {f : Int} {dn : Bool} {ys : List T3} (h : txnB (f, ys, dn) = true) : ys.length ≤ 6 := by
  unfold txnB at h; simp at h; exact h.2.2
theorem opB_key {x y z : Int} (h : opB (x, y, z) = true) : 0 ≤ y ∧ y ≤ 2 := by
  unfold opB at h; simp only [Bool.and_eq_true] at h; exact (inB_iff _ _ _).1 h.2.1

end Go.Proofs.YtfcfhgophpoibaaDoor
