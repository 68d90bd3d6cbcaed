/- The holders of locks: a map from keys to drafts. -/
import Derived.Test.YtfcfhgophpoibaaDoorSeen
import Derived.Test.YtfcfhgophpoibaaDoorRunK2
import Derived.Test.YtfcfhgophpoibaaDoorRunI5
namespace Go.Proofs.YtfcfhgophpoibaaDoor
open Go.RowKit Go.Maps

def holdB (ow : List Int) (q : Nat) : Bool := !decide (ow.getD q 0 = 0)
def holdV (ow : List Int) (q : Nat) : Int := if ow.getD q 0 = 0 then 0 else ow.getD q 0 - 1
def HoldD (D : DataW Unit) (ow : List Int) : Prop := ∀ q : Nat, q ≤ 2 → Maps.has D (kI q) = holdB ow q ∧ D.atKey (kI q) (.lit (.int .i64 0)) = .lit (.int .i64 (holdV ow q))
def HoldM (w : World) (b n : Nat) (ow : List Int) : Prop := ∃ D : DataW Unit, w.ownsMap Tryd.prog 3 (plainElem Tryd.prog 3) b n D ∧ HoldD D ow
theorem HoldM.zero (w : World) : HoldM (w.alloc (.map #[] 0)) w.heap.size 0 [0, 0, 0] :=
  ⟨_, World.ownsMap_made w _ _ _, fun q hq => by match q, hq with | 0, _ => exact ⟨rfl, rfl⟩ | 1, _ => exact ⟨rfl, rfl⟩ | 2, _ => exact ⟨rfl, rfl⟩⟩
theorem HoldM.lt {w : World} {b n : Nat} {ow : List Int} (h : HoldM w b n ow) : b < w.heap.size := by obtain ⟨D, ho, _⟩ := h; exact ho.lt
theorem HoldM.chg {S : Nat → Prop} {w w' : World} {b n : Nat} {ow : List Int} (h : HoldM w b n ow) (hc : Chg S w w') (hS : ¬ S b) : HoldM w' b n ow := by
  obtain ⟨D, ho, h2⟩ := h
  have hlt := ho.lt
  obtain ⟨es, cl, h3, h4⟩ := ho
  exact ⟨D, ⟨es, cl, (hc.block b hlt hS).trans h3, h4⟩, h2⟩
theorem HoldM.below {w w' : World} {b n : Nat} {ow : List Int} (h : HoldM w b n ow) (hb : Below w.heap.size w w') : HoldM w' b n ow := h.chg (S := fun _ => False) (Chg.of_below hb) id
theorem HoldM.alloc {w : World} {b n : Nat} {ow : List Int} (h : HoldM w b n ow) (o : Obj) : HoldM (w.alloc o) b n ow := h.below ((Below.refl _ _).alloc (Nat.le_refl _) _)
theorem HoldM.mono {w : World} {b n n' : Nat} {ow : List Int} (h : HoldM w b n ow) (hn : n ≤ n') : HoldM w b n' ow := by obtain ⟨D, ho, h2⟩ := h; exact ⟨D, ho.mono hn, h2⟩
theorem HoldM.notT {w : World} {lo n nh b : Nat} {v : Value} {es : List El} {ow : List Int} (h : OT w lo v n es) (hm : HoldM w b nh ow) : ¬ OT.S v es b := fun hk => by
  obtain ⟨D, ⟨es', cl, h3, _⟩, _⟩ := hm
  rcases hk with hk | ⟨j, e, hj, hk⟩
  · rcases h.row.2 with ⟨h1, _⟩ | ⟨g, cap, cur, h1, _, hb, _⟩
    · rw [h1] at hk; simp [Value.ownBlock] at hk
    · rw [h1] at hk
      have e1 : g = b := by have h : some g = some b := hk; injection h
      subst e1
      rw [h3] at hb; injection hb with hb; cases hb
  · rcases (h.own j e hj).1.2 with ⟨h1, _⟩ | ⟨g, cap, cur, h1, _, hb, _⟩
    · rw [h1] at hk; simp [Value.ownBlock] at hk
    · rw [h1] at hk
      have e1 : g = b := by have h : some g = some b := hk; injection h
      subst e1
      rw [h3] at hb; injection hb with hb; cases hb
theorem kI_nat {q q' : Nat} (h : kI q = kI q') : q = q' := by have := kI_inj h; omega
theorem HoldD.put {D : DataW Unit} {ow : List Int} (h : HoldD D ow) (hm : IsMap D) (hl : ow.length = 3) {q : Nat} (hq : q ≤ 2) (x : Nat) : HoldD (D.put (kI q) (.lit (.int .i64 x))) (ow.set q ((x : Int) + 1)) := fun q' hq' => by
  unfold holdB holdV
  rw [getD_set _ _ _ _ (by omega)]
  by_cases e : q = q'
  · subst e
    rw [if_pos rfl, has_put_same hm (show Go.WideAt.IsKeyLit (kI _) from trivial), atKey_put_same hm (show Go.WideAt.IsKeyLit (kI _) from trivial)]
    have h1 : ((x : Int) + 1 = 0) = False := by simp; omega
    simp only [h1]
    refine ⟨by simp, ?_⟩
    rw [if_neg id]
    congr 2; omega
  · rw [if_neg e, has_put_other (fun h => e (kI_nat h).symm), atKey_put_other (fun h => e (kI_nat h).symm)]
    exact h q' hq'
theorem HoldD.del {D : DataW Unit} {ow : List Int} (h : HoldD D ow) (hl : ow.length = 3) {q : Nat} (hq : q ≤ 2) : HoldD (D.del (kI q)) (ow.set q 0) := fun q' hq' => by
  unfold holdB holdV
  rw [getD_set _ _ _ _ (by omega)]
  by_cases e : q = q'
  · subst e
    rw [if_pos rfl, has_del_same, atKey_del_same]
    exact ⟨by simp, by simp⟩
  · rw [if_neg e, has_del_other (fun h => e (kI_nat h).symm), atKey_del_other (fun h => e (kI_nat h).symm)]
    exact h q' hq'
theorem zeroInt (w : World) : (zeroValue 3).run Tryd.prog w = .ok (.int .i64 0) w := by kernel_rfl

end Go.Proofs.YtfcfhgophpoibaaDoor
