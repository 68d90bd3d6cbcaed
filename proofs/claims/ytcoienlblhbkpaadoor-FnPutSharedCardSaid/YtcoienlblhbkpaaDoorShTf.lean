/- The end of a statement that makes a copy of a struct of two rows. -/
import Derived.Test.YtcoienlblhbkpaaDoorShP
import Derived.Deep.DeepCutAuto
namespace Go.Proofs.YtcoienlblhbkpaaDoor
open Go.RowKit

theorem oiAt {w : World} {g B : Nat} (h : w.heap.size = g) (hB : B ≤ g) : OI (w.alloc (.cells #[] 3)) B (.slice (some ⟨g, 0, none⟩) 0 0) 0 [] := by
  subst h; exact (OI.empty w).mono hB
theorem blkAt {w : World} {g : Nat} (h : w.heap.size = g) (t : TypeId) (cs : Array Value) : Blk (w.alloc (.cells cs t)) g t cs := by
  subst h; exact Blk.new w t cs
theorem apNew {g1 g2 n1 c1 n2 c2 : Nat} (h : g2 ≠ g1) : (Value.slice (some ⟨g2, 0, none⟩) n2 c2).ownBlock = none ∨ (Value.slice (some ⟨g2, 0, none⟩) n2 c2).ownBlock ≠ (Value.slice (some ⟨g1, 0, none⟩) n1 c1).ownBlock :=
  .inr fun e => h (Option.some.inj e)
theorem apNew2 {g1 g2 n1 c1 n2 c2 : Nat} (h : g2 ≠ g1) : Apart (Value.slice (some ⟨g2, 0, none⟩) n2 c2) (Value.slice (some ⟨g1, 0, none⟩) n1 c1) := apNew h
theorem neNew {g1 g2 n1 c1 : Nat} (h : g2 ≠ g1) : some g2 ≠ (Value.slice (some ⟨g1, 0, none⟩) n1 c1).ownBlock := fun e => h (Option.some.inj e)
theorem szd (w : World) : w.drew.heap.size = w.heap.size := rfl


/-- Behind 'out := S{In: append([]int{}, s.In...), Out: append([]int{}, s.Out...)}'. -/
def TwoR (w w3 : World) (A1 : Option Addr) (k1 c1 : Nat) (A2 : Option Addr) (k2 c2 : Nat) (xs ys : List Int) (s : Value) (wx : World) : Prop :=
  ∃ (g : Nat) (A5 : Option Addr) (n5 c5 : Nat) (A6 : Option Addr) (n6 c6 : Nat), s = .pointer (some ⟨g, 0, none⟩) ∧ Blk wx g 27 #[.slice A5 n5 c5, .slice A6 n6 c6] ∧ OI wx w3.heap.size (.slice A5 n5 c5) n5 xs ∧ OI wx w3.heap.size (.slice A6 n6 c6) n6 ys ∧ Apart (.slice A5 n5 c5) (.slice A6 n6 c6) ∧ w3.heap.size ≤ g ∧ Blk wx w.heap.size 27 #[.slice A1 k1 c1, .slice A2 k2 c2] ∧ Blk wx (w.heap.size + 1) 27 #[.slice none 0 0, .slice none 0 0] ∧ Below w3.heap.size w3 wx
theorem two_old {w w3 w6 : World} {A1 A2 A5 A6 : Option Addr} {k1 c1 k2 c2 n5 c5 n6 c6 g B B' : Nat} {xs ys : List Int} (KM : Blk w6 g 27 #[.slice none 0 0, .slice none 0 0])
    (o5 : OI w6 B (.slice A5 n5 c5) n5 xs) (o6 : OI w6 B' (.slice A6 n6 c6) n6 ys) (hB : w3.heap.size ≤ B) (hB' : w3.heap.size ≤ B') (ap : Apart (.slice A5 n5 c5) (.slice A6 n6 c6)) (hg : w3.heap.size ≤ g)
    (JX : Blk w6 w.heap.size 27 #[.slice A1 k1 c1, .slice A2 k2 c2]) (KX : Blk w6 (w.heap.size + 1) 27 #[.slice none 0 0, .slice none 0 0]) (kl : w.heap.size + 1 < w3.heap.size) (BW : Below w3.drew.heap.size w3.drew w6) :
    TwoR w w3 A1 k1 c1 A2 k2 c2 xs ys (.pointer (some ⟨g, 0, none⟩)) ((w6.setCell ⟨g, 0, none⟩ (.slice A5 n5 c5)).setCell ⟨g, 1, none⟩ (.slice A6 n6 c6)) := by
  have gg : w6.grownBy ((w6.setCell ⟨g, 0, none⟩ (.slice A5 n5 c5)).setCell ⟨g, 1, none⟩ (.slice A6 n6 c6)) (some g) :=
    grown_setCell (p := ⟨g, 1, none⟩) (grown_setCell (p := ⟨g, 0, none⟩) (World.grownBy.refl w6 (some g)) (.inl rfl) _) (.inl rfl) _
  refine ⟨g, A5, n5, c5, A6, n6, c6, rfl, (KM.set_ 0 _).set_ 1 _, (o5.mono hB).grown gg (.inr (o5.ne_blk KM (by decide))), (o6.mono hB').grown gg (.inr (o6.ne_blk KM (by decide))), ap, hg, ?_, ?_, ?_⟩
  · exact (JX.far (p := ⟨g, 0, none⟩) (by simp; omega) _).far (p := ⟨g, 1, none⟩) (by simp; omega) _
  · exact (KX.far (p := ⟨g, 0, none⟩) (by simp; omega) _).far (p := ⟨g, 1, none⟩) (by simp; omega) _
  · exact ((below_of_drew BW).setCell (p := ⟨g, 0, none⟩) (by simpa using hg) _).setCell (p := ⟨g, 1, none⟩) (by simpa using hg) _
theorem two_new {w w3 w6 : World} {A1 A2 A5 A6 : Option Addr} {k1 c1 k2 c2 n5 c5 n6 c6 B B' : Nat} {xs ys : List Int}
    (o5 : OI w6 B (.slice A5 n5 c5) n5 xs) (o6 : OI w6 B' (.slice A6 n6 c6) n6 ys) (hB : w3.heap.size ≤ B) (hB' : w3.heap.size ≤ B') (ap : Apart (.slice A5 n5 c5) (.slice A6 n6 c6))
    (JX : Blk w6 w.heap.size 27 #[.slice A1 k1 c1, .slice A2 k2 c2]) (KX : Blk w6 (w.heap.size + 1) 27 #[.slice none 0 0, .slice none 0 0]) (BW : Below w3.drew.heap.size w3.drew w6) :
    TwoR w w3 A1 k1 c1 A2 k2 c2 xs ys (.pointer (some ⟨w6.heap.size, 0, none⟩)) (w6.alloc (.cells #[.slice A5 n5 c5, .slice A6 n6 c6] 27)) := by
  have bw := below_of_drew BW
  exact ⟨w6.heap.size, A5, n5, c5, A6, n6, c6, rfl, Blk.new _ _ _, (o5.mono hB).alloc _, (o6.mono hB').alloc _, ap, bw.size, JX.alloc _, KX.alloc _, bw.alloc bw.size _⟩

end Go.Proofs.YtcoienlblhbkpaaDoor
