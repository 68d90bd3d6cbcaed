/- The drawing reader: small steps. -/
import Derived.Test.YtefopnkicllpeaaDoorDraw3
namespace Go.Proofs.YtefopnkicllpeaaDoor
open Go.RowKit

theorem belowG {w a b : World} {g : Nat} (h : Below w.heap.size w a) (k : a.grownBy b (some g)) (hg : w.heap.size ≤ g) : Below w.heap.size w b :=
  h.grown k h.size (fun i hi => by injection hi with hi; omega)
theorem RD.setC {w : World} {g P : Nat} (h : RD w g P) {p : Addr} (hp : g < p.block) (u : Value) : RD (w.setCell p u) g P :=
  h.grown (grown_setCell (World.grownBy.refl w (some p.block)) (.inl rfl) u) (fun k hk => by injection hk with hk; omega)
theorem grownDrew {w a : World} {r : Option Nat} (h : w.grownBy a r) : w.grownBy a.drew r := ⟨h.os, h.tape, h.output, h.size, h.block⟩
theorem RD.drew {w : World} {g P : Nat} (h : RD w g P) : RD w.drew g P := h.below (Below.refl _ _).drew
theorem BY.upB {w w' : World} {A : Option Addr} {n : Nat} (h : BY w w.heap.size A n) (hb : Below w.heap.size w w') : BY w' w'.heap.size A n := fun k hk => by
  obtain ⟨b, off, x, h1, h2, h3, h4⟩ := h k hk
  exact ⟨b, off, x, h1, Nat.lt_of_lt_of_le h2 hb.size, (hb.cell (p := ⟨b, off + k, none⟩) h2).trans h3, h4⟩

end Go.Proofs.YtefopnkicllpeaaDoor
