/- Words for regions walked by what holds behind any set of their operations. -/
import Derived.Test.YtopjdidigfdhbaaDoorRegInv
import Derived.Test.YtopjdidigfdhbaaDoorDraw3
namespace Go.Proofs.YtopjdidigfdhbaaDoor
open Go.RowKit

/-- What holds as long as an operation is not listed. -/
def Nst (l : Array Bool) (k : Nat) (p : Prop) : Prop := l.getD k false = false → p
theorem Nst.on {l : Array Bool} {k : Nat} {p : Prop} (h : Nst l k p) (hk : l[k]? = some false) : p := h (by rw [Array.getD_eq_getD_getElem?, hk]; rfl)
theorem Nst.mono {l : Array Bool} {k : Nat} {p q : Prop} (h : Nst l k p) (f : p → q) : Nst l k q := fun hk => f (h hk)
theorem Nst.set_ne {l : Array Bool} {k i : Nat} {p : Prop} (h : Nst l k p) (hk : i ≠ k) : Nst (l.setIfInBounds i true) k p := fun hl => h (by rwa [getD_set_ne' hk] at hl)
theorem Nst.gone {l : Array Bool} {k : Nat} {p : Prop} (h : l[k]? = some false) : Nst (l.setIfInBounds k true) k p := fun hl => by rw [getD_set_self h] at hl; cases hl
theorem Nst.all {l : Array Bool} {k : Nat} {p : Prop} (h : p) : Nst l k p := fun _ => h
theorem Nst.off {l : Array Bool} {k i : Nat} {p : Prop} (h : l.getD k false = true) (hk : i ≠ k) : Nst (l.setIfInBounds i true) k p := fun hl => by rw [getD_set_ne' hk, h] at hl; cases hl
def NV (k : Nat) (u : Value) : Prop := ∃ x : Nat, u = .int .i64 x ∧ x < k
def IV (u : Value) : Prop := ∃ x : Int, u = .int .i64 x
theorem grown_row {a b c : World} {g : Nat} {row : Option Nat} (h : a.grownBy b (some g)) (k : b.grownBy c row) (hr : ∀ k, row = some k → a.heap.size ≤ k) : a.grownBy c (some g) :=
  ⟨k.os.trans h.os, k.tape.trans h.tape, k.output.trans h.output, Nat.le_trans h.size k.size, fun i hi hn => (k.block i (Nat.lt_of_lt_of_le hi h.size) (fun e => by have := hr i e.symm; omega)).trans (h.block i hi hn)⟩
section
variable {w w' : World} {g lo : Nat}
theorem cell_kpW {b i : Nat} (hb : lo ≤ b) (hs : b < w.heap.size) (hg : w.grownBy w' (some g)) (hl : g < lo) : w'.cell? ⟨b, i, none⟩ = w.cell? ⟨b, i, none⟩ :=
  World.cell?_of_block (hg.block b hs (fun e => by injection e with e; omega))
def PI (w : World) (lo : Nat) (u : Value) : Prop := ∃ b i, u = .pointer (some ⟨b, i, none⟩) ∧ lo ≤ b ∧ b < w.heap.size ∧ ∃ y : Int, w.cell? ⟨b, i, none⟩ = some (.int .i64 y)
theorem PI.kp {u : Value} (h : PI w lo u) (hg : w.grownBy w' (some g)) (hl : g < lo) : PI w' lo u := by
  obtain ⟨b, i, e, hb, hs, y, hy⟩ := h; exact ⟨b, i, e, hb, Nat.lt_of_lt_of_le hs hg.size, y, (cell_kpW hb hs hg hl).trans hy⟩
end

end Go.Proofs.YtopjdidigfdhbaaDoor
