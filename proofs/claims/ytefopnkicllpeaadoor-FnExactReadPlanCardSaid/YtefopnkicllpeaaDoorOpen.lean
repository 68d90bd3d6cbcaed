/- The frame's words: each argument of a law opened to what its walk asks. -/
import Derived.Test.YtefopnkicllpeaaDoorLib
import Derived.ProofKit
import Derived.OpenShut
import Derived.ShutString
import Derived.ChangeOld
import Derived.Lib.SmallJoins
namespace Go.Proofs.YtefopnkicllpeaaDoor
open Go.ChangeShapes Go.WideShapes Go.ChangeAt Go.RowKit

theorem own : ownKnob Tryd.prog.godebug = none := by kernel_rfl
theorem laidOut : laidOutB Tryd.prog = true := by kernel_rfl

section
variable {H : Type} {enc : TypeId × Value → H} {W : World} {base : Nat} {sp : Nat → Bool} {hd : Bool} {fuel : Nat} {b0 : Nat}
theorem open_intsF {a : Option Addr} {n c : Nat} {x : DataW H × List MemPlace} (hf : DataW.trod enc Tryd.prog W b0 sp hd fuel 78 [.slice a n c] = some x) : ∃ xs, n ≤ c ∧ c ≤ maxLen ∧ RI W a n xs := by
  rcases open_ints Tryd.underlying78 Tryd.underlying3 (by kernel_rfl) hf with ⟨hcs, _⟩ | ⟨y, l, k, zs, hcs, _, hl, hm, hz, _, hcell, _⟩
  · simp at hcs
    obtain ⟨rfl, rfl, rfl⟩ := hcs
    exact ⟨[], Nat.le_refl _, Nat.zero_le _, RI.nil⟩
  · simp at hcs
    obtain ⟨rfl, rfl, rfl⟩ := hcs
    have hz' : n ≤ zs.length := by rw [hz]; split <;> omega
    refine ⟨zs.take n, hl, hm, by simp; omega, fun hn => ?_⟩
    have hc0 := hcell 0 (by omega)
    obtain ⟨b, off, sp0⟩ := y
    have hsp : sp0 = none := by
      cases sp0 with
      | none => rfl
      | some s =>
        simp only [Addr.add, World.cell?] at hc0
        split at hc0
        · simp at hc0
        · cases hc0
    subst hsp
    have hadd : ∀ k : Nat, (⟨b, off, none⟩ : Addr).add k = ⟨b, off + k, none⟩ := fun k => by unfold Addr.add; split <;> simp_all
    refine ⟨b, off, rfl, World.block_lt_of_cell? W _ hc0, fun k x hx => ?_⟩
    rw [List.getElem?_take] at hx
    split at hx
    · obtain ⟨hk, he⟩ := List.getElem?_eq_some_iff.1 hx
      rw [← hadd, hcell k hk]
      simp [he, hk]
    · cases hx
theorem slice_shape {u : Value} {x : DataW H × List MemPlace} (hf : DataW.trod enc Tryd.prog W b0 sp hd fuel 78 [u] = some x) : ∃ a n c, u = .slice a n c := by
  rcases open_ints Tryd.underlying78 Tryd.underlying3 (by kernel_rfl) hf with ⟨hcs, _⟩ | ⟨y, l, k, zs, hcs, _, _⟩
  · injection hcs with h _; exact ⟨_, _, _, h⟩
  · injection hcs with h _; exact ⟨_, _, _, h⟩
set_option maxRecDepth 100000 in
theorem open_intsA {v : Value} {d : DataW H} {p : List MemPlace} (hv : Value.okWide Tryd.prog W .any base 78 v) (h : DataW.Trod enc Tryd.prog W b0 sp hd 78 v d p) :
    ∃ a n c xs, v = .slice a n c ∧ n ≤ c ∧ c ≤ maxLen ∧ RI W a n xs := by
  obtain ⟨a, n, c, rfl⟩ := okWide_slice Tryd.underlying78 hv
  obtain ⟨fuel, hf⟩ := h
  obtain ⟨xs, h1, h2, h3⟩ := open_intsF (by simpa [Value.cells] using hf)
  exact ⟨a, n, c, xs, rfl, h1, h2, h3⟩
end


end Go.Proofs.YtefopnkicllpeaaDoor
