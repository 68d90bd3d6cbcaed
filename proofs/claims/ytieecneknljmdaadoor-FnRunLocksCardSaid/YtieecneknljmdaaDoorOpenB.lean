/- The frame's words of a law over a code of bytes, beside listed variables. -/
import Derived.Test.YtieecneknljmdaaDoorCards
import Derived.Test.YtieecneknljmdaaDoorTie
import Derived.Test.YtieecneknljmdaaDoorDraw3
import Derived.ProofKit
import Derived.OpenShut
import Derived.ShutString
import Derived.ChangeOld
import Derived.LaidMore
import Derived.Stop.Joined
import Derived.SevenTiedAt
namespace Go.Proofs.YtieecneknljmdaaDoor
open Go.ChangeShapes Go.WideShapes Go.ChangeAt Go.RowKit

theorem own : ownKnob Tryd.prog.godebug = none := by kernel_rfl
theorem laidOut : laidOutB Tryd.prog = true := by kernel_rfl

set_option maxRecDepth 100000 in
theorem open_bytesA {H : Type} {enc : TypeId × Value → H} {W : World} {base : Nat} {sp : Nat → Bool} {hd : Bool} {b0 : Nat} {v : Value} {d : DataW H} {p : List MemPlace} (hv : Value.okWide Tryd.prog W .any base 22 v) (h : DataW.Trod enc Tryd.prog W b0 sp hd 22 v d p) :
    ∃ a n c, v = .slice a n c ∧ n ≤ c ∧ c ≤ maxLen ∧ BY W W.heap.size a n := by
  obtain ⟨a, n, c, rfl⟩ := okWide_slice Tryd.underlying22 hv
  obtain ⟨fuel, hf⟩ := h
  have hf' : DataW.trod enc Tryd.prog W b0 sp hd fuel 22 [.slice a n c] = some (d, p) := by simpa [Value.cells] using hf
  rcases open_ints Tryd.underlying22 Tryd.underlying5 (by kernel_rfl) hf' with ⟨hcs, _⟩ | ⟨y, l, k, zs, hcs, _, hl, hm, hz, _, hcell, hwf⟩
  · simp at hcs
    obtain ⟨rfl, rfl, rfl⟩ := hcs
    exact ⟨none, 0, 0, rfl, Nat.le_refl _, Nat.zero_le _, fun k hk => absurd hk (by omega)⟩
  · simp at hcs
    obtain ⟨rfl, rfl, rfl⟩ := hcs
    have hz' : n ≤ zs.length := by rw [hz]; split <;> omega
    refine ⟨_, n, c, rfl, hl, hm, fun j hj => ?_⟩
    have hc0 := hcell 0 (by omega)
    obtain ⟨b, off, sp0⟩ := y
    have hsp : sp0 = none := by
      cases sp0 with
      | none => rfl
      | some s =>
        simp only [Addr.add, World.cell?] at hc0
        split at hc0
        · simp at hc0
        · cases hc0
    subst hsp
    have hadd : ∀ k : Nat, (⟨b, off, none⟩ : Addr).add k = ⟨b, off + k, none⟩ := fun k => by unfold Addr.add; split <;> simp_all
    have hj' : j < zs.length := by omega
    have hc := hcell j hj'
    rw [hadd] at hc
    obtain ⟨h0, h1⟩ := bounds_u8 (hwf (zs[j]) (List.getElem_mem hj'))
    refine ⟨b, off, zs[j], rfl, World.block_lt_of_cell? W _ hc, ?_, h0, h1⟩
    rw [hc]; simp [hj']

end Go.Proofs.YtieecneknljmdaaDoor
