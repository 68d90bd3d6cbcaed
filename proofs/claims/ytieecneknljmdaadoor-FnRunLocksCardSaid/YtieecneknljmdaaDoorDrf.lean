/- Contracts of the laws' own helpers on a draft. -/
import Derived.Test.YtieecneknljmdaaDoorOpS
import Derived.Test.YtieecneknljmdaaDoorApp3
namespace Go.Proofs.YtieecneknljmdaaDoor
open Go.RowKit

theorem O3.set_low {t : TypeId} {w : World} {B n : Nat} {v : Value} {xs : List T3} (h : O3 t w B v n xs) {p : Addr} (hp : p.block < B) (u : Value) : O3 t (w.setCell p u) B v n xs := ⟨ownsRow_setCell_below h.1 hp u, h.2⟩
theorem O3.form {t : TypeId} {w : World} {B n : Nat} {v : Value} {xs : List T3} (h : O3 t w B v n xs) : ∃ A c, v = .slice A n c ∧ n ≤ c ∧ c ≤ maxLen ∧ R3 w A n xs := by
  obtain ⟨A, c, h1, h2, h3, _⟩ := OF.form h.of
  obtain ⟨A', c', h4, _, _, h5⟩ := h.s3
  rw [h1] at h4; injection h4 with e1 _ e3; subst e1; subst e3
  exact ⟨A, c, h1, h2, h3, h5⟩
theorem Blk.two' {w : World} {g : Nat} {t : TypeId} {a b : Value} (h : Blk w g t #[a, b]) : w.cell? ⟨g, 0, none⟩ = some a ∧ w.cell? ⟨g, 1, none⟩ = some b := ⟨h.cell 0, h.cell 1⟩

/-- The post of a function that returns a new draft. -/
def RetD (w : World) (f : Int) (xs : List T3) (e : Ending) (w' : World) : Prop :=
  ∃ A n c, e = .returned (.agg #[.int .i64 f, .slice A n c]) ∧ O3 51 w' w.heap.size (.slice A n c) n xs ∧ Below w.heap.size w w'


end Go.Proofs.YtieecneknljmdaaDoor
