/- Contracts of the laws' own helpers on a message. -/
import Derived.Test.YtopjdidigfdhbaaDoorRow3b
namespace Go.Proofs.YtopjdidigfdhbaaDoor
open Go.RowKit

theorem Blk.two' {w : World} {g : Nat} {t : TypeId} {a b : Value} (h : Blk w g t #[a, b]) : w.cell? ⟨g, 0, none⟩ = some a ∧ w.cell? ⟨g, 1, none⟩ = some b := ⟨h.cell 0, h.cell 1⟩

/-- The post of a function that returns a new message. -/
def RetM (w : World) (f : Int) (xs : List Int) (e : Ending) (w' : World) : Prop :=
  ∃ A n c, e = .returned (.agg #[.int .i64 f, .slice A n c]) ∧ OI w' w.heap.size (.slice A n c) n xs ∧ Below w.heap.size w w'


end Go.Proofs.YtopjdidigfdhbaaDoor
