/- Contracts of the laws' own helpers on Op and []Op. XEdgeS with another name; heldOpS besides. -/
import Derived.Test.YtipmfpfmhgdgdaaDoorRow3b
import Derived.Deep.RegionHeld3
namespace Go.Proofs.YtipmfpfmhgdgdaaDoor
open Go.RowKit









end Go.Proofs.YtipmfpfmhgdgdaaDoor
