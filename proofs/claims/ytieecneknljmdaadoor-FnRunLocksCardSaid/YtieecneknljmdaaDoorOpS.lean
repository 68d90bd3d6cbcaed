/- Contracts of the laws' own helpers on Op and []Op. XEdgeS with another name; heldOpS besides. -/
import Derived.Test.YtieecneknljmdaaDoorRow3b
import Derived.Deep.RegionHeld3
namespace Go.Proofs.YtieecneknljmdaaDoor
open Go.RowKit









end Go.Proofs.YtieecneknljmdaaDoor
