/- impl.ReadPlan, whole. -/
import Derived.Test.YtefopnkicllpeaaDoorSpM
import Derived.Test.YtefopnkicllpeaaDoorSpB
namespace Go.Proofs.YtefopnkicllpeaaDoor
open Go.RowKit

theorem impl_ReadPlan_c {s : List UInt8} {w : World} (hlen : s.length ≤ 1048576) (hV : LibV w) : Calls Tryd.prog 7 #[.string (str s)] w (ReadR s w) := by
  obtain ⟨m, hm⟩ := hV.max
  exact ReadPlan_c hlen hm (Lib.lt_of_cell hm) (fun W l hl hb => Atoi_c (hV.below hb) hl) (fun p ds h1 h2 h3 h4 h5 => plan_read h1 h2 h3 h4 h5) (fun p h1 h2 h3 => plan_good h1 h2 h3)

end Go.Proofs.YtefopnkicllpeaaDoor
