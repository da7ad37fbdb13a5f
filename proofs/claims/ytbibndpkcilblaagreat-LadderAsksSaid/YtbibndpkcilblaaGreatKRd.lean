/- Layer 28, the reference: Dropped. -/
import Derived.Test.YtbibndpkcilblaaGreatKRg
import Derived.Deep.RegionHeld3
import Derived.Deep.RegionHeld
namespace Go.Proofs.YtbibndpkcilblaaGreat
open Go.RowKit Go.Shelf Go.Sort
set_option maxRecDepth 100000

end Go.Proofs.YtbibndpkcilblaaGreat
