/-
  l6Filled and WidthOfOrder of the reference. For at most 2^20 rows and list elements.
-/
import Derived.Test.YtgklgheaojoimaaDoorFill
import Derived.Test.YtgklgheaojoimaaDoorAddE
import Derived.Deep.RegionWith
namespace Go.Proofs.YtgklgheaojoimaaDoor
open Go.RowKit




end Go.Proofs.YtgklgheaojoimaaDoor
