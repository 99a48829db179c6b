/-
  l6Filled and WidthOfOrder of the reference. For at most 2^20 rows and list elements.
-/
import Derived.Test.YtfkehmpckhmkbaaDoorPkCardArcs30
import Derived.Test.YtfkehmpckhmkbaaDoorPkCardArcs11
import Derived.Deep.RegionWith
namespace Go.Proofs.YtfkehmpckhmkbaaDoor
open Go.RowKit




end Go.Proofs.YtfkehmpckhmkbaaDoor
