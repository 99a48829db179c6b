/-
  The walks of the laws' helpers on Graph: szGraph, toGraph, eqGraph. The rows are at most 2^20 where copies are made.
-/
import Derived.Test.YtgklgheaojoimaaDoorConv
namespace Go.Proofs.YtgklgheaojoimaaDoor
open Go.RowKit

def szOne (n : Nat) : Int := if 1048576 < n then -1 else 1048576 - n




end Go.Proofs.YtgklgheaojoimaaDoor
