/-
  The walks of the laws' helpers on Arcs: szArcs, toArcs, eqArcs. The lists have at most 2^20 elements where copies are made.
-/
import Derived.Test.YtgklgheaojoimaaDoorConv
namespace Go.Proofs.YtgklgheaojoimaaDoor
open Go.RowKit

def szTwo (n m : Nat) : Int := if 1048576 < n + m then -1 else 1048576 - n - m




end Go.Proofs.YtgklgheaojoimaaDoor
