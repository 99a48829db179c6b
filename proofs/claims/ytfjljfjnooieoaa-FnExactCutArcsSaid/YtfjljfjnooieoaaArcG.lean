/-
  GraphOfArcs on both sides. For lists of at most 2^20 elements.
-/
import Derived.Test.YtfjljfjnooieoaaGraphOf
import Derived.Test.YtfjljfjnooieoaaArcsAt
import Derived.Test.YtfjljfjnooieoaaFillS
import Derived.Laws.EntriesVeiled
namespace Go.Proofs.Ytfjljfjnooieoaa
open Go.RowKit

theorem addE_comm (rs : List Int) (v w : Nat) : addE rs v w = addE rs w v := by
  unfold addE
  apply rowsOf_congr
  intro i _ j _
  congr 1
  unfold isE; rw [Bool.or_comm]
/-- Do two arcs meet? -/
def arcP (c : Int) (f l : List Int) (i j : Nat) : Bool := onB c f l j (gi f i) || onB c f l i (gi f j)
def arcG (c : Int) (f l : List Int) : List Int := gOf f.length (arcP c f l)






end Go.Proofs.Ytfjljfjnooieoaa
