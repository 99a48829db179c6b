/-
  GraphOfArcs on both sides, as the law wants it: a list of rows and whether it is a graph.
-/
import Derived.Test.YtfjljfjnooieoaaArcG
import Derived.Test.YtfjljfjnooieoaaMarkX
namespace Go.Proofs.Ytfjljfjnooieoaa
open Go.RowKit

/-- What a call that makes a graph returns. -/
def RetG (w : World) (R : List Int) (ok : Bool) (e : Ending) (w' : World) : Prop :=
  ∃ ao cap, e = .returned (.tuple #[.agg #[.int .i64 R.length, .slice ao R.length cap], .bool ok]) ∧ Below w.heap.size w w' ∧ OwnE w' w.heap.size ao cap R
theorem RetG.of {w w' : World} {R : List Int} {ok : Bool} {e : Ending} {N g1 cap : Nat} (hN : R.length = N) (h : e = .returned (.tuple #[.agg #[.int .i64 N, .slice (some ⟨g1, 0, none⟩) N cap], .bool ok])) (hB : Below w.heap.size w w') (hg : w.heap.size ≤ g1) (hR : RowAt w' g1 cap R) : RetG w R ok e w' :=
  ⟨_, cap, by rw [h, hN], hB, hR.own hg⟩
theorem RetG.no {w w' : World} {e : Ending} (h : e = .returned (.tuple #[.agg #[.int .i64 0, .slice none 0 0], .bool false])) (hB : Below w.heap.size w w') : RetG w [] false e w' :=
  ⟨none, 0, h, hB, .inl (OwnL.nil _ _)⟩


end Go.Proofs.Ytfjljfjnooieoaa
