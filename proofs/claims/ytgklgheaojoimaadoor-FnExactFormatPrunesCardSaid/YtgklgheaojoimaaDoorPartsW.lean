/-
  The walks of l3Grow, PartsOf of the reference and of partOf, parts, PartsOf of the program. The graph is right, the set is one of it.
-/
import Derived.Test.YtgklgheaojoimaaDoorParts
import Derived.Test.YtgklgheaojoimaaDoorMark
namespace Go.Proofs.YtgklgheaojoimaaDoor
open Go.RowKit


theorem low_bit_fin : ∀ s : Fin 128, s.val ≠ 0 → bits .and .i64 (s.val : Int) (-(s.val : Int)) = ((2 ^ low s.val : Nat) : Int) := by decide +kernel
theorem low_bit {S : Nat} (hS : S < 128) (h0 : S ≠ 0) : bits .and .i64 (S : Int) (-(S : Int)) = ((2 ^ low S : Nat) : Int) := low_bit_fin ⟨S, hS⟩ h0


def ints (l : List Nat) : List Int := l.map Int.ofNat
theorem ints_len (l : List Nat) : (ints l).length = l.length := by simp [ints]
theorem ints_snoc (l : List Nat) (v : Nat) : ints (l ++ [v]) = ints l ++ [(v : Int)] := by simp [ints]

/-- What a call says that hands back a list of its own. -/
def RetE (w : World) (xs : List Int) (e : Ending) (w' : World) : Prop := ∃ ao cap, e = .returned (.slice ao xs.length cap) ∧ Below w.heap.size w w' ∧ OwnE w' w.heap.size ao cap xs



end Go.Proofs.YtgklgheaojoimaaDoor
