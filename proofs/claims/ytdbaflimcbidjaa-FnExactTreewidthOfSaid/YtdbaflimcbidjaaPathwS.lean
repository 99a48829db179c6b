/-
  PathwidthOf of the reference. For at most 2^20 rows.
-/
import Derived.Test.YtdbaflimcbidjaaPathwL
namespace Go.Proofs.Ytdbaflimcbidjaa
open Go.RowKit

/-- What has been reckoned for the sets below k. -/
def dpL (c : Nat → Nat → Nat) (e : Nat → Nat) (N k : Nat) : List Int := (List.range k).map fun S => (dpV c e N S : Int)
theorem dpL_len (c : Nat → Nat → Nat) (e : Nat → Nat) (N k : Nat) : (dpL c e N k).length = k := by simp [dpL]
theorem dpL_at {c : Nat → Nat → Nat} {e : Nat → Nat} {N k S : Nat} (h : S < k) : gi (dpL c e N k) S = (dpV c e N S : Int) := by simp [dpL, gi, h]
theorem dpL_succ (c : Nat → Nat → Nat) (e : Nat → Nat) (N k : Nat) : dpL c e N (k + 1) = dpL c e N k ++ [(dpV c e N k : Int)] := by unfold dpL; rw [List.range_succ, List.map_append]; rfl
theorem dpL_one (c : Nat → Nat → Nat) (e : Nat → Nat) (N : Nat) : dpL c e N 1 = [0] := by simp [dpL, dpV_zero]


end Go.Proofs.Ytdbaflimcbidjaa
