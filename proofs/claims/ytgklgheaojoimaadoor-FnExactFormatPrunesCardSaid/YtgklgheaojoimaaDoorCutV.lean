/-
  CutVertices on both sides. For at most 2^20 rows.
-/
import Derived.Test.YtgklgheaojoimaaDoorPartsW
import Derived.Test.YtgklgheaojoimaaDoorAdd
import Derived.Deep.RegionHeld3
namespace Go.Proofs.YtgklgheaojoimaaDoor
open Go.RowKit

/-- The numbers below k for which something holds, as a set. -/
def accB (p : Nat → Bool) : Nat → Nat
  | 0 => 0
  | k + 1 => if p k = true then accB p k ||| 2 ^ k else accB p k
theorem accB_lt (p : Nat → Bool) : ∀ k, accB p k < 2 ^ k
  | 0 => by simp [accB]
  | k + 1 => by
    have ih := accB_lt p k
    have e : 2 ^ (k + 1) = 2 ^ k + 2 ^ k := by omega
    unfold accB; split
    · rw [or_pow _ _ ih]; omega
    · omega
theorem accB_yes {p : Nat → Bool} {k : Nat} (h : p k = true) : accB p (k + 1) = accB p k ||| 2 ^ k := by show (if p k = true then _ else _) = _; rw [if_pos h]
theorem accB_no {p : Nat → Bool} {k : Nat} (h : p k = false) : accB p (k + 1) = accB p k := by show (if p k = true then _ else _) = _; rw [if_neg (by rw [h]; decide)]
theorem accB_add {p : Nat → Bool} {k : Nat} (h : p k = true) : accB p (k + 1) = accB p k + 2 ^ k := by rw [accB_yes h, or_pow _ _ (accB_lt p k)]
theorem accB_bit (p : Nat → Bool) (i : Nat) : ∀ k, (accB p k).testBit i = (decide (i < k) && p i)
  | 0 => by simp [accB]
  | k + 1 => by
    have ih := accB_bit p i k
    cases h : p k
    · rw [accB_no h, ih]
      by_cases e : i = k
      · subst e; simp [h]
      · have : (i < k + 1) ↔ i < k := by omega
        simp [this]
    · rw [accB_yes h, Nat.testBit_or, ih, Nat.testBit_two_pow]
      by_cases e : k = i
      · subst e; simp [h]
      · have : (i < k + 1) ↔ i < k := by omega
        simp [this, e]

/-- Is v a vertex without which there are more parts? -/
def cutP (rs : List Int) (v : Nat) : Bool := decide ((partsOf rs (2 ^ rs.length - 1)).length < (partsOf rs (2 ^ rs.length - 1 - 2 ^ v)).length)
def cutVN (n : Int) (rs : List Int) : Int := if isGraphB n rs = true then accB (cutP rs) rs.length else 0
theorem cutVN_no {n : Int} {rs : List Int} (h : isGraphB n rs = false) : cutVN n rs = 0 := by unfold cutVN; rw [if_neg (by rw [h]; decide)]
theorem cutVN_of {n : Int} {rs : List Int} (h : isGraphB n rs = true) : cutVN n rs = accB (cutP rs) rs.length := by unfold cutVN; rw [if_pos h]

/-- All vertices but one. -/
theorem but_facts {N v : Nat} (hN : N ≤ 7) (hv : v < N) : 2 ^ N - 1 - 2 ^ v < 2 ^ N ∧ nDiff (2 ^ N - 1) (2 ^ v) = 2 ^ N - 1 - 2 ^ v ∧ 2 ^ v ≤ 2 ^ N - 1 := by
  have h1 : 2 ^ N ≤ 128 := Nat.pow_le_pow_right (n := 2) (by decide) hN
  have hs : subN (2 ^ v) (2 ^ N - 1) := pow_sub (all_bit.2 hv)
  have h2 := hs.le
  have := Nat.two_pow_pos N
  have := Nat.two_pow_pos v
  exact ⟨by omega, nDiff_minus (by omega) hs, h2⟩



end Go.Proofs.YtgklgheaojoimaaDoor
