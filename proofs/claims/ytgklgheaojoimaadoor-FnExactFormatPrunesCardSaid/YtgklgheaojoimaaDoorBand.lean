/-
  BandOf of the reference. For at most 2^20 rows.
-/
import Derived.Test.YtgklgheaojoimaaDoorWidth
import Derived.Test.YtgklgheaojoimaaDoorWay
namespace Go.Proofs.YtgklgheaojoimaaDoor
open Go.RowKit

/-- Are places i and k of an order neighbours? -/
def nearB (rs l : List Int) (i k : Nat) : Bool := (gn rs (gi l i).toNat).testBit (gi l k).toNat
def bandRow (rs l : List Int) (i : Nat) : Nat → Nat → Nat
  | 0, a => a
  | k + 1, a => if nearB rs l i k = true then (if bandRow rs l i k a < i - k then i - k else bandRow rs l i k a) else bandRow rs l i k a
def bandTo (rs l : List Int) : Nat → Nat
  | 0 => 0
  | i + 1 => bandRow rs l i i (bandTo rs l i)
def bandV (n : Int) (rs l : List Int) : Int := if orderB n rs l = true then bandTo rs l l.length else -1
theorem bandV_no {n : Int} {rs l : List Int} (h : orderB n rs l = false) : bandV n rs l = -1 := by unfold bandV; rw [if_neg (by rw [h]; decide)]
theorem bandV_of {n : Int} {rs l : List Int} (h : orderB n rs l = true) : bandV n rs l = bandTo rs l l.length := by unfold bandV; rw [if_pos h]
theorem bandRow_no {rs l : List Int} {i k a : Nat} (h : nearB rs l i k = false) : bandRow rs l i (k + 1) a = bandRow rs l i k a := by
  show (if nearB rs l i k = true then _ else _) = _; rw [if_neg (by rw [h]; decide)]
theorem bandRow_yes {rs l : List Int} {i k a : Nat} (h : nearB rs l i k = true) : bandRow rs l i (k + 1) a = if bandRow rs l i k a < i - k then i - k else bandRow rs l i k a := by
  show (if nearB rs l i k = true then _ else _) = _; rw [if_pos h]
/-- What it bounds. -/
theorem bandRow_le {rs l : List Int} {i M : Nat} : ∀ k a, bandRow rs l i k a ≤ M ↔ a ≤ M ∧ ∀ j, j < k → nearB rs l i j = true → i - j ≤ M
  | 0, a => by simp [bandRow]
  | k + 1, a => by
    have ih := bandRow_le (rs := rs) (l := l) (i := i) (M := M) k a
    cases h : nearB rs l i k
    · rw [bandRow_no h, ih]
      constructor
      · rintro ⟨h1, h2⟩
        refine ⟨h1, fun j hj hn => ?_⟩
        by_cases e : j = k
        · subst e; rw [h] at hn; cases hn
        · exact h2 j (by omega) hn
      · rintro ⟨h1, h2⟩; exact ⟨h1, fun j hj => h2 j (by omega)⟩
    · have key : bandRow rs l i (k + 1) a ≤ M ↔ bandRow rs l i k a ≤ M ∧ i - k ≤ M := by rw [bandRow_yes h]; split <;> omega
      rw [key, ih]
      constructor
      · rintro ⟨⟨h1, h2⟩, h3⟩
        refine ⟨h1, fun j hj hn => ?_⟩
        by_cases e : j = k
        · subst e; exact h3
        · exact h2 j (by omega) hn
      · rintro ⟨h1, h2⟩; exact ⟨⟨h1, fun j hj => h2 j (by omega)⟩, h2 k (by omega) h⟩
theorem bandTo_le {rs l : List Int} {M : Nat} : ∀ n, bandTo rs l n ≤ M ↔ ∀ i, i < n → ∀ j, j < i → nearB rs l i j = true → i - j ≤ M
  | 0 => by simp [bandTo]
  | n + 1 => by
    have ih := bandTo_le (rs := rs) (l := l) (M := M) n
    show bandRow rs l n n (bandTo rs l n) ≤ M ↔ _
    rw [bandRow_le, ih]
    constructor
    · rintro ⟨h1, h2⟩ i hi
      by_cases e : i = n
      · subst e; exact h2
      · exact h1 i (by omega)
    · intro h; exact ⟨fun i hi => h i (by omega), h n (by omega)⟩


end Go.Proofs.YtgklgheaojoimaaDoor
