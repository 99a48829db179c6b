/-
  The walks of IsWay on both sides. For at most 2^20 rows and list elements; the program's wants that the list's capacity is at least its length.
-/
import Derived.Test.YtgklgheaojoimaaDoorDistinct
namespace Go.Proofs.YtgklgheaojoimaaDoor
open Go.RowKit

def edgeAt (rs l : List Int) (j : Nat) : Bool := (gn rs (gi l (j - 1)).toNat).testBit (gi l j).toNat
def wayB (n : Int) (rs l : List Int) : Bool := vertsB n rs l && decide (1 ≤ l.length ∧ ∀ j, j < l.length → 1 ≤ j → edgeAt rs l j = true)
theorem wayB_no {n : Int} {rs l : List Int} (h : vertsB n rs l = false) : wayB n rs l = false := by unfold wayB; rw [h]; rfl
theorem wayB_nil {n : Int} {rs l : List Int} (h : l.length = 0) : wayB n rs l = false := by unfold wayB; rw [decide_eq_false (by omega), Bool.and_false]
theorem wayB_bad {n : Int} {rs l : List Int} {j : Nat} (h1 : 1 ≤ j) (h2 : j < l.length) (h : edgeAt rs l j = false) : wayB n rs l = false := by
  unfold wayB; rw [decide_eq_false, Bool.and_false]; rintro ⟨_, a⟩; rw [a j h2 h1] at h; cases h
theorem wayB_ok {n : Int} {rs l : List Int} (hv : vertsB n rs l = true) (h0 : 1 ≤ l.length) (h : ∀ j, j < l.length → 1 ≤ j → edgeAt rs l j = true) : wayB n rs l = true := by
  unfold wayB; rw [hv, Bool.true_and, decide_eq_true_eq]; exact ⟨h0, h⟩
/-- A vertex of a list of different vertices, as a natural number. -/
theorem vert_at {n : Int} {rs l : List Int} (h : vertsB n rs l = true) {j : Nat} (hj : j < l.length) : ∃ v : Nat, gi l j = v ∧ v < rs.length := by
  obtain ⟨a, b⟩ := ((vertsB_true.1 h).2 j hj).1
  exact ⟨(gi l j).toNat, by omega, by omega⟩



end Go.Proofs.YtgklgheaojoimaaDoor
