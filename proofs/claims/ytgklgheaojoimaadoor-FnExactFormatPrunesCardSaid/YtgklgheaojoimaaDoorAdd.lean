/-
  Sums and differences of sets as numbers.
-/
import Derived.Test.YtgklgheaojoimaaDoorSets
namespace Go.Proofs.YtgklgheaojoimaaDoor

theorem add_disj {a b : Nat} (ha : a < 9223372036854775808) (hb : b < 9223372036854775808) (h : a &&& b = 0) : a + b = a ||| b := by
  have h1 := BitVec.add_eq_or_of_and_eq_zero (BitVec.ofNat 64 a) (BitVec.ofNat 64 b) (by rw [← BitVec.ofNat_and, h])
  have h2 := congrArg BitVec.toNat h1
  simp only [BitVec.toNat_add, BitVec.toNat_or, BitVec.toNat_ofNat] at h2
  rw [Nat.mod_eq_of_lt (a := a) (by omega), Nat.mod_eq_of_lt (a := b) (by omega), Nat.mod_eq_of_lt (by omega)] at h2
  exact h2
/-- What is in a and not in b, and what is in both, make up a. -/
theorem nDiff_add {a b : Nat} (ha : a < 9223372036854775808) : nDiff a b + (b &&& a) = a := by
  have h1 : nDiff a b < 9223372036854775808 := nDiff_lt (n := 63) ha
  have h2 : b &&& a ≤ a := Nat.and_le_right
  rw [add_disj h1 (by omega)]
  · apply Nat.eq_of_testBit_eq; intro i
    rw [Nat.testBit_or, testBit_nDiff, Nat.testBit_and]
    cases a.testBit i <;> cases b.testBit i <;> rfl
  · apply Nat.eq_of_testBit_eq; intro i
    rw [Nat.testBit_and, testBit_nDiff, Nat.testBit_and, Nat.zero_testBit]
    cases a.testBit i <;> cases b.testBit i <;> rfl
theorem pow_le_of_testBit {S v : Nat} (h : S.testBit v = true) : 2 ^ v ≤ S := Nat.ge_two_pow_of_testBit h


end Go.Proofs.YtgklgheaojoimaaDoor
