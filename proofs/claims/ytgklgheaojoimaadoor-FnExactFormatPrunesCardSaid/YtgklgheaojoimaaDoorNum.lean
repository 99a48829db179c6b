/-
  The walks of the small functions on numbers: within, l1In, has. No conditions but that the count of a shift is not negative.
-/
import Derived.Test.YtgklgheaojoimaaDoorBase
namespace Go.Proofs.YtgklgheaojoimaaDoor
open Go.RowKit

theorem IntKind_i64_in (n : Int) (h0 : -9223372036854775808 ≤ n) (h1 : n ≤ 9223372036854775807) : IntKind.i64.wrap n = n := IntWalk.i64_in _ ⟨h0, h1⟩

theorem within_any (n lo hi : Int) (w : World) :
    Calls Tryd.prog 40 #[.int .i64 n, .int .i64 lo, .int .i64 hi] w fun e w' => e = .returned (.bool (decide (lo ≤ n) && decide (n ≤ hi))) ∧ w = w' := by
  go_enter Tryd.func40, Tryd.ntmps40
  go_wp2
  all_goals go_ret
  all_goals simp [*]
  all_goals omega

theorem l1In_any (n lo hi : Int) (w : World) :
    Calls Tryd.prog 47 #[.int .i64 n, .int .i64 lo, .int .i64 hi] w fun e w' => e = .returned (.bool (decide (lo ≤ n) && decide (n ≤ hi))) ∧ w = w' := by
  go_enter Tryd.func47, Tryd.ntmps47
  go_wp2
  all_goals go_ret
  all_goals simp [*]
  all_goals omega

/-- Bit v of s, as Go's s>>v&1 == 1 gives it. -/
def hasN (s : Int) (v : Nat) : Bool := bits .and .i64 (s / 2 ^ v) 1 == 1
/-- Go's 1<<n. -/
def pwN (n : Nat) : Int := IntKind.i64.wrap (2 ^ n)
@[go_sem] theorem hasN_fold (s : Int) (v : Nat) : (bits .and .i64 (s / 2 ^ v) 1 == 1) = hasN s v := rfl
theorem wrap_nat (n : Nat) (h : n < 9223372036854775808) : IntKind.i64.wrap (n : Int) = n := IntKind_i64_in _ (by omega) (by omega)
theorem bits_and_nat (a b : Nat) (ha : a < 9223372036854775808) (hb : b < 9223372036854775808) : bits .and .i64 (a : Int) (b : Int) = ((a &&& b : Nat) : Int) := by
  have h := Nat.and_lt_two_pow (n := 63) a hb
  show IntKind.i64.wrap ((BitVec.ofInt 64 a &&& BitVec.ofInt 64 b).toNat : Nat) = _
  simp only [BitVec.ofInt_natCast, BitVec.toNat_and, BitVec.toNat_ofNat]
  rw [Nat.mod_eq_of_lt (by omega), Nat.mod_eq_of_lt (by omega), wrap_nat _ (by omega)]
theorem bits_or_nat (a b : Nat) (ha : a < 9223372036854775808) (hb : b < 9223372036854775808) : bits .or .i64 (a : Int) (b : Int) = ((a ||| b : Nat) : Int) := by
  have h := Nat.or_lt_two_pow (n := 63) ha hb
  show IntKind.i64.wrap ((BitVec.ofInt 64 a ||| BitVec.ofInt 64 b).toNat : Nat) = _
  simp only [BitVec.ofInt_natCast, BitVec.toNat_or, BitVec.toNat_ofNat]
  rw [Nat.mod_eq_of_lt (by omega), Nat.mod_eq_of_lt (by omega), wrap_nat _ (by omega)]
theorem bits_xor_nat (a b : Nat) (ha : a < 9223372036854775808) (hb : b < 9223372036854775808) : bits .xor .i64 (a : Int) (b : Int) = ((a ^^^ b : Nat) : Int) := by
  have h := Nat.xor_lt_two_pow (n := 63) ha hb
  show IntKind.i64.wrap ((BitVec.ofInt 64 a ^^^ BitVec.ofInt 64 b).toNat : Nat) = _
  simp only [BitVec.ofInt_natCast, BitVec.toNat_xor, BitVec.toNat_ofNat]
  rw [Nat.mod_eq_of_lt (by omega), Nat.mod_eq_of_lt (by omega), wrap_nat _ (by omega)]
/-- The members of a that are not in b. -/
def nDiff (a b : Nat) : Nat := a ^^^ (a &&& b)
theorem testBit_nDiff (a b i : Nat) : (nDiff a b).testBit i = (a.testBit i && !b.testBit i) := by
  unfold nDiff; simp only [Nat.testBit_xor, Nat.testBit_and]; cases a.testBit i <;> cases b.testBit i <;> rfl
theorem nDiff_lt {a b n : Nat} (ha : a < 2 ^ n) : nDiff a b < 2 ^ n := Nat.xor_lt_two_pow ha (Nat.lt_of_le_of_lt Nat.and_le_left ha)
theorem bits_andNot_nat (a b : Nat) (ha : a < 9223372036854775808) : bits .andNot .i64 (a : Int) (b : Int) = (nDiff a b : Int) := by
  have h := nDiff_lt (n := 63) (b := b) ha
  have e : (BitVec.ofInt 64 a &&& ~~~BitVec.ofInt 64 b).toNat = nDiff a b := by
    simp only [BitVec.ofInt_natCast]
    apply Nat.eq_of_testBit_eq
    intro i
    rw [testBit_nDiff, ← BitVec.getLsbD, BitVec.getLsbD_and, BitVec.getLsbD_not, BitVec.getLsbD_ofNat, BitVec.getLsbD_ofNat]
    by_cases hi : i < 64
    · simp [hi]
    · have : a.testBit i = false := Nat.testBit_lt_two_pow (Nat.lt_of_lt_of_le (by omega : a < 2 ^ 63) (Nat.pow_le_pow_right (by decide) (by omega)))
      simp [hi, this]
  show IntKind.i64.wrap ((BitVec.ofInt 64 a &&& ~~~BitVec.ofInt 64 b).toNat : Nat) = _
  rw [e, wrap_nat _ (by omega)]
theorem bits_one (x : Int) : bits .and .i64 x 1 = x % 2 := by
  have e : (BitVec.ofInt 64 1).toNat = 1 := by decide
  show IntKind.i64.wrap ((BitVec.ofInt 64 x &&& BitVec.ofInt 64 1).toNat : Nat) = _
  rw [BitVec.toNat_and, e, Nat.and_one_is_mod, BitVec.toNat_ofInt, wrap_nat _ (by omega)]
  omega
@[go_sem] theorem hasN_fold0 (s : Int) (v : Nat) : (bits .and .i64 (s / 2 ^ v) 1 == 0) = !hasN s v := by
  unfold hasN; rw [bits_one, Bool.eq_iff_iff]; simp; omega
@[go_sem] theorem pwN_fold (n : Nat) : IntKind.i64.wrap (2 ^ n) = pwN n := rfl
/-- Of a number that is not negative: the bit. -/
theorem hasN_nat (s v : Nat) : hasN s v = s.testBit v := by
  unfold hasN
  rw [bits_one, Bool.eq_iff_iff]
  simp only [beq_iff_eq, Nat.testBit_eq_decide_div_mod_eq, decide_eq_true_eq]
  have : ((s : Int) / 2 ^ v) = ((s / 2 ^ v : Nat) : Int) := by simp
  rw [this]; omega
theorem or_pow (a k : Nat) (h : a < 2 ^ k) : a ||| 2 ^ k = a + 2 ^ k := by
  have := Nat.two_pow_add_eq_or_of_lt h 1
  rw [Nat.mul_one] at this
  rw [Nat.or_comm, ← this, Nat.add_comm]
theorem pwN_small (n : Nat) (h : n ≤ 62) : pwN n = ((2 ^ n : Nat) : Int) := by
  unfold pwN
  have : 2 ^ n ≤ 2 ^ 62 := Nat.pow_le_pow_right (by decide) h
  rw [show ((2 : Int) ^ n) = ((2 ^ n : Nat) : Int) by simp, wrap_nat _ (by omega)]

/-- The first number below n for which something holds. -/
def firstB (p : Nat → Bool) (n : Nat) : Option Nat := (List.range n).find? p
theorem firstB_hit {p : Nat → Bool} {n k : Nat} (hk : k < n) (h : ∀ j, j < k → p j = false) (hp : p k = true) : firstB p n = some k := by
  unfold firstB
  rw [List.find?_range_eq_some]
  exact ⟨hp, by simpa using hk, fun j hj => by simp [h j hj]⟩
theorem firstB_none {p : Nat → Bool} {n : Nat} (h : ∀ j, j < n → p j = false) : firstB p n = none := by
  unfold firstB
  rw [List.find?_range_eq_none]
  intro j hj
  simp [h j hj]


