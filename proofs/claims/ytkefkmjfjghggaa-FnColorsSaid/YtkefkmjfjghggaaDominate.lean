/-
  The walks of IsDominating and IsPacking on both sides. For at most 2^20 rows.
-/
import Derived.Test.YtkefkmjfjghggaaSets
namespace Go.Proofs.Ytkefkmjfjghggaa
open Go.RowKit

def domB (n : Int) (rs : List Int) (s : Int) : Bool := isSetB n rs s && decide (around rs s.toNat = 2 ^ rs.length - 1)
theorem domB_nat {rs : List Int} {S : Nat} (h : isSetB rs.length rs S = true) : domB rs.length rs S = (((around rs S : Nat) : Int) == ((2 ^ rs.length - 1 : Nat) : Int)) := by
  unfold domB; rw [h, Bool.true_and, Int.toNat_natCast, Bool.eq_iff_iff, decide_eq_true_eq, beq_iff_eq]; exact Int.ofNat_inj.symm
theorem domB_no {n : Int} {rs : List Int} {s : Int} (h : isSetB n rs s = false) : domB n rs s = false := by unfold domB; rw [h]; rfl



/-- Vertex v and its neighbours have at most one vertex in S. -/
def packAt (rs : List Int) (S v : Nat) : Nat := cnt ((gn rs v ||| 2 ^ v) &&& S)
def packB (n : Int) (rs : List Int) (s : Int) : Bool := isSetB n rs s && decide (∀ v, v < rs.length → packAt rs s.toNat v ≤ 1)
theorem packB_no {n : Int} {rs : List Int} {s : Int} (h : isSetB n rs s = false) : packB n rs s = false := by unfold packB; rw [h]; rfl
theorem packB_bad {n : Int} {rs : List Int} {S v : Nat} (hv : v < rs.length) (h : 1 < packAt rs S v) : packB n rs S = false := by
  unfold packB; rw [Int.toNat_natCast, decide_eq_false (fun a => by have := a v hv; omega), Bool.and_false]
theorem packB_ok {n : Int} {rs : List Int} {S : Nat} (h : isSetB n rs S = true) (ha : ∀ v, v < rs.length → packAt rs S v ≤ 1) : packB n rs S = true := by
  unfold packB; rw [h, Int.toNat_natCast, decide_eq_true ha]; rfl

/-- What the walks want of vertex k. -/
theorem pack_facts {rs : List Int} (g : VG rs) {S k : Nat} (hS : S < 2 ^ rs.length) (hk : k < rs.length) :
    pwN k = ((2 ^ k : Nat) : Int) ∧ bits .or .i64 (gn rs k : Int) ((2 ^ k : Nat) : Int) = ((gn rs k ||| 2 ^ k : Nat) : Int) ∧ bits .and .i64 ((gn rs k ||| 2 ^ k : Nat) : Int) (S : Int) = (((gn rs k ||| 2 ^ k) &&& S : Nat) : Int) ∧ (gn rs k ||| 2 ^ k) &&& S < 128 := by
  have h1 := g.lt k hk
  have h2 := g.pow.1
  have h3 : 2 ^ k < 2 ^ rs.length := Nat.pow_lt_pow_right (by decide) hk
  have h4 : gn rs k ||| 2 ^ k < 2 ^ rs.length := Nat.or_lt_two_pow h1 h3
  have h5 : (gn rs k ||| 2 ^ k) &&& S ≤ S := Nat.and_le_right
  have h6 := g.le
  exact ⟨pwN_small _ (by omega), bits_or_nat _ _ (by omega) (by omega), bits_and_nat _ _ (by omega) (by omega), by omega⟩



end Go.Proofs.Ytkefkmjfjghggaa
