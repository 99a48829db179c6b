/-
  The walks of IsClique and IsCliqueCover on both sides. For at most 2^20 rows and sets.
-/
import Derived.Test.YtfjljfjnooieoaaAdd
namespace Go.Proofs.Ytfjljfjnooieoaa
open Go.RowKit

/-- Vertex v of S lacks a neighbour in S. -/
def cliqueBad (rs : List Int) (S v : Nat) : Bool := S.testBit v && decide (¬ gn rs v &&& S = S - 2 ^ v)
def cliqueN (rs : List Int) (S : Nat) : Bool := decide (∀ v, v < rs.length → cliqueBad rs S v = false)
def cliqueB (n : Int) (rs : List Int) (s : Int) : Bool := isSetB n rs s && cliqueN rs s.toNat
theorem cliqueB_no {n : Int} {rs : List Int} {s : Int} (h : isSetB n rs s = false) : cliqueB n rs s = false := by unfold cliqueB; rw [h]; rfl
theorem cliqueN_bad {rs : List Int} {S v : Nat} (hv : v < rs.length) (h : cliqueBad rs S v = true) : cliqueN rs S = false := by
  unfold cliqueN; rw [decide_eq_false_iff_not]; intro a; rw [a v hv] at h; cases h
theorem cliqueN_ok {rs : List Int} {S : Nat} (h : ∀ v, v < rs.length → cliqueBad rs S v = false) : cliqueN rs S = true := by unfold cliqueN; rw [decide_eq_true_eq]; exact h
theorem cliqueB_nat {n : Int} {rs : List Int} {S : Nat} (h : isSetB n rs S = true) : cliqueB n rs S = cliqueN rs S := by unfold cliqueB; rw [h, Bool.true_and, Int.toNat_natCast]




/-! ### IsCliqueCover -/
/-- The first k sets together. -/
def accTo (l : List Int) : Nat → Nat
  | 0 => 0
  | k + 1 => accTo l k ||| (gi l k).toNat
def coverAt (n : Int) (rs l : List Int) (j : Nat) : Bool := cliqueB n rs (gi l j) && decide (accTo l j &&& (gi l j).toNat = 0)
def coverB (n : Int) (rs l : List Int) : Bool := isGraphB n rs && decide ((∀ j, j < l.length → coverAt n rs l j = true) ∧ accTo l l.length = 2 ^ rs.length - 1)
theorem coverB_no {n : Int} {rs l : List Int} (h : isGraphB n rs = false) : coverB n rs l = false := by unfold coverB; rw [h]; rfl
theorem coverB_bad {n : Int} {rs l : List Int} {j : Nat} (hj : j < l.length) (h : coverAt n rs l j = false) : coverB n rs l = false := by
  unfold coverB; rw [decide_eq_false, Bool.and_false]; rintro ⟨a, _⟩; rw [a j hj] at h; cases h
theorem coverB_end {n : Int} {rs l : List Int} (hg : isGraphB n rs = true) (h : ∀ j, j < l.length → coverAt n rs l j = true) : coverB n rs l = (((accTo l l.length : Nat) : Int) == ((2 ^ rs.length - 1 : Nat) : Int)) := by
  unfold coverB; rw [hg, Bool.true_and, Bool.eq_iff_iff, decide_eq_true_eq, beq_iff_eq]
  exact ⟨fun ⟨_, b⟩ => by rw [b], fun b => ⟨h, Int.ofNat_inj.1 b⟩⟩
theorem cliqueB_graph {n : Int} {rs : List Int} {s : Int} (h : cliqueB n rs s = true) : isSetB n rs s = true := by unfold cliqueB at h; simp only [Bool.and_eq_true] at h; exact h.1
theorem cliqueB_inv {n : Int} {rs : List Int} {s : Int} (h : isGraphB n rs = false) : cliqueB n rs s = false := by unfold cliqueB isSetB; rw [h]; rfl
theorem accTo_lt {rs l : List Int} {k : Nat} (h : ∀ j, j < k → coverAt rs.length rs l j = true) : accTo l k < 2 ^ rs.length := by
  induction k with
  | zero => exact Nat.two_pow_pos _
  | succ k ih =>
    have := h k (by omega)
    unfold coverAt at this
    simp only [Bool.and_eq_true] at this
    obtain ⟨_, _, S, h1, h2⟩ := isSetB_true (cliqueB_graph this.1)
    unfold accTo
    exact Nat.or_lt_two_pow (ih fun j hj => h j (by omega)) (by rw [h1]; simpa using h2)

/-- What the walks want of set k, where it is a clique. -/
theorem cover_facts {rs l : List Int} {k : Nat} (g : VG rs) (h : ∀ j, j < k → coverAt rs.length rs l j = true) (hc : cliqueB rs.length rs (gi l k) = true) :
    bits .and .i64 (accTo l k : Int) (gi l k) = ((accTo l k &&& (gi l k).toNat : Nat) : Int) ∧ bits .or .i64 (accTo l k : Int) (gi l k) = ((accTo l (k + 1) : Nat) : Int) := by
  obtain ⟨_, _, S, h1, h2⟩ := isSetB_true (cliqueB_graph hc)
  have h3 := accTo_lt h
  have h4 := g.pow.1
  rw [h1, Int.toNat_natCast]
  exact ⟨bits_and_nat _ _ (by omega) (by omega), by rw [bits_or_nat _ _ (by omega) (by omega)]; show _ = ((accTo l k ||| (gi l k).toNat : Nat) : Int); rw [h1, Int.toNat_natCast]⟩



end Go.Proofs.Ytfjljfjnooieoaa
