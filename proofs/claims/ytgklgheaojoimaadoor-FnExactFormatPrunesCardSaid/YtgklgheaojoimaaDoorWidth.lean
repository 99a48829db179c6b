/-
  The walks of IsOrder and CutOf on both sides, l27Front of the reference. For at most 2^20 rows and list elements.
-/
import Derived.Test.YtgklgheaojoimaaDoorClique
import Derived.Test.YtgklgheaojoimaaDoorDistinct
namespace Go.Proofs.YtgklgheaojoimaaDoor
open Go.RowKit

/-! ### IsOrder -/
def orderB (n : Int) (rs l : List Int) : Bool := vertsB n rs l && ((l.length : Int) == n)
theorem orderB_no {n : Int} {rs l : List Int} (h : vertsB n rs l = false) : orderB n rs l = false := by unfold orderB; rw [h]; rfl
theorem orderB_of {n : Int} {rs l : List Int} (h : vertsB n rs l = true) : orderB n rs l = ((l.length : Int) == n) := by unfold orderB; rw [h]; rfl
theorem orderB_true {n : Int} {rs l : List Int} (h : orderB n rs l = true) : vertsB n rs l = true ∧ n = rs.length ∧ VG rs ∧ l.length = rs.length := by
  unfold orderB at h
  simp only [Bool.and_eq_true, beq_iff_eq] at h
  obtain ⟨hn, g⟩ := VG.of (vertsB_true.1 h.1).1
  exact ⟨h.1, hn, g, by omega⟩



/-- Vertex k of a list of different vertices. -/
theorem vert_new {n : Int} {rs l : List Int} (h : vertsB n rs l = true) {k : Nat} (hk : k < l.length) :
    ∃ v : Nat, gi l k = v ∧ v < rs.length ∧ setTo l (k + 1) = setTo l k + 2 ^ v ∧ setTo l (k + 1) = setTo l k ||| 2 ^ v := by
  have hv := h
  unfold vertsB at hv
  simp only [Bool.and_eq_true] at hv
  obtain ⟨hg, hs, -⟩ := hv
  have hd : ∀ j, j < l.length → diffAt l j = true := by unfold setOk at hs; simpa using hs
  obtain ⟨h1, h2⟩ := ((vertsB_true.1 h).2 k hk).1
  refine ⟨(gi l k).toNat, by omega, by omega, rfl, ?_⟩
  apply Nat.eq_of_testBit_eq; intro i
  rw [Bool.eq_iff_iff, (setTo_bits (fun j hj => hd j (by omega))).2, Nat.testBit_or, Bool.or_eq_true, (setTo_bits (fun j hj => hd j (by omega))).2, Nat.testBit_two_pow, decide_eq_true_eq]
  constructor
  · rintro ⟨j, hj, e⟩
    rcases Nat.lt_succ_iff_lt_or_eq.1 hj with hj | rfl
    · exact .inl ⟨j, hj, e⟩
    · exact .inr (by omega)
  · rintro (⟨j, hj, e⟩ | e)
    · exact ⟨j, by omega, e⟩
    · exact ⟨k, by omega, by omega⟩
theorem setTo_lt {n : Int} {rs l : List Int} (h : vertsB n rs l = true) : ∀ k, k ≤ l.length → setTo l k < 2 ^ rs.length
  | 0, _ => Nat.two_pow_pos _
  | k + 1, hk => by
    obtain ⟨v, -, hv, -, e⟩ := vert_new h (k := k) (by omega)
    rw [e]
    exact Nat.or_lt_two_pow (setTo_lt h k (by omega)) (Nat.pow_lt_pow_right (by decide) hv)

/-! ### The front of a set: its vertices with an edge out of it -/
def outOf (rs : List Int) (S v : Nat) : Bool := decide (gn rs v &&& S ≠ gn rs v)
def frontTo (rs : List Int) (S k : Nat) : Nat := (elsTo S k).countP (outOf rs S)
def frontN (rs : List Int) (S : Nat) : Nat := (els S).countP (outOf rs S)
theorem frontTo_no {rs : List Int} {S k : Nat} (h : S.testBit k = false) : frontTo rs S (k + 1) = frontTo rs S k := by unfold frontTo; rw [elsTo_no h]
theorem frontTo_yes {rs : List Int} {S k : Nat} (h : S.testBit k = true) (b : Bool) (hb : outOf rs S k = b) : frontTo rs S (k + 1) = frontTo rs S k + (if b then 1 else 0) := by
  unfold frontTo; rw [elsTo_yes h, List.countP_append, List.countP_singleton, hb]
theorem frontTo_le (rs : List Int) (S k : Nat) : frontTo rs S k ≤ k := by
  unfold frontTo; exact Nat.le_trans List.countP_le_length (Nat.le_trans (List.length_filter_le _ _) (by simp))


/-! ### CutOf -/
def cutTo (rs l : List Int) : Nat → Nat
  | 0 => 0
  | k + 1 => if cutTo rs l k < frontN rs (setTo l (k + 1)) then frontN rs (setTo l (k + 1)) else cutTo rs l k
def cutV (n : Int) (rs l : List Int) : Int := if orderB n rs l = true then cutTo rs l l.length else -1
theorem cutV_no {n : Int} {rs l : List Int} (h : orderB n rs l = false) : cutV n rs l = -1 := by unfold cutV; rw [h]; rfl
theorem cutV_of {n : Int} {rs l : List Int} (h : orderB n rs l = true) : cutV n rs l = cutTo rs l l.length := by unfold cutV; rw [if_pos h]
theorem frontN_le (rs : List Int) (S : Nat) : frontN rs S ≤ 7 := Nat.le_trans List.countP_le_length (els_len S)
theorem cutTo_le (rs l : List Int) (k : Nat) : cutTo rs l k ≤ 7 := by
  induction k with
  | zero => simp [cutTo]
  | succ k ih => unfold cutTo; have := frontN_le rs (setTo l (k + 1)); split <;> omega
theorem cutTo_more {rs l : List Int} {k : Nat} (h : cutTo rs l k < frontN rs (setTo l (k + 1))) : cutTo rs l (k + 1) = frontN rs (setTo l (k + 1)) := by rw [show cutTo rs l (k + 1) = if cutTo rs l k < frontN rs (setTo l (k + 1)) then frontN rs (setTo l (k + 1)) else cutTo rs l k from rfl, if_pos h]
theorem cutTo_same {rs l : List Int} {k : Nat} (h : ¬cutTo rs l k < frontN rs (setTo l (k + 1))) : cutTo rs l (k + 1) = cutTo rs l k := by rw [show cutTo rs l (k + 1) = if cutTo rs l k < frontN rs (setTo l (k + 1)) then frontN rs (setTo l (k + 1)) else cutTo rs l k from rfl, if_neg h]


theorem take_len {l : List Nat} {k : Nat} (h : k = l.length) : l.take k = l := by rw [h, List.take_length]


end Go.Proofs.YtgklgheaojoimaaDoor
