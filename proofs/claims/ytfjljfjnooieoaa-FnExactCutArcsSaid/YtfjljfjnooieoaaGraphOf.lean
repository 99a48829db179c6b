/-
  graphOf of the program, for whatever test of two vertices: the graph of the pairs that pass. For 1 to 7 vertices.
-/
import Derived.Test.YtfjljfjnooieoaaFlip
namespace Go.Proofs.Ytfjljfjnooieoaa
open Go.RowKit

/-- Is the pair of i and j, the lesser first, one that passes? -/
def gE (p : Nat → Nat → Bool) (i j : Nat) : Bool := (decide (i < j) && p i j) || (decide (j < i) && p j i)
/-- Has the pair of i and j come up before w and v, w below v? -/
def gDone (v w i j : Nat) : Bool := decide (max i j < v ∨ (max i j = v ∧ min i j < w))
def gPart (N : Nat) (p : Nat → Nat → Bool) (v w : Nat) : List Int := rowsOf N fun i j => gE p i j && gDone v w i j
def gOf (N : Nat) (p : Nat → Nat → Bool) : List Int := rowsOf N (gE p)
theorem gPart_len (N : Nat) (p : Nat → Nat → Bool) (v w : Nat) : (gPart N p v w).length = N := rowsOf_len _ _
theorem gE_sym (p : Nat → Nat → Bool) (i j : Nat) : gE p i j = gE p j i := by unfold gE; rw [Bool.or_comm]
theorem gDone_sym (v w i j : Nat) : gDone v w i j = gDone v w j i := by unfold gDone; rw [Nat.max_comm, Nat.min_comm]
theorem gE_irr (p : Nat → Nat → Bool) (i : Nat) : gE p i i = false := by simp [gE]
theorem gPart_VG {N : Nat} {p : Nat → Nat → Bool} {v w : Nat} (h1 : 1 ≤ N) (h7 : N ≤ 7) : VG (gPart N p v w) :=
  rowsOf_VG h1 h7 (fun i _ => by rw [gE_irr]; rfl) (fun i _ j _ => by rw [gE_sym, gDone_sym])
theorem gOf_VG {N : Nat} {p : Nat → Nat → Bool} (h1 : 1 ≤ N) (h7 : N ≤ 7) : VG (gOf N p) := rowsOf_VG h1 h7 (fun i _ => gE_irr p i) (fun i _ j _ => gE_sym p i j)
theorem gOf_len (N : Nat) (p : Nat → Nat → Bool) : (gOf N p).length = N := rowsOf_len _ _
theorem gPart_zero (N : Nat) (p : Nat → Nat → Bool) : gPart N p 0 0 = List.replicate N 0 := by
  refine gi_ext (by rw [gPart_len, List.length_replicate]) fun i hi => ?_
  rw [gPart_len] at hi
  unfold gPart
  rw [rowsOf_at hi]
  have : accB (fun j => gE p i j && gDone 0 0 i j) N = 0 := by
    apply Nat.eq_of_testBit_eq
    intro j
    rw [accB_bit, Nat.zero_testBit]
    simp [gDone]
  rw [this]; simp [gi, hi]
theorem gPart_next (N : Nat) (p : Nat → Nat → Bool) (v : Nat) : gPart N p v v = gPart N p (v + 1) 0 := by
  apply rowsOf_congr
  intro i _ j _
  by_cases e : i = j
  · subst e; rw [gE_irr]; rfl
  · congr 1
    unfold gDone
    rw [Bool.eq_iff_iff]; simp only [decide_eq_true_eq]; omega
theorem gPart_end (N : Nat) (p : Nat → Nat → Bool) : gPart N p N 0 = gOf N p := by
  apply rowsOf_congr
  intro i hi j hj
  unfold gDone
  rw [decide_eq_true (by omega), Bool.and_true]
theorem gPart_no {N : Nat} {p : Nat → Nat → Bool} {v w : Nat} (hw : w < v) (h : p w v = false) : gPart N p v (w + 1) = gPart N p v w := by
  apply rowsOf_congr
  intro i _ j _
  by_cases e : (i = w ∧ j = v) ∨ (i = v ∧ j = w)
  · have : gE p i j = false := by
      rcases e with ⟨rfl, rfl⟩ | ⟨rfl, rfl⟩
      · unfold gE; rw [h, decide_eq_false (by omega : ¬ j < i)]; simp
      · unfold gE; rw [h, decide_eq_false (by omega : ¬ i < j)]; simp
    rw [this]; rfl
  · congr 1
    unfold gDone
    rw [Bool.eq_iff_iff]; simp only [decide_eq_true_eq]; omega
theorem gPart_yes {N : Nat} {p : Nat → Nat → Bool} {v w : Nat} (hw : w < v) (h : p w v = true) : gPart N p v (w + 1) = addE (gPart N p v w) w v := by
  unfold addE
  rw [gPart_len]
  apply rowsOf_congr
  intro i hi j hj
  rw [show eb (gPart N p v w) i j = _ from eb_rowsOf hi hj]
  by_cases e : (i = w ∧ j = v) ∨ (i = v ∧ j = w)
  · have h1 : isE w v i j = true := isE_true.2 e
    have h2 : gE p i j = true := by
      rcases e with ⟨rfl, rfl⟩ | ⟨rfl, rfl⟩
      · unfold gE; rw [h, decide_eq_true hw]; rfl
      · unfold gE; rw [h, decide_eq_true hw]; simp
    have h3 : gDone v (w + 1) i j = true := by unfold gDone; rw [decide_eq_true_eq]; omega
    rw [h1, h2, h3]; simp
  · have h1 : isE w v i j = false := by rw [Bool.eq_false_iff]; exact fun h => e (isE_true.1 h)
    rw [h1, Bool.or_false]
    congr 1
    unfold gDone
    rw [Bool.eq_iff_iff]; simp only [decide_eq_true_eq]; omega
theorem gPart_miss {N : Nat} {p : Nat → Nat → Bool} {v w : Nat} (hw : w < v) (hv : v < N) : eb (gPart N p v w) w v = false := by
  rw [show eb (gPart N p v w) w v = _ from eb_rowsOf (by omega) hv]
  unfold gDone
  rw [decide_eq_false (by omega), Bool.and_false]

/-- A function value that tells of two vertices whether the pair passes. -/
def PredOf (K : Nat) (caps : Array Value) (W : World) (N : Nat) (p : Nat → Nat → Bool) : Prop :=
  ∀ (v w : Nat) (w0 : World), w < v → v < N → Below W.heap.size W w0 → Calls Try.prog K (#[.int .i64 w, .int .i64 v] ++ caps) w0 fun e w' => e = .returned (.bool (p w v)) ∧ Below w0.heap.size w0 w'


end Go.Proofs.Ytfjljfjnooieoaa
