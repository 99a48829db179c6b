/-
  Graphs made out of a relation of their vertices; a graph with an edge more. No conditions.
-/
import Derived.Test.YtfkehmpckhmkbaaDoorPkCardArcs08
namespace Go.Proofs.YtfkehmpckhmkbaaDoor
open Go.RowKit

/-- The graph of N vertices in which i and j are neighbours where p says so. -/
def rowsOf (N : Nat) (p : Nat → Nat → Bool) : List Int := (List.range N).map fun i => (accB (p i) N : Int)
theorem rowsOf_len (N : Nat) (p : Nat → Nat → Bool) : (rowsOf N p).length = N := by simp [rowsOf]
theorem rowsOf_at {N i : Nat} {p : Nat → Nat → Bool} (h : i < N) : gi (rowsOf N p) i = (accB (p i) N : Int) := by simp [rowsOf, gi, h]
theorem rowsOf_gn {N i : Nat} {p : Nat → Nat → Bool} (h : i < N) : gn (rowsOf N p) i = accB (p i) N := by unfold gn; rw [rowsOf_at h]; simp
/-- Are i and j neighbours? -/
def eb (rs : List Int) (i j : Nat) : Bool := (gn rs i).testBit j
theorem eb_rowsOf {N i j : Nat} {p : Nat → Nat → Bool} (h : i < N) (hj : j < N) : eb (rowsOf N p) i j = p i j := by
  unfold eb; rw [rowsOf_gn h, accB_bit, decide_eq_true hj, Bool.true_and]
theorem accB_congr {p q : Nat → Bool} : ∀ k, (∀ j, j < k → p j = q j) → accB p k = accB q k
  | 0, _ => rfl
  | k + 1, h => by
    have ih := accB_congr (p := p) (q := q) k (fun j hj => h j (by omega))
    have hk := h k (by omega)
    cases e : p k
    · rw [accB_no e, accB_no (by rw [← hk]; exact e), ih]
    · rw [accB_yes e, accB_yes (by rw [← hk]; exact e), ih]
theorem rowsOf_congr {N : Nat} {p q : Nat → Nat → Bool} (h : ∀ i, i < N → ∀ j, j < N → p i j = q i j) : rowsOf N p = rowsOf N q := by
  unfold rowsOf
  apply List.map_congr_left
  intro i hi
  rw [accB_congr (p := p i) (q := q i) N (fun j hj => h i (by simpa using hi) j hj)]
theorem VG.graph {rs : List Int} (g : VG rs) : isGraphB rs.length rs = true := by
  have hle := g.le
  refine isGraphB_mk g.pos g.le (fun v hv => ?_) (fun v hv w hw => ?_)
  · unfold rowOk
    have h1 := g.lt v hv
    rw [g.row v hv, hasN_nat, g.irr v hv, pwN_small _ (by omega), decide_eq_true (by omega), decide_eq_true (by omega)]
    rfl
  · rw [g.row v hv, g.row w (by omega), hasN_nat, hasN_nat]
    exact g.sym v hv w (by omega)
theorem rowsOf_VG {N : Nat} {p : Nat → Nat → Bool} (h1 : 1 ≤ N) (h7 : N ≤ 7) (irr : ∀ i, i < N → p i i = false) (sym : ∀ i, i < N → ∀ j, j < N → p i j = p j i) : VG (rowsOf N p) := by
  refine ⟨by rw [rowsOf_len]; exact h1, by rw [rowsOf_len]; exact h7, fun v hv => ?_, fun v hv => ?_, fun v hv => ?_, fun v hv w hw => ?_⟩
  all_goals rw [rowsOf_len] at *
  · rw [rowsOf_gn hv, rowsOf_at hv]
  · rw [rowsOf_gn hv]; exact accB_lt _ _
  · rw [← irr v hv]; exact eb_rowsOf hv hv
  · show eb (rowsOf N p) v w = eb (rowsOf N p) w v
    rw [eb_rowsOf hv hw, eb_rowsOf hw hv]; exact sym v hv w hw
theorem rows_eb {rs : List Int} (g : VG rs) : rowsOf rs.length (eb rs) = rs := by
  refine gi_ext (rowsOf_len _ _) fun i hi => ?_
  rw [rowsOf_len] at hi
  rw [rowsOf_at hi, g.row i hi]
  congr 1
  apply Nat.eq_of_testBit_eq
  intro j
  rw [accB_bit]
  by_cases hj : j < rs.length
  · rw [decide_eq_true hj, Bool.true_and]; rfl
  · rw [decide_eq_false hj, Bool.false_and, testBit_ge (g.lt i hi) (by omega)]
/-- A graph as the one of its own relation, told by another. -/
theorem rows_of {rs : List Int} (g : VG rs) {p : Nat → Nat → Bool} (h : ∀ i, i < rs.length → ∀ j, j < rs.length → eb rs i j = p i j) : rs = rowsOf rs.length p :=
  (rows_eb g).symm.trans (rowsOf_congr h)
theorem eb_sym {rs : List Int} (g : VG rs) {i j : Nat} (hi : i < rs.length) (hj : j < rs.length) : eb rs i j = eb rs j i := g.sym i hi j hj
theorem eb_irr {rs : List Int} (g : VG rs) {i : Nat} (hi : i < rs.length) : eb rs i i = false := g.irr i hi

/-- Is this the edge between v and w? -/
def isE (v w i j : Nat) : Bool := (decide (i = v) && decide (j = w)) || (decide (i = w) && decide (j = v))
theorem isE_sym (v w i j : Nat) : isE v w i j = isE v w j i := by unfold isE; rw [Bool.eq_iff_iff]; simp; omega
/-- The graph with an edge between v and w. -/
def addE (rs : List Int) (v w : Nat) : List Int := rowsOf rs.length fun i j => eb rs i j || isE v w i j
theorem isE_true {v w i j : Nat} : isE v w i j = true ↔ (i = v ∧ j = w) ∨ (i = w ∧ j = v) := by unfold isE; simp
theorem addE_len (rs : List Int) (v w : Nat) : (addE rs v w).length = rs.length := rowsOf_len _ _
theorem addE_eb {rs : List Int} {v w i j : Nat} (hi : i < rs.length) (hj : j < rs.length) : eb (addE rs v w) i j = (eb rs i j || isE v w i j) := eb_rowsOf hi hj
theorem addE_VG {rs : List Int} (g : VG rs) {v w : Nat} (hne : v ≠ w) : VG (addE rs v w) :=
  rowsOf_VG g.pos g.le (fun i hi => by rw [eb_irr g hi]; unfold isE; rw [Bool.false_or, Bool.eq_false_iff]; simp; omega) (fun i hi j hj => by rw [eb_sym g hi hj, isE_sym])
theorem addE_there {rs : List Int} (g : VG rs) {v w : Nat} (hv : v < rs.length) (hw : w < rs.length) (h : eb rs v w = true) : addE rs v w = rs := by
  refine (rows_of g fun i hi j hj => ?_).symm
  cases e : isE v w i j
  · simp
  · have h2 := h
    rw [eb_sym g hv hw] at h2
    unfold isE at e
    simp at e
    rcases e with ⟨rfl, rfl⟩ | ⟨rfl, rfl⟩
    · rw [h]; rfl
    · rw [h2]; rfl
/-- The two stores that lay an edge that is missing. -/
theorem addE_set {rs : List Int} (g : VG rs) {v w : Nat} (hv : v < rs.length) (hw : w < rs.length) (hne : v ≠ w) (h : eb rs v w = false) :
    (rs.set v ((gn rs v + 2 ^ w : Nat) : Int)).set w ((gn rs w + 2 ^ v : Nat) : Int) = addE rs v w := by
  have h2 := h
  rw [eb_sym g hv hw] at h2
  refine gi_ext (by simp [addE_len]) fun i hi => ?_
  simp only [List.length_set] at hi
  unfold addE
  rw [rowsOf_at hi]
  have hcase : ∀ a b, a < rs.length → b < rs.length → a ≠ b → eb rs a b = false → gn rs a + 2 ^ b = accB (fun j => eb rs a j || decide (j = b)) rs.length := by
    intro a b ha hb hab hh
    have hd : gn rs a &&& 2 ^ b = 0 := by
      apply Nat.eq_of_testBit_eq
      intro j
      rw [Nat.testBit_and, Nat.testBit_two_pow, Nat.zero_testBit]
      by_cases e : b = j
      · subst e; simp only [decide_true, Bool.and_true]; exact hh
      · rw [decide_eq_false e, Bool.and_false]
    have h128 := g.lt128 ha
    have hb6 : b ≤ 6 := by have := g.le; omega
    have hp : 2 ^ b ≤ 2 ^ 6 := Nat.pow_le_pow_right (by decide) hb6
    rw [add_disj (by omega) (by omega) hd]
    apply Nat.eq_of_testBit_eq
    intro j
    rw [accB_bit, Nat.testBit_or, Nat.testBit_two_pow]
    by_cases hj : j < rs.length
    · rw [decide_eq_true hj, Bool.true_and]
      show (eb rs a j || _) = _
      congr 1
      rw [Bool.eq_iff_iff]; simp; omega
    · rw [decide_eq_false hj, Bool.false_and, testBit_ge (g.lt a ha) (by omega), decide_eq_false (by omega)]; rfl
  by_cases e1 : i = w
  · subst e1
    have : gi ((rs.set v ((gn rs v + 2 ^ i : Nat) : Int)).set i ((gn rs i + 2 ^ v : Nat) : Int)) i = ((gn rs i + 2 ^ v : Nat) : Int) := by simp [gi, hi]
    rw [this, hcase i v hi hv (fun e => hne e.symm) h2]
    congr 1
    exact accB_congr _ fun j hj => by unfold isE; congr 1; rw [Bool.eq_iff_iff]; simp; omega
  · by_cases e2 : i = v
    · subst e2
      have e3 : w ≠ i := fun e => e1 e.symm
      have : gi ((rs.set i ((gn rs i + 2 ^ w : Nat) : Int)).set w ((gn rs w + 2 ^ i : Nat) : Int)) i = ((gn rs i + 2 ^ w : Nat) : Int) := by simp [gi, hi, e3]
      rw [this, hcase i w hi hw hne h]
      congr 1
      exact accB_congr _ fun j hj => by unfold isE; congr 1; rw [Bool.eq_iff_iff]; simp; omega
    · have e3 : w ≠ i := fun e => e1 e.symm
      have e4 : v ≠ i := fun e => e2 e.symm
      have : gi ((rs.set v ((gn rs v + 2 ^ w : Nat) : Int)).set w ((gn rs w + 2 ^ v : Nat) : Int)) i = gi rs i := by simp [gi, e3, e4]
      rw [this, g.row i hi]
      congr 1
      have hr := rows_eb g
      have : gn rs i = accB (eb rs i) rs.length := by
        have h3 := rowsOf_gn (p := eb rs) hi
        rw [hr] at h3; exact h3
      rw [this]
      exact accB_congr _ fun j hj => by unfold isE; rw [decide_eq_false e2, decide_eq_false e1]; simp

end Go.Proofs.YtfkehmpckhmkbaaDoor
