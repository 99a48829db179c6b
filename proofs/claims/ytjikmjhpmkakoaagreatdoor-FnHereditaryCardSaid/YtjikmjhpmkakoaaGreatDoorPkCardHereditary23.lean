/-
  Plain laws of prunes: how a vertex can be taken away, and the order in which all are. No conditions.
-/
import Derived.Test.YtjikmjhpmkakoaaGreatDoorPkCardHereditary06
namespace Go.Proofs.YtjikmjhpmkakoaaGreatDoor
open Go.RowKit

/-- A prune: the vertex, the kind, the anchor. -/
abbrev Prn := Nat × Nat × Int
/-- w is a false twin of v within S. -/
def tw2 (rs : List Int) (S v w : Nat) : Bool := decide (w ≠ v) && S.testBit w && !eb rs v w && decide (gn rs w &&& S = gn rs v &&& S)
/-- w is a true twin of v within S. -/
def tw3 (rs : List Int) (S v w : Nat) : Bool := S.testBit w && eb rs v w && decide ((gn rs w &&& S) ||| 2 ^ w = (gn rs v &&& S) ||| 2 ^ v)
def pruneV (rs : List Int) (S v : Nat) : Option Prn :=
  if gn rs v &&& S = 0 then some (v, 0, -1)
  else if cnt (gn rs v &&& S) = 1 then some (v, 1, (low (gn rs v &&& S) : Int))
  else match firstB (tw2 rs S v) rs.length with
    | some w => some (v, 2, (w : Int))
    | none => match firstB (tw3 rs S v) rs.length with
      | some w => some (v, 3, (w : Int))
      | none => none
theorem pruneV_0 {rs : List Int} {S v : Nat} (h : gn rs v &&& S = 0) : pruneV rs S v = some (v, 0, -1) := by unfold pruneV; rw [if_pos h]
theorem pruneV_1 {rs : List Int} {S v : Nat} (h : ¬gn rs v &&& S = 0) (h1 : cnt (gn rs v &&& S) = 1) : pruneV rs S v = some (v, 1, (low (gn rs v &&& S) : Int)) := by unfold pruneV; rw [if_neg h, if_pos h1]
theorem pruneV_2 {rs : List Int} {S v w : Nat} (h : ¬gn rs v &&& S = 0) (h1 : ¬cnt (gn rs v &&& S) = 1) (h2 : firstB (tw2 rs S v) rs.length = some w) : pruneV rs S v = some (v, 2, (w : Int)) := by
  unfold pruneV; rw [if_neg h, if_neg h1, h2]
theorem pruneV_3 {rs : List Int} {S v w : Nat} (h : ¬gn rs v &&& S = 0) (h1 : ¬cnt (gn rs v &&& S) = 1) (h2 : firstB (tw2 rs S v) rs.length = none) (h3 : firstB (tw3 rs S v) rs.length = some w) : pruneV rs S v = some (v, 3, (w : Int)) := by
  unfold pruneV; rw [if_neg h, if_neg h1, h2, h3]
theorem pruneV_no {rs : List Int} {S v : Nat} (h : ¬gn rs v &&& S = 0) (h1 : ¬cnt (gn rs v &&& S) = 1) (h2 : firstB (tw2 rs S v) rs.length = none) (h3 : firstB (tw3 rs S v) rs.length = none) : pruneV rs S v = none := by
  unfold pruneV; rw [if_neg h, if_neg h1, h2, h3]
theorem pruneV_vertex {rs : List Int} {S v : Nat} {p : Prn} (h : pruneV rs S v = some p) : p.1 = v := by
  unfold pruneV at h
  split at h
  · cases h; rfl
  · split at h
    · cases h; rfl
    · split at h
      · cases h; rfl
      · split at h
        · cases h; rfl
        · cases h
/-- A pair of vertices within a set. -/
theorem pair_sub {S v w : Nat} (hv : S.testBit v = true) (hw : S.testBit w = true) : subN (2 ^ v ||| 2 ^ w) S := fun i hi => by
  rw [Nat.testBit_or, Bool.or_eq_true, pow_bit, pow_bit] at hi
  rcases hi with rfl | rfl
  · exact hv
  · exact hw
/-- The reference's tests. -/
theorem rows_but {rs : List Int} (g : VG rs) {S v w : Nat} (hS : S < 2 ^ rs.length) (hv : S.testBit v = true) (hw : S.testBit w = true) :
    ((gn rs v &&& S) &&& (S - (2 ^ v ||| 2 ^ w)) = gn rs w &&& (S - (2 ^ v ||| 2 ^ w))) ↔ ∀ i, S.testBit i = true → i ≠ v → i ≠ w → (gn rs v).testBit i = (gn rs w).testBit i := by
  have hp := g.pow.1
  rw [← nDiff_minus (by omega) (pair_sub hv hw)]
  have hb : ∀ i, (nDiff S (2 ^ v ||| 2 ^ w)).testBit i = true ↔ S.testBit i = true ∧ i ≠ v ∧ i ≠ w := fun i => by
    rw [nDiff_bit, Nat.testBit_or, Bool.or_eq_false_iff, Bool.eq_false_iff, Bool.eq_false_iff, ne_eq, ne_eq, pow_bit, pow_bit]
    constructor
    · rintro ⟨h1, h2, h3⟩; exact ⟨h1, fun e => h2 e.symm, fun e => h3 e.symm⟩
    · rintro ⟨h1, h2, h3⟩; exact ⟨h1, fun e => h2 e.symm, fun e => h3 e.symm⟩
  constructor
  · intro h i hi h1 h2
    have h3 := congrArg (fun x => x.testBit i) h
    simp only [Nat.testBit_and, hi, (hb i).2 ⟨hi, h1, h2⟩, Bool.and_true] at h3
    exact h3
  · intro h
    apply Nat.eq_of_testBit_eq
    intro i
    rw [Nat.testBit_and, Nat.testBit_and, Nat.testBit_and]
    cases hc : (nDiff S (2 ^ v ||| 2 ^ w)).testBit i
    · simp
    · obtain ⟨h1, h2, h3⟩ := (hb i).1 hc
      rw [h i h1 h2 h3, h1]; simp
theorem and_eq_iff {a b S : Nat} : a &&& S = b &&& S ↔ ∀ i, S.testBit i = true → a.testBit i = b.testBit i := by
  constructor
  · intro h i hi
    have h3 := congrArg (fun x => x.testBit i) h
    simpa only [Nat.testBit_and, hi, Bool.and_true] using h3
  · intro h
    apply Nat.eq_of_testBit_eq
    intro i
    rw [Nat.testBit_and, Nat.testBit_and]
    cases hc : S.testBit i
    · simp
    · rw [h i hc]
theorem tw2_spec {rs : List Int} (g : VG rs) {S v w : Nat} (hS : S < 2 ^ rs.length) (hv : S.testBit v = true) (hw : S.testBit w = true) (hne : w ≠ v) (he : eb rs v w = false) :
    decide ((gn rs v &&& S) &&& (S - (2 ^ v ||| 2 ^ w)) = gn rs w &&& (S - (2 ^ v ||| 2 ^ w))) = tw2 rs S v w := by
  have hvl := testBit_lt hS hv
  have hwl := testBit_lt hS hw
  have he2 : eb rs w v = false := by rw [eb_sym g hwl hvl]; exact he
  have h1 := eb_irr g hvl
  have h2 := eb_irr g hwl
  unfold tw2
  rw [hw, he, decide_eq_true hne]
  simp only [Bool.and_true, Bool.not_false, Bool.true_and]
  rw [Bool.eq_iff_iff, decide_eq_true_eq, decide_eq_true_eq, rows_but g hS hv hw, and_eq_iff]
  constructor
  · intro h i hi
    by_cases e : i = v
    · subst e; exact he2.trans h1.symm
    · by_cases e3 : i = w
      · subst e3; exact h2.trans he.symm
      · exact (h i hi e e3).symm
  · intro h i hi _ _
    exact (h i hi).symm
theorem tw3_spec {rs : List Int} (g : VG rs) {S v w : Nat} (hS : S < 2 ^ rs.length) (hv : S.testBit v = true) (hw : S.testBit w = true) (he : eb rs v w = true) :
    decide ((gn rs v &&& S) &&& (S - (2 ^ v ||| 2 ^ w)) = gn rs w &&& (S - (2 ^ v ||| 2 ^ w))) = tw3 rs S v w := by
  have hvl := testBit_lt hS hv
  have hwl := testBit_lt hS hw
  have he2 : eb rs w v = true := by rw [eb_sym g hwl hvl]; exact he
  have h1 := eb_irr g hvl
  have h2 := eb_irr g hwl
  unfold tw3
  rw [hw, he]
  simp only [Bool.and_true, Bool.true_and]
  rw [Bool.eq_iff_iff, decide_eq_true_eq, decide_eq_true_eq, rows_but g hS hv hw]
  constructor
  · intro h
    apply Nat.eq_of_testBit_eq
    intro i
    rw [Nat.testBit_or, Nat.testBit_or, Nat.testBit_and, Nat.testBit_and, Nat.testBit_two_pow, Nat.testBit_two_pow]
    by_cases e : v = i
    · subst e
      rw [show (gn rs w).testBit v = true from he2, hv]; simp
    · by_cases e3 : w = i
      · subst e3
        rw [show (gn rs v).testBit w = true from he, hw]; simp
      · rw [decide_eq_false e, decide_eq_false e3]
        cases hc : S.testBit i
        · simp
        · rw [h i hc (fun x => e x.symm) (fun x => e3 x.symm)]
  · intro h i hi hiv hiw
    have h3 := congrArg (fun x => x.testBit i) h
    simp only [Nat.testBit_or, Nat.testBit_and, hi, Nat.testBit_two_pow, decide_eq_false (fun e : v = i => hiv e.symm), decide_eq_false (fun e : w = i => hiw e.symm), Bool.and_true, Bool.or_false] at h3
    exact h3.symm

/-! ### All prunes -/
/-- The vertex that is taken next. -/
def nextV (rs : List Int) (S : Nat) : Option Nat := firstB (fun v => S.testBit v && (pruneV rs S v).isSome) rs.length
def pruneRun (rs : List Int) : Nat → Nat → List Prn → Option (List Prn)
  | 0, _, ps => some ps
  | f + 1, S, ps => if S = 0 then some ps else match nextV rs S with
    | none => none
    | some v => match pruneV rs S v with
      | none => none
      | some p => pruneRun rs f (S - 2 ^ v) (ps ++ [p])
def prunesV (n : Int) (rs : List Int) : Option (List Prn) := if isGraphB n rs = true then pruneRun rs rs.length (2 ^ rs.length - 1) [] else none
theorem prunesV_no {n : Int} {rs : List Int} (h : isGraphB n rs = false) : prunesV n rs = none := by unfold prunesV; rw [if_neg (by rw [h]; decide)]
theorem prunesV_of {n : Int} {rs : List Int} (h : isGraphB n rs = true) : prunesV n rs = pruneRun rs rs.length (2 ^ rs.length - 1) [] := by unfold prunesV; rw [if_pos h]
theorem pruneRun_zero (rs : List Int) (f : Nat) (ps : List Prn) : pruneRun rs f 0 ps = some ps := by cases f <;> simp [pruneRun]
theorem pruneRun_none {rs : List Int} {f S : Nat} {ps : List Prn} (h0 : S ≠ 0) (h : nextV rs S = none) : pruneRun rs (f + 1) S ps = none := by
  show (if S = 0 then _ else _) = _
  rw [if_neg h0, h]
theorem pruneRun_some {rs : List Int} {f S v : Nat} {ps : List Prn} {p : Prn} (h0 : S ≠ 0) (h : nextV rs S = some v) (hp : pruneV rs S v = some p) : pruneRun rs (f + 1) S ps = pruneRun rs f (S - 2 ^ v) (ps ++ [p]) := by
  show (if S = 0 then _ else _) = _
  rw [if_neg h0, h]
  simp only [hp]
theorem pruneRun_len {rs : List Int} : ∀ (f S : Nat) (ps qs : List Prn), pruneRun rs f S ps = some qs → qs.length ≤ ps.length + f
  | 0, S, ps, qs, h => by simp only [pruneRun, Option.some.injEq] at h; subst h; omega
  | f + 1, S, ps, qs, h => by
    unfold pruneRun at h
    split at h
    · cases h; omega
    · split at h
      · cases h
      · split at h
        · cases h
        · have := pruneRun_len f _ _ _ h
          simp at this; omega
/-- The numbers that lie in memory. -/
def flatP (ps : List Prn) : List Int := ps.flatMap fun p => [(p.1 : Int), (p.2.1 : Int), p.2.2]
theorem flatP_len (ps : List Prn) : (flatP ps).length = ps.length * 3 := by
  induction ps with
  | nil => rfl
  | cons p ps ih => simp only [flatP, List.flatMap_cons, List.length_append, List.length_cons, List.length_nil] at *; omega
theorem flatP_snoc (ps : List Prn) (p : Prn) : flatP (ps ++ [p]) = flatP ps ++ [(p.1 : Int), (p.2.1 : Int), p.2.2] := by simp [flatP]

end Go.Proofs.YtjikmjhpmkakoaaGreatDoor
