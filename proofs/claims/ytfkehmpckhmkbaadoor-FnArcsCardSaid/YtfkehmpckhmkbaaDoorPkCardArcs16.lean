/-
  The walks of IsOrder and CutOf on both sides, l27Front of the reference. For at most 2^20 rows and list elements.
  EdgesOf of the program on a graph. For at most 7 rows.
  The walks of IsWay on both sides. For at most 2^20 rows and list elements; the program's wants that the list's capacity is at least its length.
  BandOf of the reference. For at most 2^20 rows.
-/
import Derived.Test.YtfkehmpckhmkbaaDoorPkCardArcs15
import Derived.Test.YtfkehmpckhmkbaaDoorPkCardArcs10
namespace Go.Proofs.YtfkehmpckhmkbaaDoor
open Go.RowKit

/-! ### IsOrder -/
def orderB (n : Int) (rs l : List Int) : Bool := vertsB n rs l && ((l.length : Int) == n)
theorem orderB_no {n : Int} {rs l : List Int} (h : vertsB n rs l = false) : orderB n rs l = false := by unfold orderB; rw [h]; rfl
theorem orderB_of {n : Int} {rs l : List Int} (h : vertsB n rs l = true) : orderB n rs l = ((l.length : Int) == n) := by unfold orderB; rw [h]; rfl
theorem orderB_true {n : Int} {rs l : List Int} (h : orderB n rs l = true) : vertsB n rs l = true ∧ n = rs.length ∧ VG rs ∧ l.length = rs.length := by
  unfold orderB at h
  simp only [Bool.and_eq_true, beq_iff_eq] at h
  obtain ⟨hn, g⟩ := VG.of (vertsB_true.1 h.1).1
  exact ⟨h.1, hn, g, by omega⟩



/-- Vertex k of a list of different vertices. -/
theorem vert_new {n : Int} {rs l : List Int} (h : vertsB n rs l = true) {k : Nat} (hk : k < l.length) :
    ∃ v : Nat, gi l k = v ∧ v < rs.length ∧ setTo l (k + 1) = setTo l k + 2 ^ v ∧ setTo l (k + 1) = setTo l k ||| 2 ^ v := by
  have hv := h
  unfold vertsB at hv
  simp only [Bool.and_eq_true] at hv
  obtain ⟨hg, hs, -⟩ := hv
  have hd : ∀ j, j < l.length → diffAt l j = true := by unfold setOk at hs; simpa using hs
  obtain ⟨h1, h2⟩ := ((vertsB_true.1 h).2 k hk).1
  refine ⟨(gi l k).toNat, by omega, by omega, rfl, ?_⟩
  apply Nat.eq_of_testBit_eq; intro i
  rw [Bool.eq_iff_iff, (setTo_bits (fun j hj => hd j (by omega))).2, Nat.testBit_or, Bool.or_eq_true, (setTo_bits (fun j hj => hd j (by omega))).2, Nat.testBit_two_pow, decide_eq_true_eq]
  constructor
  · rintro ⟨j, hj, e⟩
    rcases Nat.lt_succ_iff_lt_or_eq.1 hj with hj | rfl
    · exact .inl ⟨j, hj, e⟩
    · exact .inr (by omega)
  · rintro (⟨j, hj, e⟩ | e)
    · exact ⟨j, by omega, e⟩
    · exact ⟨k, by omega, by omega⟩
theorem setTo_lt {n : Int} {rs l : List Int} (h : vertsB n rs l = true) : ∀ k, k ≤ l.length → setTo l k < 2 ^ rs.length
  | 0, _ => Nat.two_pow_pos _
  | k + 1, hk => by
    obtain ⟨v, -, hv, -, e⟩ := vert_new h (k := k) (by omega)
    rw [e]
    exact Nat.or_lt_two_pow (setTo_lt h k (by omega)) (Nat.pow_lt_pow_right (by decide) hv)

/-! ### The front of a set: its vertices with an edge out of it -/
def outOf (rs : List Int) (S v : Nat) : Bool := decide (gn rs v &&& S ≠ gn rs v)
def frontTo (rs : List Int) (S k : Nat) : Nat := (elsTo S k).countP (outOf rs S)
def frontN (rs : List Int) (S : Nat) : Nat := (els S).countP (outOf rs S)
theorem frontTo_no {rs : List Int} {S k : Nat} (h : S.testBit k = false) : frontTo rs S (k + 1) = frontTo rs S k := by unfold frontTo; rw [elsTo_no h]
theorem frontTo_yes {rs : List Int} {S k : Nat} (h : S.testBit k = true) (b : Bool) (hb : outOf rs S k = b) : frontTo rs S (k + 1) = frontTo rs S k + (if b then 1 else 0) := by
  unfold frontTo; rw [elsTo_yes h, List.countP_append, List.countP_singleton, hb]
theorem frontTo_le (rs : List Int) (S k : Nat) : frontTo rs S k ≤ k := by
  unfold frontTo; exact Nat.le_trans List.countP_le_length (Nat.le_trans (List.length_filter_le _ _) (by simp))


/-! ### CutOf -/
def cutTo (rs l : List Int) : Nat → Nat
  | 0 => 0
  | k + 1 => if cutTo rs l k < frontN rs (setTo l (k + 1)) then frontN rs (setTo l (k + 1)) else cutTo rs l k
def cutV (n : Int) (rs l : List Int) : Int := if orderB n rs l = true then cutTo rs l l.length else -1
theorem cutV_no {n : Int} {rs l : List Int} (h : orderB n rs l = false) : cutV n rs l = -1 := by unfold cutV; rw [h]; rfl
theorem cutV_of {n : Int} {rs l : List Int} (h : orderB n rs l = true) : cutV n rs l = cutTo rs l l.length := by unfold cutV; rw [if_pos h]
theorem frontN_le (rs : List Int) (S : Nat) : frontN rs S ≤ 7 := Nat.le_trans List.countP_le_length (els_len S)
theorem cutTo_le (rs l : List Int) (k : Nat) : cutTo rs l k ≤ 7 := by
  induction k with
  | zero => simp [cutTo]
  | succ k ih => unfold cutTo; have := frontN_le rs (setTo l (k + 1)); split <;> omega
theorem cutTo_more {rs l : List Int} {k : Nat} (h : cutTo rs l k < frontN rs (setTo l (k + 1))) : cutTo rs l (k + 1) = frontN rs (setTo l (k + 1)) := by rw [show cutTo rs l (k + 1) = if cutTo rs l k < frontN rs (setTo l (k + 1)) then frontN rs (setTo l (k + 1)) else cutTo rs l k from rfl, if_pos h]
theorem cutTo_same {rs l : List Int} {k : Nat} (h : ¬cutTo rs l k < frontN rs (setTo l (k + 1))) : cutTo rs l (k + 1) = cutTo rs l k := by rw [show cutTo rs l (k + 1) = if cutTo rs l k < frontN rs (setTo l (k + 1)) then frontN rs (setTo l (k + 1)) else cutTo rs l k from rfl, if_neg h]


theorem take_len {l : List Nat} {k : Nat} (h : k = l.length) : l.take k = l := by rw [h, List.take_length]


end Go.Proofs.YtfkehmpckhmkbaaDoor

namespace Go.Proofs.YtfkehmpckhmkbaaDoor
open Go.RowKit

/-- The edges from i to the c vertices behind i. -/
def edgesIn (rs : List Int) (i : Nat) : Nat → List (Nat × Nat)
  | 0 => []
  | c + 1 => edgesIn rs i c ++ (if (gn rs i).testBit (i + 1 + c) = true then [(i, i + 1 + c)] else [])
def edgesTo (rs : List Int) : Nat → List (Nat × Nat)
  | 0 => []
  | i + 1 => edgesTo rs i ++ edgesIn rs i (rs.length - (i + 1))
theorem edgesIn_len (rs : List Int) (i : Nat) : ∀ c, (edgesIn rs i c).length ≤ c
  | 0 => by simp [edgesIn]
  | c + 1 => by
    have := edgesIn_len rs i c
    unfold edgesIn
    rw [List.length_append]
    split <;> simp <;> omega
theorem edgesTo_len (rs : List Int) : ∀ i, (edgesTo rs i).length ≤ i * rs.length
  | 0 => by simp [edgesTo]
  | i + 1 => by
    have h1 := edgesTo_len rs i
    have h2 := edgesIn_len rs i (rs.length - (i + 1))
    unfold edgesTo
    rw [List.length_append, Nat.succ_mul]
    omega

/-- The slices xs read as the pairs es. -/
def ValsOf (w : World) (xs : List Value) (es : List (Nat × Nat)) : Prop :=
  xs.length = es.length ∧ ∀ (k : Nat) (e : Nat × Nat), es[k]? = some e → ∃ g, xs[k]? = some (.slice (some ⟨g, 0, none⟩) 2 2) ∧ w.heap[g]? = some (.cells #[.int .i64 e.1, .int .i64 e.2] 3)
theorem ValsOf.nil (w : World) : ValsOf w [] [] := ⟨rfl, fun k e h => by simp at h⟩
theorem ValsOf.below {w w' : World} {xs : List Value} {es : List (Nat × Nat)} (h : ValsOf w xs es) (hb : Below w.heap.size w w') : ValsOf w' xs es :=
  ⟨h.1, fun k e he => by
    obtain ⟨g, h1, h2⟩ := h.2 k e he
    exact ⟨g, h1, (hb.block g (Array.getElem?_eq_some_iff.1 h2).1).trans h2⟩⟩
theorem ValsOf.grown {w w' : World} {base : Nat} {v : Value} {zs xs : List Value} {es : List (Nat × Nat)} (h : ValsOf w xs es) (ho : OwnV w base v zs) (hg : w.grownBy w' v.ownBlock) : ValsOf w' xs es :=
  ⟨h.1, fun k e he => by
    obtain ⟨g, h1, h2⟩ := h.2 k e he
    refine ⟨g, h1, (hg.block g (Array.getElem?_eq_some_iff.1 h2).1 ?_).trans h2⟩
    intro e
    obtain ⟨-, ⟨h1, -⟩ | ⟨g2, cp, cur, hv, -, hh, -⟩⟩ := ho
    · rw [h1] at e; cases e
    · rw [hv] at e
      simp only [Value.ownBlock, Option.some.injEq] at e
      subst e
      rw [h2] at hh
      simp at hh⟩
theorem ValsOf.push {w : World} {xs : List Value} {es : List (Nat × Nat)} {g a b : Nat} (h : ValsOf w xs es) (hg : w.heap[g]? = some (.cells #[.int .i64 a, .int .i64 b] 3)) :
    ValsOf w (xs ++ [.slice (some ⟨g, 0, none⟩) 2 2]) (es ++ [(a, b)]) := by
  refine ⟨by simp [h.1], fun k e he => ?_⟩
  by_cases hk : k < es.length
  · rw [List.getElem?_append_left hk] at he
    rw [List.getElem?_append_left (by rw [h.1]; exact hk)]
    exact h.2 k e he
  · rw [List.getElem?_append_right (by omega)] at he
    have hke : k = es.length := by
      obtain ⟨hl, -⟩ := List.getElem?_eq_some_iff.1 he
      simp at hl; omega
    subst hke
    simp at he
    subst he
    refine ⟨g, ?_, hg⟩
    rw [← h.1]; simp

theorem OwnV.mono {w : World} {base base' : Nat} {v : Value} {xs : List Value} (h : OwnV w base v xs) (hb : base' ≤ base) : OwnV w base' v xs := by
  obtain ⟨h0, h1 | ⟨g, cap, cur, hv, hg, r⟩⟩ := h
  · exact ⟨h0, .inl h1⟩
  · exact ⟨h0, .inr ⟨g, cap, cur, hv, Nat.le_trans hb hg, r⟩⟩


end Go.Proofs.YtfkehmpckhmkbaaDoor

namespace Go.Proofs.YtfkehmpckhmkbaaDoor
open Go.RowKit

def edgeAt (rs l : List Int) (j : Nat) : Bool := (gn rs (gi l (j - 1)).toNat).testBit (gi l j).toNat
def wayB (n : Int) (rs l : List Int) : Bool := vertsB n rs l && decide (1 ≤ l.length ∧ ∀ j, j < l.length → 1 ≤ j → edgeAt rs l j = true)
theorem wayB_no {n : Int} {rs l : List Int} (h : vertsB n rs l = false) : wayB n rs l = false := by unfold wayB; rw [h]; rfl
theorem wayB_nil {n : Int} {rs l : List Int} (h : l.length = 0) : wayB n rs l = false := by unfold wayB; rw [decide_eq_false (by omega), Bool.and_false]
theorem wayB_bad {n : Int} {rs l : List Int} {j : Nat} (h1 : 1 ≤ j) (h2 : j < l.length) (h : edgeAt rs l j = false) : wayB n rs l = false := by
  unfold wayB; rw [decide_eq_false, Bool.and_false]; rintro ⟨_, a⟩; rw [a j h2 h1] at h; cases h
theorem wayB_ok {n : Int} {rs l : List Int} (hv : vertsB n rs l = true) (h0 : 1 ≤ l.length) (h : ∀ j, j < l.length → 1 ≤ j → edgeAt rs l j = true) : wayB n rs l = true := by
  unfold wayB; rw [hv, Bool.true_and, decide_eq_true_eq]; exact ⟨h0, h⟩
/-- A vertex of a list of different vertices, as a natural number. -/
theorem vert_at {n : Int} {rs l : List Int} (h : vertsB n rs l = true) {j : Nat} (hj : j < l.length) : ∃ v : Nat, gi l j = v ∧ v < rs.length := by
  obtain ⟨a, b⟩ := ((vertsB_true.1 h).2 j hj).1
  exact ⟨(gi l j).toNat, by omega, by omega⟩



end Go.Proofs.YtfkehmpckhmkbaaDoor

namespace Go.Proofs.YtfkehmpckhmkbaaDoor
open Go.RowKit

/-- Are places i and k of an order neighbours? -/
def nearB (rs l : List Int) (i k : Nat) : Bool := (gn rs (gi l i).toNat).testBit (gi l k).toNat
def bandRow (rs l : List Int) (i : Nat) : Nat → Nat → Nat
  | 0, a => a
  | k + 1, a => if nearB rs l i k = true then (if bandRow rs l i k a < i - k then i - k else bandRow rs l i k a) else bandRow rs l i k a
def bandTo (rs l : List Int) : Nat → Nat
  | 0 => 0
  | i + 1 => bandRow rs l i i (bandTo rs l i)
def bandV (n : Int) (rs l : List Int) : Int := if orderB n rs l = true then bandTo rs l l.length else -1
theorem bandV_no {n : Int} {rs l : List Int} (h : orderB n rs l = false) : bandV n rs l = -1 := by unfold bandV; rw [if_neg (by rw [h]; decide)]
theorem bandV_of {n : Int} {rs l : List Int} (h : orderB n rs l = true) : bandV n rs l = bandTo rs l l.length := by unfold bandV; rw [if_pos h]
theorem bandRow_no {rs l : List Int} {i k a : Nat} (h : nearB rs l i k = false) : bandRow rs l i (k + 1) a = bandRow rs l i k a := by
  show (if nearB rs l i k = true then _ else _) = _; rw [if_neg (by rw [h]; decide)]
theorem bandRow_yes {rs l : List Int} {i k a : Nat} (h : nearB rs l i k = true) : bandRow rs l i (k + 1) a = if bandRow rs l i k a < i - k then i - k else bandRow rs l i k a := by
  show (if nearB rs l i k = true then _ else _) = _; rw [if_pos h]
/-- What it bounds. -/
theorem bandRow_le {rs l : List Int} {i M : Nat} : ∀ k a, bandRow rs l i k a ≤ M ↔ a ≤ M ∧ ∀ j, j < k → nearB rs l i j = true → i - j ≤ M
  | 0, a => by simp [bandRow]
  | k + 1, a => by
    have ih := bandRow_le (rs := rs) (l := l) (i := i) (M := M) k a
    cases h : nearB rs l i k
    · rw [bandRow_no h, ih]
      constructor
      · rintro ⟨h1, h2⟩
        refine ⟨h1, fun j hj hn => ?_⟩
        by_cases e : j = k
        · subst e; rw [h] at hn; cases hn
        · exact h2 j (by omega) hn
      · rintro ⟨h1, h2⟩; exact ⟨h1, fun j hj => h2 j (by omega)⟩
    · have key : bandRow rs l i (k + 1) a ≤ M ↔ bandRow rs l i k a ≤ M ∧ i - k ≤ M := by rw [bandRow_yes h]; split <;> omega
      rw [key, ih]
      constructor
      · rintro ⟨⟨h1, h2⟩, h3⟩
        refine ⟨h1, fun j hj hn => ?_⟩
        by_cases e : j = k
        · subst e; exact h3
        · exact h2 j (by omega) hn
      · rintro ⟨h1, h2⟩; exact ⟨⟨h1, fun j hj => h2 j (by omega)⟩, h2 k (by omega) h⟩
theorem bandTo_le {rs l : List Int} {M : Nat} : ∀ n, bandTo rs l n ≤ M ↔ ∀ i, i < n → ∀ j, j < i → nearB rs l i j = true → i - j ≤ M
  | 0 => by simp [bandTo]
  | n + 1 => by
    have ih := bandTo_le (rs := rs) (l := l) (M := M) n
    show bandRow rs l n n (bandTo rs l n) ≤ M ↔ _
    rw [bandRow_le, ih]
    constructor
    · rintro ⟨h1, h2⟩ i hi
      by_cases e : i = n
      · subst e; exact h2
      · exact h1 i (by omega)
    · intro h; exact ⟨fun i hi => h i (by omega), h n (by omega)⟩


end Go.Proofs.YtfkehmpckhmkbaaDoor
