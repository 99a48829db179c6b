/-
  Plain laws of searches through all lists of different numbers: what a visitor that never stops has seen; the first best list. No conditions.
-/
import Derived.Test.YtfkehmpckhmkbaaDoorPkCardArcs18
namespace Go.Proofs.YtfkehmpckhmkbaaDoor
open Go.RowKit

/-- All ways to go on with f different numbers below N, in order. -/
def ext (N : Nat) : Nat → List Int → List (List Int)
  | 0, l => [l]
  | f + 1, l => (List.range N).flatMap fun v : Nat => if inB l (v : Int) = true then [] else ext N f (l ++ [(v : Int)])
theorem flRun_fold {S : Type} {V : S → List Int → S × Bool} {N : Nat} (hV : ∀ s l, (V s l).2 = false) : ∀ f s l, flRun V (fun _ => true) N f s l = ((ext N f l).foldl (fun s x => (V s x).1) s, none)
  | 0, s, l => by
    show ((V s l).1, if (V s l).2 = true then some l else none) = _
    rw [hV]; rfl
  | f + 1, s, l => by
    have h : ∀ j, preF (flStep (flRun V (fun _ => true) N f) (fun _ => true) l) (s, none) j = ((((List.range j).flatMap fun v : Nat => if inB l (v : Int) = true then [] else ext N f (l ++ [(v : Int)])).foldl (fun s x => (V s x).1) s, none), true) := by
      intro j
      induction j with
      | zero => rfl
      | succ j ih =>
        rw [preF_go ih, List.range_succ, List.flatMap_append, List.foldl_append]
        unfold flStep flSub
        cases hb : inB l (j : Int)
        · rw [if_pos ⟨rfl, rfl⟩, flRun_fold hV f]
          simp [hb]
        · rw [if_neg (by rintro ⟨h1, -⟩; cases h1)]
          simp [hb]
    show (preF _ (s, none) N).1 = _
    rw [h N]; rfl

/-- t goes on behind p with different numbers below N. -/
def fresh (N : Nat) : List Int → List Nat → Prop
  | _, [] => True
  | p, v :: t => v < N ∧ inB p (v : Int) = false ∧ fresh N (p ++ [(v : Int)]) t
theorem mem_ext {N : Nat} : ∀ f p (x : List Int), x ∈ ext N f p ↔ ∃ t : List Nat, t.length = f ∧ fresh N p t ∧ x = p ++ t.map Int.ofNat
  | 0, p, x => by
    show x ∈ [p] ↔ _
    rw [List.mem_singleton]
    constructor
    · rintro rfl; exact ⟨[], rfl, trivial, by simp⟩
    · rintro ⟨t, h1, -, h3⟩
      obtain rfl : t = [] := List.eq_nil_of_length_eq_zero h1
      simpa using h3
  | f + 1, p, x => by
    show x ∈ (List.range N).flatMap (fun v : Nat => if inB p (v : Int) = true then [] else ext N f (p ++ [(v : Int)])) ↔ _
    rw [List.mem_flatMap]
    constructor
    · rintro ⟨v, h1, h2⟩
      have hv : v < N := by simpa using h1
      split at h2
      · cases h2
      · rename_i h3
        obtain ⟨t, h4, h5, h6⟩ := (mem_ext f _ x).1 h2
        exact ⟨v :: t, by simp [h4], ⟨hv, by simpa using h3, h5⟩, by rw [h6]; simp⟩
    · rintro ⟨t, h1, h2, h3⟩
      match t, h1, h2, h3 with
      | v :: t, h1, ⟨h4, h5, h6⟩, h3 =>
        refine ⟨v, by simpa using h4, ?_⟩
        rw [if_neg (by rw [h5]; decide)]
        exact (mem_ext f _ x).2 ⟨t, by simpa using h1, h6, by rw [h3]; simp⟩

/-! ### The first best -/
abbrev BestS := Option (List Int) × Int
/-- What bestOrder's visitor does. -/
def bestStep (num : List Int → Int) (s : BestS) (x : List Int) : BestS := if s.2 < 0 ∨ num x < s.2 then (some x, num x) else s
theorem bestFold {num : List Int → Int} : ∀ (xs : List (List Int)) (y : List Int), (∀ x, x ∈ xs → 0 ≤ num x) → 0 ≤ num y → ∃ z, z ∈ y :: xs ∧ xs.foldl (bestStep num) (some y, num y) = (some z, num z) ∧ (∀ x, x ∈ y :: xs → num z ≤ num x)
  | [], y, _, _ => ⟨y, by simp, rfl, by simp⟩
  | x :: xs, y, h, hy => by
    have hx := h x (by simp)
    have ht : ∀ u, u ∈ xs → 0 ≤ num u := fun u hu => h u (by simp [hu])
    rw [List.foldl_cons]
    by_cases hc : num x < num y
    · have e : bestStep num (some y, num y) x = (some x, num x) := by unfold bestStep; rw [if_pos (.inr hc)]
      rw [e]
      obtain ⟨z, h1, h2, h3⟩ := bestFold xs x ht hx
      refine ⟨z, List.mem_cons_of_mem _ h1, h2, fun u hu => ?_⟩
      simp only [List.mem_cons] at hu
      rcases hu with rfl | hu
      · have := h3 x (by simp); omega
      · exact h3 u (by simpa using hu)
    · have e : bestStep num (some y, num y) x = (some y, num y) := by unfold bestStep; rw [if_neg (by dsimp only; omega)]
      rw [e]
      obtain ⟨z, h1, h2, h3⟩ := bestFold xs y ht hy
      refine ⟨z, by rcases List.mem_cons.1 h1 with h4 | h4 <;> simp [h4], h2, fun u hu => ?_⟩
      simp only [List.mem_cons] at hu
      rcases hu with rfl | rfl | hu
      · exact h3 u (by simp)
      · have := h3 y (by simp); omega
      · exact h3 u (by simp [hu])
/-- The best one is the first whose number is at most the least number. -/
theorem bestFold_find {num : List Int → Int} : ∀ (xs : List (List Int)) (y : List Int), (∀ x, x ∈ xs → 0 ≤ num x) → 0 ≤ num y → (y :: xs).find? (fun x => decide (num x ≤ (xs.foldl (bestStep num) (some y, num y)).2)) = (xs.foldl (bestStep num) (some y, num y)).1
  | [], y, _, _ => by simp
  | x :: xs, y, h, hy => by
    have hx := h x (by simp)
    have ht : ∀ u, u ∈ xs → 0 ≤ num u := fun u hu => h u (by simp [hu])
    rw [List.foldl_cons]
    by_cases hc : num x < num y
    · have e : bestStep num (some y, num y) x = (some x, num x) := by unfold bestStep; rw [if_pos (.inr hc)]
      rw [e]
      have ih := bestFold_find xs x ht hx
      obtain ⟨z, h1, h2, h3⟩ := bestFold xs x ht hx
      rw [h2] at ih ⊢
      have h4 := h3 x (by simp)
      dsimp only at ih ⊢
      rw [List.find?_cons, decide_eq_false (show ¬num y ≤ num z by omega)]
      exact ih
    · have e : bestStep num (some y, num y) x = (some y, num y) := by unfold bestStep; rw [if_neg (by dsimp only; omega)]
      rw [e]
      have ih := bestFold_find xs y ht hy
      obtain ⟨z, h1, h2, h3⟩ := bestFold xs y ht hy
      rw [h2] at ih ⊢
      dsimp only at ih ⊢
      rw [List.find?_cons] at ih ⊢
      cases hd : decide (num y ≤ num z)
      · rw [hd] at ih
        dsimp only at ih ⊢
        rw [List.find?_cons]
        have := of_decide_eq_false hd
        rw [decide_eq_false (show ¬num x ≤ num z by omega)]
        exact ih
      · rw [hd] at ih
        exact ih

end Go.Proofs.YtfkehmpckhmkbaaDoor
