/-
  Plain laws of searches through all lists of different numbers: what a visitor that never stops has seen; the first best list. No conditions.
  Plain laws of the least cost of all orders: reckoned set by set, and over all lists of different numbers. No conditions.
-/
import Derived.Test.YtjikmjhpmkakoaaGreatDoorPkCardHereditary17
import Derived.Test.YtjikmjhpmkakoaaGreatDoorPkCardHereditary04
namespace Go.Proofs.YtjikmjhpmkakoaaGreatDoor
open Go.RowKit

/-- All ways to go on with f different numbers below N, in order. -/
def ext (N : Nat) : Nat → List Int → List (List Int)
  | 0, l => [l]
  | f + 1, l => (List.range N).flatMap fun v : Nat => if inB l (v : Int) = true then [] else ext N f (l ++ [(v : Int)])
theorem flRun_fold {S : Type} {V : S → List Int → S × Bool} {N : Nat} (hV : ∀ s l, (V s l).2 = false) : ∀ f s l, flRun V (fun _ => true) N f s l = ((ext N f l).foldl (fun s x => (V s x).1) s, none)
  | 0, s, l => by
    show ((V s l).1, if (V s l).2 = true then some l else none) = _
    rw [hV]; rfl
  | f + 1, s, l => by
    have h : ∀ j, preF (flStep (flRun V (fun _ => true) N f) (fun _ => true) l) (s, none) j = ((((List.range j).flatMap fun v : Nat => if inB l (v : Int) = true then [] else ext N f (l ++ [(v : Int)])).foldl (fun s x => (V s x).1) s, none), true) := by
      intro j
      induction j with
      | zero => rfl
      | succ j ih =>
        rw [preF_go ih, List.range_succ, List.flatMap_append, List.foldl_append]
        unfold flStep flSub
        cases hb : inB l (j : Int)
        · rw [if_pos ⟨rfl, rfl⟩, flRun_fold hV f]
          simp [hb]
        · rw [if_neg (by rintro ⟨h1, -⟩; cases h1)]
          simp [hb]
    show (preF _ (s, none) N).1 = _
    rw [h N]; rfl

/-- t goes on behind p with different numbers below N. -/
def fresh (N : Nat) : List Int → List Nat → Prop
  | _, [] => True
  | p, v :: t => v < N ∧ inB p (v : Int) = false ∧ fresh N (p ++ [(v : Int)]) t
theorem mem_ext {N : Nat} : ∀ f p (x : List Int), x ∈ ext N f p ↔ ∃ t : List Nat, t.length = f ∧ fresh N p t ∧ x = p ++ t.map Int.ofNat
  | 0, p, x => by
    show x ∈ [p] ↔ _
    rw [List.mem_singleton]
    constructor
    · rintro rfl; exact ⟨[], rfl, trivial, by simp⟩
    · rintro ⟨t, h1, -, h3⟩
      obtain rfl : t = [] := List.eq_nil_of_length_eq_zero h1
      simpa using h3
  | f + 1, p, x => by
    show x ∈ (List.range N).flatMap (fun v : Nat => if inB p (v : Int) = true then [] else ext N f (p ++ [(v : Int)])) ↔ _
    rw [List.mem_flatMap]
    constructor
    · rintro ⟨v, h1, h2⟩
      have hv : v < N := by simpa using h1
      split at h2
      · cases h2
      · rename_i h3
        obtain ⟨t, h4, h5, h6⟩ := (mem_ext f _ x).1 h2
        exact ⟨v :: t, by simp [h4], ⟨hv, by simpa using h3, h5⟩, by rw [h6]; simp⟩
    · rintro ⟨t, h1, h2, h3⟩
      match t, h1, h2, h3 with
      | v :: t, h1, ⟨h4, h5, h6⟩, h3 =>
        refine ⟨v, by simpa using h4, ?_⟩
        rw [if_neg (by rw [h5]; decide)]
        exact (mem_ext f _ x).2 ⟨t, by simpa using h1, h6, by rw [h3]; simp⟩

/-! ### The first best -/
abbrev BestS := Option (List Int) × Int
/-- What bestOrder's visitor does. -/
def bestStep (num : List Int → Int) (s : BestS) (x : List Int) : BestS := if s.2 < 0 ∨ num x < s.2 then (some x, num x) else s
theorem bestFold {num : List Int → Int} : ∀ (xs : List (List Int)) (y : List Int), (∀ x, x ∈ xs → 0 ≤ num x) → 0 ≤ num y → ∃ z, z ∈ y :: xs ∧ xs.foldl (bestStep num) (some y, num y) = (some z, num z) ∧ (∀ x, x ∈ y :: xs → num z ≤ num x)
  | [], y, _, _ => ⟨y, by simp, rfl, by simp⟩
  | x :: xs, y, h, hy => by
    have hx := h x (by simp)
    have ht : ∀ u, u ∈ xs → 0 ≤ num u := fun u hu => h u (by simp [hu])
    rw [List.foldl_cons]
    by_cases hc : num x < num y
    · have e : bestStep num (some y, num y) x = (some x, num x) := by unfold bestStep; rw [if_pos (.inr hc)]
      rw [e]
      obtain ⟨z, h1, h2, h3⟩ := bestFold xs x ht hx
      refine ⟨z, List.mem_cons_of_mem _ h1, h2, fun u hu => ?_⟩
      simp only [List.mem_cons] at hu
      rcases hu with rfl | hu
      · have := h3 x (by simp); omega
      · exact h3 u (by simpa using hu)
    · have e : bestStep num (some y, num y) x = (some y, num y) := by unfold bestStep; rw [if_neg (by dsimp only; omega)]
      rw [e]
      obtain ⟨z, h1, h2, h3⟩ := bestFold xs y ht hy
      refine ⟨z, by rcases List.mem_cons.1 h1 with h4 | h4 <;> simp [h4], h2, fun u hu => ?_⟩
      simp only [List.mem_cons] at hu
      rcases hu with rfl | rfl | hu
      · exact h3 u (by simp)
      · have := h3 y (by simp); omega
      · exact h3 u (by simp [hu])
/-- The best one is the first whose number is at most the least number. -/
theorem bestFold_find {num : List Int → Int} : ∀ (xs : List (List Int)) (y : List Int), (∀ x, x ∈ xs → 0 ≤ num x) → 0 ≤ num y → (y :: xs).find? (fun x => decide (num x ≤ (xs.foldl (bestStep num) (some y, num y)).2)) = (xs.foldl (bestStep num) (some y, num y)).1
  | [], y, _, _ => by simp
  | x :: xs, y, h, hy => by
    have hx := h x (by simp)
    have ht : ∀ u, u ∈ xs → 0 ≤ num u := fun u hu => h u (by simp [hu])
    rw [List.foldl_cons]
    by_cases hc : num x < num y
    · have e : bestStep num (some y, num y) x = (some x, num x) := by unfold bestStep; rw [if_pos (.inr hc)]
      rw [e]
      have ih := bestFold_find xs x ht hx
      obtain ⟨z, h1, h2, h3⟩ := bestFold xs x ht hx
      rw [h2] at ih ⊢
      have h4 := h3 x (by simp)
      dsimp only at ih ⊢
      rw [List.find?_cons, decide_eq_false (show ¬num y ≤ num z by omega)]
      exact ih
    · have e : bestStep num (some y, num y) x = (some y, num y) := by unfold bestStep; rw [if_neg (by dsimp only; omega)]
      rw [e]
      have ih := bestFold_find xs y ht hy
      obtain ⟨z, h1, h2, h3⟩ := bestFold xs y ht hy
      rw [h2] at ih ⊢
      dsimp only at ih ⊢
      rw [List.find?_cons] at ih ⊢
      cases hd : decide (num y ≤ num z)
      · rw [hd] at ih
        dsimp only at ih ⊢
        rw [List.find?_cons]
        have := of_decide_eq_false hd
        rw [decide_eq_false (show ¬num x ≤ num z by omega)]
        exact ih
      · rw [hd] at ih
        exact ih

end Go.Proofs.YtjikmjhpmkakoaaGreatDoor

namespace Go.Proofs.YtjikmjhpmkakoaaGreatDoor
open Go.RowKit

/-- The least of what is asked of the numbers below k for which p holds, N at most. -/
def minTo (N : Nat) (p : Nat → Bool) (f : Nat → Nat) : Nat → Nat
  | 0 => N
  | k + 1 => if p k = true then (if f k < minTo N p f k then f k else minTo N p f k) else minTo N p f k
theorem minTo_no {N : Nat} {p : Nat → Bool} {f : Nat → Nat} {k : Nat} (h : p k = false) : minTo N p f (k + 1) = minTo N p f k := by
  show (if p k = true then _ else _) = _; rw [if_neg (by rw [h]; decide)]
theorem minTo_yes {N : Nat} {p : Nat → Bool} {f : Nat → Nat} {k : Nat} (h : p k = true) : minTo N p f (k + 1) = if f k < minTo N p f k then f k else minTo N p f k := by
  show (if p k = true then _ else _) = _; rw [if_pos h]
theorem minTo_le {N : Nat} {p : Nat → Bool} {f : Nat → Nat} : ∀ k, minTo N p f k ≤ N
  | 0 => Nat.le_refl _
  | k + 1 => by
    have ih := minTo_le (N := N) (p := p) (f := f) k
    cases h : p k
    · rw [minTo_no h]; exact ih
    · rw [minTo_yes h]; split <;> omega
theorem minTo_at {N : Nat} {p : Nat → Bool} {f : Nat → Nat} {v : Nat} (hv : p v = true) : ∀ k, v < k → minTo N p f k ≤ f v
  | 0, h => by omega
  | k + 1, h => by
    by_cases e : v = k
    · subst e; rw [minTo_yes hv]; split <;> omega
    · have ih := minTo_at (N := N) (f := f) hv k (by omega)
      cases hk : p k
      · rw [minTo_no hk]; exact ih
      · rw [minTo_yes hk]; split <;> omega
theorem minTo_got {N : Nat} {p : Nat → Bool} {f : Nat → Nat} : ∀ k, minTo N p f k = N ∨ ∃ v, v < k ∧ p v = true ∧ minTo N p f k = f v
  | 0 => .inl rfl
  | k + 1 => by
    rcases minTo_got (N := N) (p := p) (f := f) k with h | ⟨v, h1, h2, h3⟩
    · cases hk : p k
      · rw [minTo_no hk]; exact .inl h
      · rw [minTo_yes hk]
        split
        · exact .inr ⟨k, by omega, hk, rfl⟩
        · exact .inl h
    · cases hk : p k
      · rw [minTo_no hk]; exact .inr ⟨v, by omega, h2, h3⟩
      · rw [minTo_yes hk]
        split
        · exact .inr ⟨k, by omega, hk, rfl⟩
        · exact .inr ⟨v, by omega, h2, h3⟩
theorem minTo_congr {N : Nat} {p : Nat → Bool} {f g : Nat → Nat} : ∀ k, (∀ v, v < k → p v = true → f v = g v) → minTo N p f k = minTo N p g k
  | 0, _ => rfl
  | k + 1, h => by
    have ih := minTo_congr (N := N) k (fun v hv => h v (by omega))
    cases hk : p k
    · rw [minTo_no hk, minTo_no hk, ih]
    · rw [minTo_yes hk, minTo_yes hk, ih, h k (by omega) hk]

/-- The least cost with which a set is reached: c S v for v behind S, e S for the set itself. -/
def dpF (c : Nat → Nat → Nat) (e : Nat → Nat) (N : Nat) : Nat → Nat → Nat
  | 0, _ => 0
  | f + 1, S => if S = 0 then 0 else max (minTo N S.testBit (fun v => max (dpF c e N f (S - 2 ^ v)) (c (S - 2 ^ v) v)) N) (e S)
def dpV (c : Nat → Nat → Nat) (e : Nat → Nat) (N S : Nat) : Nat := dpF c e N S S
theorem bit_sub_lt {S v : Nat} (h : S.testBit v = true) : S - 2 ^ v < S := by
  have h1 := Nat.ge_two_pow_of_testBit h
  have := Nat.two_pow_pos v
  omega
theorem dpF_fuel {c : Nat → Nat → Nat} {e : Nat → Nat} {N : Nat} : ∀ f S, S ≤ f → dpF c e N f S = dpV c e N S
  | 0, S, h => by obtain rfl : S = 0 := by omega
                  rfl
  | f + 1, S, h => by
    by_cases h0 : S = 0
    · subst h0; rfl
    · obtain ⟨s, rfl⟩ : ∃ s, S = s + 1 := ⟨S - 1, by omega⟩
      unfold dpV
      show (if s + 1 = 0 then 0 else _) = (if s + 1 = 0 then 0 else _)
      rw [if_neg h0, if_neg h0]
      congr 1
      refine minTo_congr _ fun v _ hv => ?_
      have := bit_sub_lt hv
      rw [dpF_fuel f _ (by omega), dpF_fuel s _ (by omega)]
termination_by f => f
theorem dpV_zero (c : Nat → Nat → Nat) (e : Nat → Nat) (N : Nat) : dpV c e N 0 = 0 := rfl
theorem dpV_step {c : Nat → Nat → Nat} {e : Nat → Nat} {N S : Nat} (h0 : S ≠ 0) : dpV c e N S = max (minTo N S.testBit (fun v => max (dpV c e N (S - 2 ^ v)) (c (S - 2 ^ v) v)) N) (e S) := by
  obtain ⟨s, rfl⟩ : ∃ s, S = s + 1 := ⟨S - 1, by omega⟩
  show (if s + 1 = 0 then 0 else max (minTo N (s + 1).testBit (fun v => max (dpF c e N s (s + 1 - 2 ^ v)) (c (s + 1 - 2 ^ v) v)) N) (e (s + 1))) = _
  rw [if_neg h0]
  congr 1
  refine minTo_congr _ fun v _ hv => ?_
  have := bit_sub_lt hv
  rw [dpF_fuel s _ (by omega)]
theorem dpV_le {c : Nat → Nat → Nat} {e : Nat → Nat} {N : Nat} (he : ∀ S, e S ≤ N) (S : Nat) : dpV c e N S ≤ N := by
  by_cases h0 : S = 0
  · subst h0; exact Nat.zero_le _
  · rw [dpV_step h0]
    exact Nat.max_le.2 ⟨minTo_le _, he S⟩

/-! ### Orders -/
def freshS (N : Nat) : Nat → List Nat → Prop
  | _, [] => True
  | S, v :: t => v < N ∧ S.testBit v = false ∧ freshS N (S ||| 2 ^ v) t
def unionS : Nat → List Nat → Nat
  | S, [] => S
  | S, v :: t => unionS (S ||| 2 ^ v) t
def costF (c : Nat → Nat → Nat) (e : Nat → Nat) : Nat → List Nat → Nat → Nat
  | _, [], m => m
  | S, v :: t, m => costF c e (S ||| 2 ^ v) t (max (max m (c S v)) (e (S ||| 2 ^ v)))
theorem or_minus_fin : ∀ S : Fin 128, ∀ v : Fin 7, S.val.testBit v.val = false → (S.val ||| 2 ^ v.val) - 2 ^ v.val = S.val := by decide +kernel
theorem or_minus {S v : Nat} (hS : S < 128) (hv : v < 7) (h : S.testBit v = false) : (S ||| 2 ^ v) - 2 ^ v = S ∧ (S ||| 2 ^ v).testBit v = true :=
  ⟨or_minus_fin ⟨S, hS⟩ ⟨v, hv⟩ h, by rw [Nat.testBit_or, Nat.testBit_two_pow]; simp⟩
theorem minus_or_fin : ∀ S : Fin 128, ∀ v : Fin 7, S.val.testBit v.val = true → ((S.val - 2 ^ v.val) ||| 2 ^ v.val) = S.val ∧ (S.val - 2 ^ v.val).testBit v.val = false := by decide +kernel
theorem minus_or {S v : Nat} (hS : S < 128) (h : S.testBit v = true) : (S - 2 ^ v) ||| 2 ^ v = S ∧ (S - 2 ^ v).testBit v = false := minus_or_fin ⟨S, hS⟩ ⟨v, bit7 hS h⟩ h
theorem lt128 {S N : Nat} (hN : N ≤ 7) (hS : S < 2 ^ N) : S < 128 := Nat.lt_of_lt_of_le hS (Nat.pow_le_pow_right (n := 2) (by decide) hN)
theorem or_ne (S v : Nat) : S ||| 2 ^ v ≠ 0 := fun h => by
  have h1 : (S ||| 2 ^ v).testBit v = true := by rw [Nat.testBit_or, Nat.testBit_two_pow]; simp
  rw [h, Nat.zero_testBit] at h1; cases h1
theorem dpV_cost {c : Nat → Nat → Nat} {e : Nat → Nat} {N : Nat} (hN : N ≤ 7) : ∀ (t : List Nat) (S m : Nat), S < 2 ^ N → freshS N S t → dpV c e N S ≤ m → dpV c e N (unionS S t) ≤ costF c e S t m
  | [], _, _, _, _, h => h
  | v :: t, S, m, hS, ⟨h1, h2, h3⟩, h => by
    refine dpV_cost hN t (S ||| 2 ^ v) _ (Nat.or_lt_two_pow hS (Nat.pow_lt_pow_right (by decide) h1)) h3 ?_
    obtain ⟨a1, a2⟩ := or_minus (lt128 hN hS) (by omega) h2
    rw [dpV_step (or_ne S v)]
    have := minTo_at (N := N) (p := (S ||| 2 ^ v).testBit) (f := fun u => max (dpV c e N ((S ||| 2 ^ v) - 2 ^ u)) (c ((S ||| 2 ^ v) - 2 ^ u) u)) a2 N h1
    rw [a1] at this
    refine Nat.max_le.2 ⟨Nat.le_trans (Nat.le_trans this (Nat.max_le.2 ⟨?_, ?_⟩)) (Nat.le_max_left _ _), Nat.le_max_right _ _⟩
    · exact Nat.le_trans h (Nat.le_max_left _ _)
    · exact Nat.le_max_right _ _
theorem costF_snoc (c : Nat → Nat → Nat) (e : Nat → Nat) (v : Nat) : ∀ (t : List Nat) (S m : Nat), costF c e S (t ++ [v]) m = max (max (costF c e S t m) (c (unionS S t) v)) (e (unionS S t ||| 2 ^ v))
  | [], _, _ => rfl
  | _ :: t, _, _ => costF_snoc c e v t _ _
theorem unionS_snoc (v : Nat) : ∀ (t : List Nat) (S : Nat), unionS S (t ++ [v]) = unionS S t ||| 2 ^ v
  | [], _ => rfl
  | _ :: t, _ => unionS_snoc v t _
theorem freshS_snoc {N v : Nat} (hv : v < N) : ∀ (t : List Nat) (S : Nat), freshS N S t → (unionS S t).testBit v = false → freshS N S (t ++ [v])
  | [], _, _, h => ⟨hv, h, trivial⟩
  | _ :: t, _, ⟨h1, h2, h3⟩, h => ⟨h1, h2, freshS_snoc hv t _ h3 h⟩
/-- Some order has the least cost. -/
theorem dpV_order {c : Nat → Nat → Nat} {e : Nat → Nat} {N : Nat} (hN : N ≤ 7) (hc : ∀ S v, c S v ≤ N) (he : ∀ S, e S ≤ N) : ∀ (n S : Nat), S ≤ n → S < 2 ^ N → ∃ t, freshS N 0 t ∧ unionS 0 t = S ∧ costF c e 0 t 0 = dpV c e N S
  | 0, S, h, _ => by
    obtain rfl : S = 0 := by omega
    exact ⟨[], trivial, rfl, rfl⟩
  | n + 1, S, h, hS => by
    by_cases h0 : S = 0
    · subst h0; exact ⟨[], trivial, rfl, rfl⟩
    · have key : ∃ v, S.testBit v = true ∧ minTo N S.testBit (fun v => max (dpV c e N (S - 2 ^ v)) (c (S - 2 ^ v) v)) N = max (dpV c e N (S - 2 ^ v)) (c (S - 2 ^ v) v) := by
        rcases minTo_got (N := N) (p := S.testBit) (f := fun v => max (dpV c e N (S - 2 ^ v)) (c (S - 2 ^ v) v)) N with h1 | ⟨v, -, h2, h3⟩
        · have hb : S.testBit S.log2 = true := Nat.testBit_log2 h0
          have hlt := testBit_lt hS hb
          have h4 := minTo_at (N := N) (p := S.testBit) (f := fun v => max (dpV c e N (S - 2 ^ v)) (c (S - 2 ^ v) v)) hb N hlt
          refine ⟨S.log2, hb, ?_⟩
          have h5 : max (dpV c e N (S - 2 ^ S.log2)) (c (S - 2 ^ S.log2) S.log2) ≤ N := Nat.max_le.2 ⟨dpV_le he _, hc _ _⟩
          omega
        · exact ⟨v, h2, h3⟩
      obtain ⟨v, h1, h2⟩ := key
      have h3 := bit_sub_lt h1
      obtain ⟨t, t1, t2, t3⟩ := dpV_order hN hc he n (S - 2 ^ v) (by omega) (by omega)
      obtain ⟨m1, m2⟩ := minus_or (lt128 hN hS) h1
      refine ⟨t ++ [v], freshS_snoc (testBit_lt hS h1) t 0 t1 (by rw [t2]; exact m2), by rw [unionS_snoc, t2, m1], ?_⟩
      rw [costF_snoc, t2, t3, m1, dpV_step h0, h2]

/-! ### Orders as lists of integers -/
theorem fresh_freshS {N : Nat} : ∀ (t : List Nat) (p : List Int) (S : Nat), (∀ v : Nat, S.testBit v = inB p (v : Int)) → (fresh N p t ↔ freshS N S t)
  | [], _, _, _ => Iff.rfl
  | v :: t, p, S, h => by
    have h2 : ∀ u : Nat, (S ||| 2 ^ v).testBit u = inB (p ++ [(v : Int)]) (u : Int) := fun u => by
      rw [Nat.testBit_or, Nat.testBit_two_pow, h u, Bool.eq_iff_iff, Bool.or_eq_true, decide_eq_true_eq, inB_true, inB_true]
      constructor
      · rintro (⟨j, hj, e⟩ | rfl)
        · exact ⟨j, by simp; omega, by simpa [gi, List.getElem?_append_left hj] using e⟩
        · exact ⟨p.length, by simp, by simp [gi]⟩
      · rintro ⟨j, hj, e⟩
        by_cases hjl : j < p.length
        · exact .inl ⟨j, hjl, by simpa [gi, List.getElem?_append_left hjl] using e⟩
        · obtain rfl : j = p.length := by simp at hj; omega
          right
          simp [gi] at e
          omega
    show (v < N ∧ inB p (v : Int) = false ∧ fresh N (p ++ [(v : Int)]) t) ↔ (v < N ∧ S.testBit v = false ∧ freshS N (S ||| 2 ^ v) t)
    rw [h v, fresh_freshS t _ _ h2]
theorem inB_nil (v : Int) : inB [] v = false := by
  rw [← Bool.not_eq_true, inB_true]
  rintro ⟨j, hj, -⟩
  simp at hj
theorem fresh_start {N : Nat} (t : List Nat) : fresh N [] t ↔ freshS N 0 t := fresh_freshS t [] 0 (fun v => by rw [inB_nil, Nat.zero_testBit])

end Go.Proofs.YtjikmjhpmkakoaaGreatDoor
