/-
  Plain laws of the least cost of all orders: reckoned set by set, and over all lists of different numbers. No conditions.
  Plain laws of the pathwidth: the least cut of all orders is what is reckoned set by set. No conditions.
  The band of an order out of the edge list: the plain law of BandOf of the program.
  LaterNeighbours of the reference and of the program, SetOf of the program. For at most 2^20 rows and list elements; the order is right and the vertex is in it.
-/
import Derived.Test.YtfkehmpckhmkbaaGreatPkLawPerfect30
import Derived.Test.YtfkehmpckhmkbaaGreatPkLawPerfect04
import Derived.Test.YtfkehmpckhmkbaaGreatPkLawPerfect05
namespace Go.Proofs.YtfkehmpckhmkbaaGreat
open Go.RowKit

/-- The least of what is asked of the numbers below k for which p holds, N at most. -/
def minTo (N : Nat) (p : Nat → Bool) (f : Nat → Nat) : Nat → Nat
  | 0 => N
  | k + 1 => if p k = true then (if f k < minTo N p f k then f k else minTo N p f k) else minTo N p f k
theorem minTo_no {N : Nat} {p : Nat → Bool} {f : Nat → Nat} {k : Nat} (h : p k = false) : minTo N p f (k + 1) = minTo N p f k := by
  show (if p k = true then _ else _) = _; rw [if_neg (by rw [h]; decide)]
theorem minTo_yes {N : Nat} {p : Nat → Bool} {f : Nat → Nat} {k : Nat} (h : p k = true) : minTo N p f (k + 1) = if f k < minTo N p f k then f k else minTo N p f k := by
  show (if p k = true then _ else _) = _; rw [if_pos h]
theorem minTo_le {N : Nat} {p : Nat → Bool} {f : Nat → Nat} : ∀ k, minTo N p f k ≤ N
  | 0 => Nat.le_refl _
  | k + 1 => by
    have ih := minTo_le (N := N) (p := p) (f := f) k
    cases h : p k
    · rw [minTo_no h]; exact ih
    · rw [minTo_yes h]; split <;> omega
theorem minTo_at {N : Nat} {p : Nat → Bool} {f : Nat → Nat} {v : Nat} (hv : p v = true) : ∀ k, v < k → minTo N p f k ≤ f v
  | 0, h => by omega
  | k + 1, h => by
    by_cases e : v = k
    · subst e; rw [minTo_yes hv]; split <;> omega
    · have ih := minTo_at (N := N) (f := f) hv k (by omega)
      cases hk : p k
      · rw [minTo_no hk]; exact ih
      · rw [minTo_yes hk]; split <;> omega
theorem minTo_got {N : Nat} {p : Nat → Bool} {f : Nat → Nat} : ∀ k, minTo N p f k = N ∨ ∃ v, v < k ∧ p v = true ∧ minTo N p f k = f v
  | 0 => .inl rfl
  | k + 1 => by
    rcases minTo_got (N := N) (p := p) (f := f) k with h | ⟨v, h1, h2, h3⟩
    · cases hk : p k
      · rw [minTo_no hk]; exact .inl h
      · rw [minTo_yes hk]
        split
        · exact .inr ⟨k, by omega, hk, rfl⟩
        · exact .inl h
    · cases hk : p k
      · rw [minTo_no hk]; exact .inr ⟨v, by omega, h2, h3⟩
      · rw [minTo_yes hk]
        split
        · exact .inr ⟨k, by omega, hk, rfl⟩
        · exact .inr ⟨v, by omega, h2, h3⟩
theorem minTo_congr {N : Nat} {p : Nat → Bool} {f g : Nat → Nat} : ∀ k, (∀ v, v < k → p v = true → f v = g v) → minTo N p f k = minTo N p g k
  | 0, _ => rfl
  | k + 1, h => by
    have ih := minTo_congr (N := N) k (fun v hv => h v (by omega))
    cases hk : p k
    · rw [minTo_no hk, minTo_no hk, ih]
    · rw [minTo_yes hk, minTo_yes hk, ih, h k (by omega) hk]

/-- The least cost with which a set is reached: c S v for v behind S, e S for the set itself. -/
def dpF (c : Nat → Nat → Nat) (e : Nat → Nat) (N : Nat) : Nat → Nat → Nat
  | 0, _ => 0
  | f + 1, S => if S = 0 then 0 else max (minTo N S.testBit (fun v => max (dpF c e N f (S - 2 ^ v)) (c (S - 2 ^ v) v)) N) (e S)
def dpV (c : Nat → Nat → Nat) (e : Nat → Nat) (N S : Nat) : Nat := dpF c e N S S
theorem bit_sub_lt {S v : Nat} (h : S.testBit v = true) : S - 2 ^ v < S := by
  have h1 := Nat.ge_two_pow_of_testBit h
  have := Nat.two_pow_pos v
  omega
theorem dpF_fuel {c : Nat → Nat → Nat} {e : Nat → Nat} {N : Nat} : ∀ f S, S ≤ f → dpF c e N f S = dpV c e N S
  | 0, S, h => by obtain rfl : S = 0 := by omega
                  rfl
  | f + 1, S, h => by
    by_cases h0 : S = 0
    · subst h0; rfl
    · obtain ⟨s, rfl⟩ : ∃ s, S = s + 1 := ⟨S - 1, by omega⟩
      unfold dpV
      show (if s + 1 = 0 then 0 else _) = (if s + 1 = 0 then 0 else _)
      rw [if_neg h0, if_neg h0]
      congr 1
      refine minTo_congr _ fun v _ hv => ?_
      have := bit_sub_lt hv
      rw [dpF_fuel f _ (by omega), dpF_fuel s _ (by omega)]
termination_by f => f
theorem dpV_zero (c : Nat → Nat → Nat) (e : Nat → Nat) (N : Nat) : dpV c e N 0 = 0 := rfl
theorem dpV_step {c : Nat → Nat → Nat} {e : Nat → Nat} {N S : Nat} (h0 : S ≠ 0) : dpV c e N S = max (minTo N S.testBit (fun v => max (dpV c e N (S - 2 ^ v)) (c (S - 2 ^ v) v)) N) (e S) := by
  obtain ⟨s, rfl⟩ : ∃ s, S = s + 1 := ⟨S - 1, by omega⟩
  show (if s + 1 = 0 then 0 else max (minTo N (s + 1).testBit (fun v => max (dpF c e N s (s + 1 - 2 ^ v)) (c (s + 1 - 2 ^ v) v)) N) (e (s + 1))) = _
  rw [if_neg h0]
  congr 1
  refine minTo_congr _ fun v _ hv => ?_
  have := bit_sub_lt hv
  rw [dpF_fuel s _ (by omega)]
theorem dpV_le {c : Nat → Nat → Nat} {e : Nat → Nat} {N : Nat} (he : ∀ S, e S ≤ N) (S : Nat) : dpV c e N S ≤ N := by
  by_cases h0 : S = 0
  · subst h0; exact Nat.zero_le _
  · rw [dpV_step h0]
    exact Nat.max_le.2 ⟨minTo_le _, he S⟩

/-! ### Orders -/
def freshS (N : Nat) : Nat → List Nat → Prop
  | _, [] => True
  | S, v :: t => v < N ∧ S.testBit v = false ∧ freshS N (S ||| 2 ^ v) t
def unionS : Nat → List Nat → Nat
  | S, [] => S
  | S, v :: t => unionS (S ||| 2 ^ v) t
def costF (c : Nat → Nat → Nat) (e : Nat → Nat) : Nat → List Nat → Nat → Nat
  | _, [], m => m
  | S, v :: t, m => costF c e (S ||| 2 ^ v) t (max (max m (c S v)) (e (S ||| 2 ^ v)))
theorem or_minus_fin : ∀ S : Fin 128, ∀ v : Fin 7, S.val.testBit v.val = false → (S.val ||| 2 ^ v.val) - 2 ^ v.val = S.val := by decide +kernel
theorem or_minus {S v : Nat} (hS : S < 128) (hv : v < 7) (h : S.testBit v = false) : (S ||| 2 ^ v) - 2 ^ v = S ∧ (S ||| 2 ^ v).testBit v = true :=
  ⟨or_minus_fin ⟨S, hS⟩ ⟨v, hv⟩ h, by rw [Nat.testBit_or, Nat.testBit_two_pow]; simp⟩
theorem minus_or_fin : ∀ S : Fin 128, ∀ v : Fin 7, S.val.testBit v.val = true → ((S.val - 2 ^ v.val) ||| 2 ^ v.val) = S.val ∧ (S.val - 2 ^ v.val).testBit v.val = false := by decide +kernel
theorem minus_or {S v : Nat} (hS : S < 128) (h : S.testBit v = true) : (S - 2 ^ v) ||| 2 ^ v = S ∧ (S - 2 ^ v).testBit v = false := minus_or_fin ⟨S, hS⟩ ⟨v, bit7 hS h⟩ h
theorem lt128 {S N : Nat} (hN : N ≤ 7) (hS : S < 2 ^ N) : S < 128 := Nat.lt_of_lt_of_le hS (Nat.pow_le_pow_right (n := 2) (by decide) hN)
theorem or_ne (S v : Nat) : S ||| 2 ^ v ≠ 0 := fun h => by
  have h1 : (S ||| 2 ^ v).testBit v = true := by rw [Nat.testBit_or, Nat.testBit_two_pow]; simp
  rw [h, Nat.zero_testBit] at h1; cases h1
theorem dpV_cost {c : Nat → Nat → Nat} {e : Nat → Nat} {N : Nat} (hN : N ≤ 7) : ∀ (t : List Nat) (S m : Nat), S < 2 ^ N → freshS N S t → dpV c e N S ≤ m → dpV c e N (unionS S t) ≤ costF c e S t m
  | [], _, _, _, _, h => h
  | v :: t, S, m, hS, ⟨h1, h2, h3⟩, h => by
    refine dpV_cost hN t (S ||| 2 ^ v) _ (Nat.or_lt_two_pow hS (Nat.pow_lt_pow_right (by decide) h1)) h3 ?_
    obtain ⟨a1, a2⟩ := or_minus (lt128 hN hS) (by omega) h2
    rw [dpV_step (or_ne S v)]
    have := minTo_at (N := N) (p := (S ||| 2 ^ v).testBit) (f := fun u => max (dpV c e N ((S ||| 2 ^ v) - 2 ^ u)) (c ((S ||| 2 ^ v) - 2 ^ u) u)) a2 N h1
    rw [a1] at this
    refine Nat.max_le.2 ⟨Nat.le_trans (Nat.le_trans this (Nat.max_le.2 ⟨?_, ?_⟩)) (Nat.le_max_left _ _), Nat.le_max_right _ _⟩
    · exact Nat.le_trans h (Nat.le_max_left _ _)
    · exact Nat.le_max_right _ _
theorem costF_snoc (c : Nat → Nat → Nat) (e : Nat → Nat) (v : Nat) : ∀ (t : List Nat) (S m : Nat), costF c e S (t ++ [v]) m = max (max (costF c e S t m) (c (unionS S t) v)) (e (unionS S t ||| 2 ^ v))
  | [], _, _ => rfl
  | _ :: t, _, _ => costF_snoc c e v t _ _
theorem unionS_snoc (v : Nat) : ∀ (t : List Nat) (S : Nat), unionS S (t ++ [v]) = unionS S t ||| 2 ^ v
  | [], _ => rfl
  | _ :: t, _ => unionS_snoc v t _
theorem freshS_snoc {N v : Nat} (hv : v < N) : ∀ (t : List Nat) (S : Nat), freshS N S t → (unionS S t).testBit v = false → freshS N S (t ++ [v])
  | [], _, _, h => ⟨hv, h, trivial⟩
  | _ :: t, _, ⟨h1, h2, h3⟩, h => ⟨h1, h2, freshS_snoc hv t _ h3 h⟩
/-- Some order has the least cost. -/
theorem dpV_order {c : Nat → Nat → Nat} {e : Nat → Nat} {N : Nat} (hN : N ≤ 7) (hc : ∀ S v, c S v ≤ N) (he : ∀ S, e S ≤ N) : ∀ (n S : Nat), S ≤ n → S < 2 ^ N → ∃ t, freshS N 0 t ∧ unionS 0 t = S ∧ costF c e 0 t 0 = dpV c e N S
  | 0, S, h, _ => by
    obtain rfl : S = 0 := by omega
    exact ⟨[], trivial, rfl, rfl⟩
  | n + 1, S, h, hS => by
    by_cases h0 : S = 0
    · subst h0; exact ⟨[], trivial, rfl, rfl⟩
    · have key : ∃ v, S.testBit v = true ∧ minTo N S.testBit (fun v => max (dpV c e N (S - 2 ^ v)) (c (S - 2 ^ v) v)) N = max (dpV c e N (S - 2 ^ v)) (c (S - 2 ^ v) v) := by
        rcases minTo_got (N := N) (p := S.testBit) (f := fun v => max (dpV c e N (S - 2 ^ v)) (c (S - 2 ^ v) v)) N with h1 | ⟨v, -, h2, h3⟩
        · have hb : S.testBit S.log2 = true := Nat.testBit_log2 h0
          have hlt := testBit_lt hS hb
          have h4 := minTo_at (N := N) (p := S.testBit) (f := fun v => max (dpV c e N (S - 2 ^ v)) (c (S - 2 ^ v) v)) hb N hlt
          refine ⟨S.log2, hb, ?_⟩
          have h5 : max (dpV c e N (S - 2 ^ S.log2)) (c (S - 2 ^ S.log2) S.log2) ≤ N := Nat.max_le.2 ⟨dpV_le he _, hc _ _⟩
          omega
        · exact ⟨v, h2, h3⟩
      obtain ⟨v, h1, h2⟩ := key
      have h3 := bit_sub_lt h1
      obtain ⟨t, t1, t2, t3⟩ := dpV_order hN hc he n (S - 2 ^ v) (by omega) (by omega)
      obtain ⟨m1, m2⟩ := minus_or (lt128 hN hS) h1
      refine ⟨t ++ [v], freshS_snoc (testBit_lt hS h1) t 0 t1 (by rw [t2]; exact m2), by rw [unionS_snoc, t2, m1], ?_⟩
      rw [costF_snoc, t2, t3, m1, dpV_step h0, h2]

/-! ### Orders as lists of integers -/
theorem fresh_freshS {N : Nat} : ∀ (t : List Nat) (p : List Int) (S : Nat), (∀ v : Nat, S.testBit v = inB p (v : Int)) → (fresh N p t ↔ freshS N S t)
  | [], _, _, _ => Iff.rfl
  | v :: t, p, S, h => by
    have h2 : ∀ u : Nat, (S ||| 2 ^ v).testBit u = inB (p ++ [(v : Int)]) (u : Int) := fun u => by
      rw [Nat.testBit_or, Nat.testBit_two_pow, h u, Bool.eq_iff_iff, Bool.or_eq_true, decide_eq_true_eq, inB_true, inB_true]
      constructor
      · rintro (⟨j, hj, e⟩ | rfl)
        · exact ⟨j, by simp; omega, by simpa [gi, List.getElem?_append_left hj] using e⟩
        · exact ⟨p.length, by simp, by simp [gi]⟩
      · rintro ⟨j, hj, e⟩
        by_cases hjl : j < p.length
        · exact .inl ⟨j, hjl, by simpa [gi, List.getElem?_append_left hjl] using e⟩
        · obtain rfl : j = p.length := by simp at hj; omega
          right
          simp [gi] at e
          omega
    show (v < N ∧ inB p (v : Int) = false ∧ fresh N (p ++ [(v : Int)]) t) ↔ (v < N ∧ S.testBit v = false ∧ freshS N (S ||| 2 ^ v) t)
    rw [h v, fresh_freshS t _ _ h2]
theorem inB_nil (v : Int) : inB [] v = false := by
  rw [← Bool.not_eq_true, inB_true]
  rintro ⟨j, hj, -⟩
  simp at hj
theorem fresh_start {N : Nat} (t : List Nat) : fresh N [] t ↔ freshS N 0 t := fresh_freshS t [] 0 (fun v => by rw [inB_nil, Nat.zero_testBit])

end Go.Proofs.YtfkehmpckhmkbaaGreat

namespace Go.Proofs.YtfkehmpckhmkbaaGreat
open Go.RowKit

theorem fresh_at {N : Nat} : ∀ (t : List Nat) (S : Nat), freshS N S t → ∀ k, k < t.length → eln t k < N ∧ (unionS S (t.take k)).testBit (eln t k) = false
  | [], _, _, k, hk => absurd hk (by simp)
  | v :: t, S, ⟨h1, h2, h3⟩, 0, _ => ⟨h1, h2⟩
  | v :: t, S, ⟨h1, h2, h3⟩, k + 1, hk => by
    have := fresh_at t (S ||| 2 ^ v) h3 k (by simpa using hk)
    have e : eln (v :: t) (k + 1) = eln t k := by simp [eln]
    rw [e]
    exact this
theorem fresh_lt {N : Nat} : ∀ (t : List Nat) (S : Nat), freshS N S t → S < 2 ^ N → unionS S t < 2 ^ N
  | [], _, _, h => h
  | v :: t, S, ⟨h1, h2, h3⟩, h => fresh_lt t (S ||| 2 ^ v) h3 (Nat.or_lt_two_pow h (Nat.pow_lt_pow_right (by decide) h1))
theorem fresh_take {N : Nat} : ∀ (t : List Nat) (S : Nat), freshS N S t → ∀ k, freshS N S (t.take k)
  | [], S, _, k => by simp [freshS]
  | v :: t, S, _, 0 => by simp [freshS]
  | v :: t, S, ⟨h1, h2, h3⟩, k + 1 => ⟨h1, h2, fresh_take t (S ||| 2 ^ v) h3 k⟩
theorem or_add {S v : Nat} (hS : S < 128) (hv : v < 7) (h : S.testBit v = false) : S ||| 2 ^ v = S + 2 ^ v := by
  obtain ⟨h1, h2⟩ := or_minus hS hv h
  have := Nat.ge_two_pow_of_testBit h2
  omega
/-- How many there are. -/
theorem cnt_or_fin : ∀ S : Fin 128, ∀ v : Fin 7, S.val.testBit v.val = false → cnt (S.val ||| 2 ^ v.val) = cnt S.val + 1 := by decide +kernel
theorem fresh_cnt {N : Nat} (hN : N ≤ 7) : ∀ (t : List Nat) (S : Nat), freshS N S t → S < 2 ^ N → cnt (unionS S t) = cnt S + t.length
  | [], _, _, _ => rfl
  | v :: t, S, ⟨h1, h2, h3⟩, h => by
    have := fresh_cnt hN t (S ||| 2 ^ v) h3 (Nat.or_lt_two_pow h (Nat.pow_lt_pow_right (by decide) h1))
    have h4 := cnt_or_fin ⟨S, lt128 hN h⟩ ⟨v, by omega⟩ h2
    dsimp only at h4
    rw [unionS, this, h4]
    simp; omega
theorem cnt_all_fin : ∀ N : Fin 8, ∀ S : Fin 128, S.val < 2 ^ N.val → cnt S.val = N.val → S.val = 2 ^ N.val - 1 := by decide +kernel
theorem fresh_all {N : Nat} (hN : N ≤ 7) {t : List Nat} (h : freshS N 0 t) (hl : t.length = N) : unionS 0 t = 2 ^ N - 1 := by
  have h1 := fresh_lt t 0 h (Nat.two_pow_pos _)
  have h2 := fresh_cnt hN t 0 h (Nat.two_pow_pos _)
  have h0 : cnt 0 = 0 := by decide
  exact cnt_all_fin ⟨N, by omega⟩ ⟨_, lt128 hN h1⟩ h1 (by dsimp only; omega)
theorem fresh_full {N : Nat} (hN : N ≤ 7) {t : List Nat} (h : freshS N 0 t) (hu : unionS 0 t = 2 ^ N - 1) : t.length = N := by
  have h2 := fresh_cnt hN t 0 h (Nat.two_pow_pos _)
  have h0 : cnt 0 = 0 := by decide
  have h3 : ∀ N : Fin 8, cnt (2 ^ N.val - 1) = N.val := by decide +kernel
  have := h3 ⟨N, by omega⟩
  dsimp only at this
  rw [hu] at h2
  omega
/-- The set of the first k. -/
theorem setTo_fresh {N : Nat} (hN : N ≤ 7) {t : List Nat} (h : freshS N 0 t) : ∀ k, k ≤ t.length → setTo (t.map Int.ofNat) k = unionS 0 (t.take k)
  | 0, _ => by simp [setTo, unionS]
  | k + 1, hk => by
    have ih := setTo_fresh hN h k (by omega)
    obtain ⟨h1, h2⟩ := fresh_at t 0 h k (by omega)
    rw [take_eln (by omega), unionS_snoc, setTo, ih, gi_map t k (by omega), Int.toNat_natCast]
    exact (or_add (lt128 hN (fresh_lt _ _ (fresh_take t 0 h k) (Nat.two_pow_pos _))) (by omega) h2).symm
def pwE (rs : List Int) (S : Nat) : Nat := min (frontN rs S) rs.length
theorem pwE_eq {rs : List Int} (hN : rs.length ≤ 7) {S : Nat} (hS : S < 2 ^ rs.length) : pwE rs S = frontN rs S := by
  have h1 : frontN rs S ≤ cnt S := List.countP_le_length
  have := cnt_leN hS hN
  unfold pwE; omega
theorem cutTo_fresh {rs : List Int} (hN : rs.length ≤ 7) {t : List Nat} (h : freshS rs.length 0 t) : ∀ k, k ≤ t.length → cutTo rs (t.map Int.ofNat) k = costF (fun _ _ => 0) (pwE rs) 0 (t.take k) 0
  | 0, _ => by simp [cutTo, costF]
  | k + 1, hk => by
    have ih := cutTo_fresh hN h k (by omega)
    have hs := setTo_fresh hN h (k + 1) hk
    have hl := fresh_lt _ _ (fresh_take t 0 h (k + 1)) (Nat.two_pow_pos _)
    have hu : unionS 0 (t.take (k + 1)) = unionS 0 (t.take k) ||| 2 ^ eln t k := by rw [take_eln (by omega), unionS_snoc]
    rw [take_eln (by omega), costF_snoc, ← hu, pwE_eq hN hl, ← ih, cutTo, hs]
    rw [← hu] at *
    split <;> omega
/-- The pathwidth, set by set. -/
def pathV (n : Int) (rs : List Int) : Int := if isGraphB n rs = true then dpV (fun _ _ => 0) (pwE rs) rs.length (2 ^ rs.length - 1) else -1
theorem pathV_no {n : Int} {rs : List Int} (h : isGraphB n rs = false) : pathV n rs = -1 := by unfold pathV; rw [if_neg (by rw [h]; decide)]
theorem pathV_of {n : Int} {rs : List Int} (h : isGraphB n rs = true) : pathV n rs = dpV (fun _ _ => 0) (pwE rs) rs.length (2 ^ rs.length - 1) := by unfold pathV; rw [if_pos h]
/-- A list of all vertices. -/
theorem order_fresh {rs : List Int} (hv : isGraphB rs.length rs = true) {t : List Nat} (h : freshS rs.length 0 t) (hl : t.length = rs.length) : orderB rs.length rs (t.map Int.ofNat) = true := by
  have hv2 : vertsB rs.length rs (t.map Int.ofNat) = true := vertsB_true.2 ⟨hv, fun j hj => by
    have hj' : j < t.length := by simpa using hj
    obtain ⟨h1, h2⟩ := fresh_at t 0 h j hj'
    rw [gi_map t j hj']
    refine ⟨by omega, fun i hi => ?_⟩
    rw [gi_map t i (by omega)]
    intro e
    have e2 : eln t i = eln t j := by omega
    -- eln t i is in the union of the first j
    have key : ∀ (t : List Nat) (S : Nat) (i j : Nat), i < j → j ≤ t.length → (unionS S (t.take j)).testBit (eln t i) = true := by
      intro t S i j hij hjl
      induction j with
      | zero => omega
      | succ j ih =>
        rw [take_eln (by omega), unionS_snoc, Nat.testBit_or]
        by_cases e3 : i = j
        · subst e3; rw [Nat.testBit_two_pow]; simp
        · rw [ih (by omega) (by omega)]; rfl
    have h3 := key t 0 i j hi (by omega)
    rw [e2, h2] at h3; cases h3⟩
  rw [orderB_of hv2, beq_iff_eq]
  simp [hl]

/-! ### All orders -/
/-- The first of the least ones. -/
def bestV (num : List Int → Int) (rs : List Int) : BestS := (ext rs.length rs.length []).foldl (bestStep num) (none, -1)
theorem mem_orders {N : Nat} {x : List Int} : x ∈ ext N N [] ↔ ∃ t : List Nat, t.length = N ∧ freshS N 0 t ∧ x = t.map Int.ofNat := by
  rw [mem_ext]
  constructor
  · rintro ⟨t, h1, h2, h3⟩; exact ⟨t, h1, (fresh_start t).1 h2, by simpa using h3⟩
  · rintro ⟨t, h1, h2, h3⟩; exact ⟨t, h1, (fresh_start t).2 h2, by simpa using h3⟩
theorem orders_some {N : Nat} (hN : N ≤ 7) : ext N N [] ≠ [] := by
  obtain ⟨t, h1, h2, -⟩ := dpV_order (c := fun _ _ => 0) (e := fun _ => 0) hN (fun _ _ => Nat.zero_le _) (fun _ => Nat.zero_le _) _ _ (Nat.le_refl _) (all_lt N)
  have hm : (t.map Int.ofNat) ∈ ext N N [] := mem_orders.2 ⟨t, fresh_full hN h1 h2, h1, rfl⟩
  intro e
  rw [e] at hm; cases hm
/-- The best one is there, and its number is the least. -/
theorem bestV_facts {num : List Int → Int} {rs : List Int} (hN : rs.length ≤ 7) (h0 : ∀ x, x ∈ ext rs.length rs.length [] → 0 ≤ num x) :
    ∃ z, z ∈ ext rs.length rs.length [] ∧ bestV num rs = (some z, num z) ∧ (∀ x, x ∈ ext rs.length rs.length [] → num z ≤ num x) ∧ (ext rs.length rs.length []).find? (fun x => decide (num x ≤ num z)) = some z := by
  have hne := orders_some hN
  unfold bestV
  match hx : ext rs.length rs.length [], hne with
  | y :: xs, _ =>
    rw [hx] at h0
    have hy := h0 y (by simp)
    have ht : ∀ x, x ∈ xs → 0 ≤ num x := fun x h => h0 x (by simp [h])
    have e : bestStep num (none, -1) y = (some y, num y) := by unfold bestStep; rw [if_pos (.inl (by decide))]
    rw [List.foldl_cons, e]
    obtain ⟨z, h1, h2, h3⟩ := bestFold xs y ht hy
    have h4 := bestFold_find xs y ht hy
    rw [h2] at h4
    exact ⟨z, h1, h2, h3, h4⟩
theorem cut_order {rs : List Int} (hv : isGraphB rs.length rs = true) {t : List Nat} (h : freshS rs.length 0 t) (hl : t.length = rs.length) : cutV rs.length rs (t.map Int.ofNat) = (costF (fun _ _ => 0) (pwE rs) 0 t 0 : Int) := by
  have hN := (VG.of hv).2.le
  rw [cutV_of (order_fresh hv h hl), cutTo_fresh hN h _ (by simp)]
  simp
theorem path_best {rs : List Int} (hv : isGraphB rs.length rs = true) : (bestV (cutV rs.length rs) rs).2 = pathV rs.length rs := by
  have hN := (VG.of hv).2.le
  have h0 : ∀ x, x ∈ ext rs.length rs.length [] → 0 ≤ cutV rs.length rs x := fun x hx => by
    obtain ⟨t, h1, h2, rfl⟩ := mem_orders.1 hx
    rw [cut_order hv h2 h1]; omega
  obtain ⟨z, h1, h2, h3, -⟩ := bestV_facts hN h0
  rw [h2, pathV_of hv]
  obtain ⟨tz, a1, a2, rfl⟩ := mem_orders.1 h1
  have hlow := dpV_cost (c := fun _ _ => 0) (e := pwE rs) hN tz 0 0 (Nat.two_pow_pos _) a2 (Nat.le_of_eq (dpV_zero _ _ _))
  rw [fresh_all hN a2 a1] at hlow
  obtain ⟨t, b1, b2, b3⟩ := dpV_order (c := fun _ _ => 0) (e := pwE rs) (N := rs.length) hN (fun _ _ => Nat.zero_le _) (fun S => Nat.min_le_right _ _) _ _ (Nat.le_refl _) (all_lt rs.length)
  have hl := fresh_full hN b1 b2
  have hup := h3 _ (mem_orders.2 ⟨t, hl, b1, rfl⟩)
  rw [cut_order hv b1 hl, b3] at hup
  show cutV rs.length rs (tz.map Int.ofNat) = _
  rw [cut_order hv a2 a1] at hup ⊢
  omega

end Go.Proofs.YtfkehmpckhmkbaaGreat

namespace Go.Proofs.YtfkehmpckhmkbaaGreat
open Go.RowKit

theorem order_cnt {n : Int} {rs l : List Int} (h : vertsB n rs l = true) (h7 : rs.length ≤ 7) : ∀ k, k ≤ l.length → cnt (setTo l k) = k
  | 0, _ => by show cnt 0 = 0; decide
  | k + 1, hk => by
    obtain ⟨v, -, hv, e1, e2⟩ := vert_new h (k := k) (by omega)
    have hlt := setTo_lt h k (by omega)
    have h128 : setTo l k < 128 := Nat.lt_of_lt_of_le hlt (Nat.pow_le_pow_right (n := 2) (by decide) h7)
    have hb : (setTo l k).testBit v = false := by
      cases hb : (setTo l k).testBit v
      · rfl
      · have he : setTo l k ||| 2 ^ v = setTo l k := by
          apply Nat.eq_of_testBit_eq; intro i
          rw [Nat.testBit_or, Nat.testBit_two_pow]
          by_cases e : v = i
          · subst e; rw [hb]; simp
          · rw [decide_eq_false e, Bool.or_false]
        have := Nat.two_pow_pos v
        omega
    rw [e2, cnt_or_fin ⟨_, h128⟩ ⟨v, by omega⟩ hb, order_cnt h h7 k (by omega)]
theorem order_place {n : Int} {rs l : List Int} (h : orderB n rs l = true) {v : Nat} (hv : v < rs.length) : ∃ k, k < l.length ∧ gi l k = v := by
  obtain ⟨hvb, -, g, hlen⟩ := orderB_true h
  have hlt := setTo_lt hvb l.length (Nat.le_refl _)
  have h128 : setTo l l.length < 128 := Nat.lt_of_lt_of_le hlt (Nat.pow_le_pow_right (n := 2) (by decide) g.le)
  have hc := order_cnt hvb g.le l.length (Nat.le_refl _)
  have hS := cnt_all_fin ⟨rs.length, by have := g.le; omega⟩ ⟨_, h128⟩ hlt (hc.trans hlen)
  have hb : (setTo l l.length).testBit v = true := by
    have hS' : setTo l l.length = 2 ^ rs.length - 1 := hS
    rw [hS', Nat.testBit_two_pow_sub_one]
    exact decide_eq_true hv
  have hs := hvb
  unfold vertsB at hs
  simp only [Bool.and_eq_true] at hs
  obtain ⟨-, hs, -⟩ := hs
  have hd : ∀ j, j < l.length → diffAt l j = true := by unfold setOk at hs; simpa using hs
  obtain ⟨j, hj, e⟩ := ((setTo_bits hd).2 v).1 hb
  obtain ⟨u, hu, -⟩ := vert_at hvb hj
  exact ⟨j, hj, by rw [hu] at e ⊢; simp at e; rw [e]⟩
theorem order_inj {n : Int} {rs l : List Int} (h : vertsB n rs l = true) {i j : Nat} (hi : i < l.length) (hj : j < l.length) (e : gi l i = gi l j) : i = j := by
  rcases Nat.lt_trichotomy i j with h1 | h1 | h1
  · exact absurd e (((vertsB_true.1 h).2 j hj).2 i h1)
  · exact h1
  · exact absurd e.symm (((vertsB_true.1 h).2 i hi).2 j h1)
/-- The place of v in an order. -/
theorem idx_at {n : Int} {rs l : List Int} (h : vertsB n rs l = true) {i : Nat} (hi : i < l.length) : idxV (idxN l (gi l i)) = i := by
  refine (idxV_hit hi (fun j hj => ?_) (by simp)).symm
  rw [beq_eq_false_iff_ne]
  intro e
  exact absurd (order_inj h (by omega) hi e.symm) (by omega)

/-! ### The edges -/
theorem mem_edgesIn {rs : List Int} {i : Nat} {e : Nat × Nat} : ∀ {c}, e ∈ edgesIn rs i c ↔ e.1 = i ∧ i < e.2 ∧ e.2 < i + 1 + c ∧ (gn rs i).testBit e.2 = true
  | 0 => by simp [edgesIn]; omega
  | c + 1 => by
    unfold edgesIn
    rw [List.mem_append, mem_edgesIn]
    constructor
    · rintro (⟨h1, h2, h3, h4⟩ | h)
      · exact ⟨h1, h2, by omega, h4⟩
      · split at h
        · rename_i hb
          simp only [List.mem_singleton] at h
          subst h
          exact ⟨rfl, by show i < i + 1 + c; omega, by show i + 1 + c < _; omega, hb⟩
        · simp at h
    · rintro ⟨h1, h2, h3, h4⟩
      by_cases e2 : e.2 = i + 1 + c
      · right
        rw [e2] at h4
        rw [if_pos h4, List.mem_singleton]
        exact Prod.ext h1 e2
      · exact .inl ⟨h1, h2, by omega, h4⟩
theorem mem_edgesTo {rs : List Int} {e : Nat × Nat} : ∀ {n}, e ∈ edgesTo rs n ↔ e.1 < n ∧ e.1 < e.2 ∧ e.2 < max rs.length (e.1 + 1) ∧ (gn rs e.1).testBit e.2 = true
  | 0 => by simp [edgesTo]
  | n + 1 => by
    unfold edgesTo
    rw [List.mem_append, mem_edgesTo, mem_edgesIn]
    constructor
    · rintro (⟨h1, h2, h3, h4⟩ | ⟨h1, h2, h3, h4⟩)
      · exact ⟨by omega, h2, h3, h4⟩
      · subst h1
        exact ⟨by omega, h2, by omega, h4⟩
    · rintro ⟨h1, h2, h3, h4⟩
      by_cases e1 : e.1 = n
      · subst e1
        exact .inr ⟨rfl, h2, by omega, h4⟩
      · exact .inl ⟨by omega, h2, h3, h4⟩

/-- The distance of an edge's ends in the list. -/
def gapE (l : List Int) (e : Nat × Nat) : Int := max (idxV (idxN l (e.1 : Int)) - idxV (idxN l (e.2 : Int))) (idxV (idxN l (e.2 : Int)) - idxV (idxN l (e.1 : Int)))
def bandE (l : List Int) (es : List (Nat × Nat)) : Int := es.foldl (fun b e => max b (gapE l e)) 0
theorem foldl_le {l : List Int} {M : Int} : ∀ (es : List (Nat × Nat)) (b : Int), es.foldl (fun b e => max b (gapE l e)) b ≤ M ↔ b ≤ M ∧ ∀ e, e ∈ es → gapE l e ≤ M
  | [], b => by simp
  | e :: es, b => by
    show es.foldl (fun b e => max b (gapE l e)) (max b (gapE l e)) ≤ M ↔ _
    rw [foldl_le es]
    constructor
    · rintro ⟨h1, h2⟩
      refine ⟨by omega, fun x hx => ?_⟩
      rcases List.mem_cons.1 hx with rfl | hx
      · omega
      · exact h2 x hx
    · rintro ⟨h1, h2⟩
      exact ⟨by have := h2 e (by simp); omega, fun x hx => h2 x (by simp [hx])⟩
theorem bandE_le {l : List Int} {M : Int} {es : List (Nat × Nat)} : bandE l es ≤ M ↔ 0 ≤ M ∧ ∀ e, e ∈ es → gapE l e ≤ M := foldl_le es 0
theorem bandE_snoc (l : List Int) (es : List (Nat × Nat)) (e : Nat × Nat) : bandE l (es ++ [e]) = max (bandE l es) (gapE l e) := by unfold bandE; rw [List.foldl_append]; rfl

theorem band_edges {n : Int} {rs l : List Int} (h : orderB n rs l = true) : bandE l (edgesTo rs rs.length) = bandTo rs l l.length := by
  obtain ⟨hvb, -, g, hlen⟩ := orderB_true h
  have key : ∀ M : Nat, bandE l (edgesTo rs rs.length) ≤ M ↔ bandTo rs l l.length ≤ M := by
    intro M
    rw [bandE_le, bandTo_le]
    constructor
    · rintro ⟨-, H⟩ i hi j hj hn
      obtain ⟨u, hu, hul⟩ := vert_at hvb hi
      obtain ⟨v, hv, hvl⟩ := vert_at hvb (j := j) (by omega)
      have pu := idx_at hvb hi
      have pv := idx_at hvb (i := j) (by omega)
      have hb : (gn rs u).testBit v = true := by
        unfold nearB at hn
        rw [hu, hv] at hn
        simpa using hn
      rw [hu] at pu
      rw [hv] at pv
      rcases Nat.lt_trichotomy u v with h1 | h1 | h1
      · have := H (u, v) (mem_edgesTo.2 ⟨hul, h1, by show v < _; omega, hb⟩)
        unfold gapE at this
        simp only [pu, pv] at this
        omega
      · subst h1
        exact absurd (order_inj hvb hi (by omega) (hu.trans hv.symm)) (by omega)
      · have := H (v, u) (mem_edgesTo.2 ⟨hvl, h1, by show u < _; omega, by show (gn rs v).testBit u = true; rw [g.sym v hvl u hul]; exact hb⟩)
        unfold gapE at this
        simp only [pu, pv] at this
        omega
    · intro H
      refine ⟨by omega, fun e he => ?_⟩
      obtain ⟨h1, h2, h3, h4⟩ := mem_edgesTo.1 he
      have hb : e.2 < rs.length := by omega
      obtain ⟨i, hi, ei⟩ := order_place h h1
      obtain ⟨j, hj, ej⟩ := order_place h hb
      have pi := idx_at hvb hi
      have pj := idx_at hvb hj
      rw [ei] at pi
      rw [ej] at pj
      unfold gapE
      rw [pi, pj]
      rcases Nat.lt_trichotomy i j with q | q | q
      · have := H j hj i q (by unfold nearB; rw [ei, ej]; simp only [Int.toNat_natCast]; rw [g.sym e.2 hb e.1 h1]; exact h4)
        omega
      · subst q; omega
      · have := H i hi j q (by unfold nearB; rw [ei, ej]; simp only [Int.toNat_natCast]; exact h4)
        omega
  have h0 : 0 ≤ bandE l (edgesTo rs rs.length) := by
    have := (bandE_le (l := l) (es := edgesTo rs rs.length)).1 (Int.le_refl _)
    exact this.1
  have h1 := (key (bandE l (edgesTo rs rs.length)).toNat).1 (by omega)
  have h2 := (key (bandTo rs l l.length)).2 (Nat.le_refl _)
  omega

end Go.Proofs.YtfkehmpckhmkbaaGreat

namespace Go.Proofs.YtfkehmpckhmkbaaGreat
open Go.RowKit

/-- What stands from place i on. -/
def behindN (rs l : List Int) (i : Nat) : Nat := nDiff (2 ^ rs.length - 1) (setTo l i)
def laterN (rs l : List Int) (i : Nat) : Nat := gn rs (gi l i).toNat &&& behindN rs l i
theorem behind_lt (rs l : List Int) (i : Nat) : behindN rs l i < 2 ^ rs.length := nDiff_lt (by have := Nat.two_pow_pos rs.length; omega)
theorem later_lt (rs l : List Int) (i : Nat) : laterN rs l i < 2 ^ rs.length := Nat.lt_of_le_of_lt Nat.and_le_right (behind_lt rs l i)
theorem setTo_sub {n : Int} {rs l : List Int} (h : vertsB n rs l = true) {k : Nat} (hk : k ≤ l.length) : subN (setTo l k) (2 ^ rs.length - 1) := fun i hi => by
  rw [Nat.testBit_two_pow_sub_one]
  exact decide_eq_true (testBit_lt (setTo_lt h k hk) hi)
theorem behind_minus {n : Int} {rs l : List Int} (h : vertsB n rs l = true) (h7 : rs.length ≤ 7) {k : Nat} (hk : k ≤ l.length) : behindN rs l k = 2 ^ rs.length - 1 - setTo l k :=
  nDiff_minus (by have := Nat.pow_le_pow_right (n := 2) (by decide) h7; have := Nat.two_pow_pos rs.length; omega) (setTo_sub h hk)
theorem setTo_bit {n : Int} {rs l : List Int} (h : vertsB n rs l = true) {k v : Nat} (hk : k ≤ l.length) : (setTo l k).testBit v = true ↔ ∃ j, j < k ∧ gi l j = (v : Int) := by
  have hs := h
  unfold vertsB at hs
  simp only [Bool.and_eq_true] at hs
  have hd : ∀ j, j < l.length → diffAt l j = true := by have := hs.2.1; unfold setOk at this; simpa using this
  rw [(setTo_bits (k := k) (fun j hj => hd j (by omega))).2 v]
  constructor
  · rintro ⟨j, hj, e⟩
    obtain ⟨u, hu, -⟩ := vert_at h (j := j) (by omega)
    exact ⟨j, hj, by rw [hu] at e ⊢; simp at e; rw [e]⟩
  · rintro ⟨j, hj, e⟩
    exact ⟨j, hj, by rw [e]; simp⟩


theorem IntsAt.drop {w : World} {b off : Nat} {xs : List Int} (h : IntsAt w (some ⟨b, off, none⟩) xs) (i : Nat) : IntsAt w (some ⟨b, off + i, none⟩) (xs.drop i) := fun h0 => by
  rw [List.length_drop] at h0
  obtain ⟨b2, off2, e, h1, h2⟩ := h (by omega)
  simp only [Option.some.injEq, Addr.mk.injEq] at e
  obtain ⟨rfl, rfl, -⟩ := e
  refine ⟨b, off + i, rfl, h1, fun k hk => ?_⟩
  rw [List.length_drop] at hk
  have := h2 (i + k) (by omega)
  rw [Nat.add_assoc, this]
  simp [gi, show k < xs.length - i by omega, show i + k < xs.length by omega]


theorem gi_drop {l : List Int} {i j : Nat} (h : i + j < l.length) : gi (l.drop i) j = gi l (i + j) := by
  simp [gi, h, show j < l.length - i by omega]
theorem behind_bit {n : Int} {rs l : List Int} (h : vertsB n rs l = true) {i v : Nat} (hi : i ≤ l.length) : (behindN rs l i).testBit v = true ↔ v < rs.length ∧ ¬∃ j, j < i ∧ gi l j = (v : Int) := by
  unfold behindN
  rw [nDiff_bit, Nat.testBit_two_pow_sub_one, decide_eq_true_eq, ← setTo_bit h hi, Bool.eq_false_iff]
theorem drop_set {rs l : List Int} (h : orderB rs.length rs l = true) {i : Nat} (hi : i < l.length) : setOk (l.drop i) = true ∧ setV (l.drop i) = (behindN rs l i : Int) := by
  obtain ⟨hv, -, g, hlen⟩ := orderB_true h
  have hvd : vertsB rs.length rs (l.drop i) = true := by
    obtain ⟨h1, h2⟩ := vertsB_true.1 hv
    refine vertsB_true.2 ⟨h1, fun j hj => ?_⟩
    rw [List.length_drop] at hj
    rw [gi_drop (by omega)]
    refine ⟨(h2 (i + j) (by omega)).1, fun k hk => ?_⟩
    rw [gi_drop (by omega)]
    exact (h2 (i + j) (by omega)).2 (i + k) (by omega)
  have hs : setOk (l.drop i) = true := by
    unfold vertsB at hvd
    simp only [Bool.and_eq_true] at hvd
    exact hvd.2.1
  refine ⟨hs, ?_⟩
  rw [setV_all hs]
  congr 1
  apply Nat.eq_of_testBit_eq
  intro v
  rw [Bool.eq_iff_iff, setTo_bit hvd (Nat.le_refl _), behind_bit hv (by omega), List.length_drop]
  constructor
  · rintro ⟨j, hj, e⟩
    rw [gi_drop (by omega)] at e
    obtain ⟨u, hu, hul⟩ := vert_at hv (j := i + j) (by omega)
    refine ⟨by omega, ?_⟩
    rintro ⟨k, hk, e2⟩
    have := order_inj hv (i := k) (j := i + j) (by omega) (by omega) (by rw [e, e2])
    omega
  · rintro ⟨hvl, hno⟩
    obtain ⟨k, hk, e⟩ := order_place h hvl
    have : i ≤ k := by
      rcases Nat.lt_or_ge k i with hki | hki
      · exact absurd ⟨k, hki, e⟩ hno
      · exact hki
    exact ⟨k - i, by omega, by rw [gi_drop (by omega), show i + (k - i) = k by omega]; exact e⟩


end Go.Proofs.YtfkehmpckhmkbaaGreat
