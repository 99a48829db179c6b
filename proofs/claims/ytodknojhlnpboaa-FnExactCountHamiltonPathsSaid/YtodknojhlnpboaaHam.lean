/-
  CountHamiltonPaths on both sides. For at most 2^20 rows.
-/
import Derived.Test.YtodknojhlnpboaaFirstList
import Derived.Test.YtodknojhlnpboaaWidth
import Derived.Test.YtodknojhlnpboaaWay
namespace Go.Proofs.Ytodknojhlnpboaa
open Go.RowKit

/-! ### Counting -/
/-- A sum over the numbers below n of what is asked for. -/
def sumIf (p : Nat → Bool) (c : Nat → Nat) (n : Nat) : Nat := ((List.range n).map fun v => if p v = true then c v else 0).sum
theorem sumIf_zero (p : Nat → Bool) (c : Nat → Nat) : sumIf p c 0 = 0 := rfl
theorem sumIf_no {p : Nat → Bool} {c : Nat → Nat} {j : Nat} (h : p j = false) : sumIf p c (j + 1) = sumIf p c j := by
  unfold sumIf; rw [List.range_succ, List.map_append, List.sum_append]; simp [h]
theorem sumIf_yes {p : Nat → Bool} {c : Nat → Nat} {j : Nat} (h : p j = true) : sumIf p c (j + 1) = sumIf p c j + c j := by
  unfold sumIf; rw [List.range_succ, List.map_append, List.sum_append]; simp [h]
theorem sumIf_le {p : Nat → Bool} {c : Nat → Nat} {B : Nat} : ∀ n, (∀ v, v < n → c v ≤ B) → sumIf p c n ≤ n * B
  | 0, _ => by simp [sumIf]
  | n + 1, h => by
    have ih := sumIf_le (p := p) n fun v hv => h v (by omega)
    rw [Nat.succ_mul]
    cases hp : p n
    · rw [sumIf_no hp]; exact Nat.le_trans ih (Nat.le_add_right _ _)
    · rw [sumIf_yes hp]; exact Nat.add_le_add ih (h n (by omega))
theorem sumIf_congr {p p' : Nat → Bool} {c c' : Nat → Nat} : ∀ n, (∀ v, v < n → p v = p' v ∧ (p v = true → c v = c' v)) → sumIf p c n = sumIf p' c' n
  | 0, _ => rfl
  | n + 1, h => by
    have ih := sumIf_congr n fun v hv => h v (by omega)
    obtain ⟨h1, h2⟩ := h n (by omega)
    cases hp : p n
    · rw [sumIf_no hp, sumIf_no (by rw [← h1]; exact hp), ih]
    · rw [sumIf_yes hp, sumIf_yes (by rw [← h1]; exact hp), ih, h2 hp]

/-- How many lists a search comes to. -/
def hamC (may : List Int → Bool) (N : Nat) : Nat → List Int → Nat
  | 0, _ => 1
  | f + 1, l => sumIf (fun v => !inB l (v : Int) && may (l ++ [(v : Int)])) (fun v => hamC may N f (l ++ [(v : Int)])) N
def tickS (s : Int) (_ : List Int) : Int × Bool := (wrap64 (s + 1), false)
theorem hamC_le (may : List Int → Bool) {N : Nat} (hN : N ≤ 7) : ∀ f l, hamC may N f l ≤ 7 ^ f
  | 0, _ => Nat.le_refl _
  | f + 1, l => by
    have h := sumIf_le (p := fun v => !inB l (v : Int) && may (l ++ [(v : Int)])) (c := fun v => hamC may N f (l ++ [(v : Int)])) (B := 7 ^ f) N fun v _ => hamC_le may hN f _
    rw [Nat.pow_succ, Nat.mul_comm]
    exact Nat.le_trans h (Nat.mul_le_mul_right _ hN)
theorem hamRun (may : List Int → Bool) (N : Nat) : ∀ f l (s : Int), 0 ≤ s → s + hamC may N f l ≤ 9223372036854775807 → flRun tickS may N f s l = (s + hamC may N f l, none)
  | 0, l, s, h0, h1 => by
    have e : hamC may N 0 l = 1 := rfl
    rw [e] at h1 ⊢
    show (wrap64 (s + 1), if false = true then some l else none) = _
    rw [IntWalk.wrap64_in _ ⟨by omega, by omega⟩]; rfl
  | f + 1, l, s, h0, h1 => by
    have h : ∀ j, j ≤ N → s + sumIf (fun v => !inB l (v : Int) && may (l ++ [(v : Int)])) (fun v => hamC may N f (l ++ [(v : Int)])) j ≤ 9223372036854775807 →
        preF (flStep (flRun tickS may N f) may l) (s, none) j = ((s + sumIf (fun v => !inB l (v : Int) && may (l ++ [(v : Int)])) (fun v => hamC may N f (l ++ [(v : Int)])) j, none), true) := by
      intro j
      induction j with
      | zero => intro _ _; simp [preF, sumIf]
      | succ j ih =>
        intro hj hle
        cases hp : (!inB l (j : Int) && may (l ++ [(j : Int)]))
        · rw [sumIf_no hp] at hle ⊢
          rw [preF_go (ih (by omega) hle), flStep_skip]
          simp only [Bool.and_eq_false_iff, Bool.not_eq_false'] at hp; exact hp
        · rw [sumIf_yes hp] at hle ⊢
          simp only [Bool.and_eq_true, Bool.not_eq_true'] at hp
          have e := hamRun may N f (l ++ [(j : Int)]) (s + sumIf (fun v => !inB l (v : Int) && may (l ++ [(v : Int)])) (fun v => hamC may N f (l ++ [(v : Int)])) j) (by omega) (by omega)
          rw [preF_go (ih (by omega) (by omega)), flStep_go hp.1 hp.2 e]
          simp [Int.add_assoc]
    show (preF _ (s, none) N).1 = _
    rw [h N (Nat.le_refl _) h1]
    rfl

/-! ### Sets of vertices by their counts -/
theorem cnt_full : ∀ N : Fin 8, ∀ S : Fin 128, S.val < 2 ^ N.val → (cnt S.val = N.val ↔ S.val = 2 ^ N.val - 1) := by decide +kernel
theorem cnt_more : ∀ v : Fin 7, ∀ S : Fin 128, S.val.testBit v.val = false → cnt (S.val ||| 2 ^ v.val) = cnt S.val + 1 ∧ S.val ||| 2 ^ v.val = S.val + 2 ^ v.val := by decide +kernel
/-- Ways to go on from a vertex over the vertices that are not used. -/
def goC (rs : List Int) : Nat → Nat → Nat → Nat
  | 0, _, _ => 1
  | f + 1, a, S => sumIf (fun v => !S.testBit v && (gn rs a).testBit v) (fun v => goC rs f v (S ||| 2 ^ v)) rs.length
theorem goC_le (rs : List Int) (hN : rs.length ≤ 7) : ∀ f a S, goC rs f a S ≤ 7 ^ f
  | 0, _, _ => Nat.le_refl _
  | f + 1, a, S => by
    have h := sumIf_le (p := fun v => !S.testBit v && (gn rs a).testBit v) (c := fun v => goC rs f v (S ||| 2 ^ v)) (B := 7 ^ f) rs.length fun v _ => goC_le rs hN f _ _
    rw [Nat.pow_succ, Nat.mul_comm]
    exact Nat.le_trans h (Nat.mul_le_mul_right _ hN)

/-! ### Both are the same -/
theorem vertsB_snoc {n : Int} {rs l : List Int} {v : Nat} (h : vertsB n rs l = true) : vertsB n rs (l ++ [(v : Int)]) = (decide (v < rs.length) && !inB l (v : Int)) := by
  rw [Bool.eq_iff_iff, Bool.and_eq_true, decide_eq_true_eq, Bool.not_eq_true', ← Bool.not_eq_true, inB_true]
  rw [vertsB_true] at h ⊢
  have hg : ∀ k, k < l.length → gi (l ++ [(v : Int)]) k = gi l k := fun k hk => by
    have h2 : k < (l ++ [(v : Int)]).length := by simp; omega
    simp [gi, List.getElem?_append_left hk]
  have hv : gi (l ++ [(v : Int)]) l.length = v := by simp [gi]
  constructor
  · rintro ⟨-, h2⟩
    obtain ⟨h3, h4⟩ := h2 l.length (by simp)
    rw [hv] at h3 h4
    refine ⟨by omega, ?_⟩
    rintro ⟨j, hj, e⟩
    exact h4 j hj (by rw [hg j hj]; exact e)
  · rintro ⟨h2, h3⟩
    refine ⟨h.1, fun j hj => ?_⟩
    by_cases e : j < l.length
    · obtain ⟨h4, h5⟩ := h.2 j e
      rw [hg j e]
      exact ⟨h4, fun i hi => by rw [hg i (by omega)]; exact h5 i hi⟩
    · obtain rfl : j = l.length := by simp at hj; omega
      rw [hv]
      exact ⟨by omega, fun i hi => by rw [hg i hi]; exact fun e2 => h3 ⟨i, hi, e2⟩⟩
theorem wayB_true {n : Int} {rs l : List Int} : wayB n rs l = true ↔ vertsB n rs l = true ∧ 1 ≤ l.length ∧ ∀ j, j < l.length → 1 ≤ j → edgeAt rs l j = true := by
  unfold wayB; rw [Bool.and_eq_true, decide_eq_true_eq]
theorem wayB_snoc {n : Int} {rs l : List Int} {v : Nat} (h : wayB n rs l = true) : wayB n rs (l ++ [(v : Int)]) = (decide (v < rs.length) && (!inB l (v : Int) && (gn rs (gi l (l.length - 1)).toNat).testBit v)) := by
  rw [wayB_true] at h
  obtain ⟨h1, h2, h3⟩ := h
  have hg : ∀ k, k < l.length → gi (l ++ [(v : Int)]) k = gi l k := fun k hk => by
    have h2 : k < (l ++ [(v : Int)]).length := by simp; omega
    simp [gi, List.getElem?_append_left hk]
  have hv : gi (l ++ [(v : Int)]) l.length = v := by simp [gi]
  have he : edgeAt rs (l ++ [(v : Int)]) l.length = (gn rs (gi l (l.length - 1)).toNat).testBit v := by
    unfold edgeAt; rw [hg _ (by omega), hv]; rfl
  rw [Bool.eq_iff_iff, ← Bool.and_assoc, ← vertsB_snoc h1, wayB_true, Bool.and_eq_true]
  constructor
  · rintro ⟨h4, -, h5⟩
    exact ⟨h4, by rw [← he]; exact h5 _ (by simp) h2⟩
  · rintro ⟨h4, h5⟩
    refine ⟨h4, by simp, fun j hj hj1 => ?_⟩
    by_cases e : j < l.length
    · have := h3 j e hj1
      unfold edgeAt at this ⊢
      rw [hg j e, hg _ (by omega)]; exact this
    · obtain rfl : j = l.length := by simp at hj; omega
      rw [he]; exact h5
theorem setTo_snoc (l : List Int) (v : Nat) : setTo (l ++ [(v : Int)]) (l ++ [(v : Int)]).length = setTo l l.length + 2 ^ v := by
  have hg : ∀ k, k ≤ l.length → setTo (l ++ [(v : Int)]) k = setTo l k := by
    intro k
    induction k with
    | zero => intro _; rfl
    | succ k ih =>
      intro hk
      have h2 : k < (l ++ [(v : Int)]).length := by simp; omega
      have : gi (l ++ [(v : Int)]) k = gi l k := by simp [gi, List.getElem?_append_left (show k < l.length by omega)]
      rw [setTo, setTo, ih (by omega), this]
  have hv : gi (l ++ [(v : Int)]) l.length = v := by simp [gi]
  rw [show (l ++ [(v : Int)]).length = l.length + 1 by simp, setTo, hg _ (Nat.le_refl _), hv]
  rfl
theorem inB_bit {n : Int} {rs l : List Int} {v : Nat} (h : vertsB n rs l = true) : inB l (v : Int) = (setTo l l.length).testBit v := by
  have hs : ∀ j, j < l.length → diffAt l j = true := by
    have h' := h
    unfold vertsB at h'
    simp only [Bool.and_eq_true] at h'
    have := h'.2.1
    unfold setOk at this
    simpa using this
  rw [Bool.eq_iff_iff, inB_true, (setTo_bits hs).2]
  rw [vertsB_true] at h
  constructor
  · rintro ⟨j, hj, e⟩; exact ⟨j, hj, by rw [e]; rfl⟩
  · rintro ⟨j, hj, e⟩; exact ⟨j, hj, by have := (h.2 j hj).1; omega⟩
theorem ham_same (rs : List Int) (g : VG rs) : ∀ f l, wayB rs.length rs l = true → l.length + f = rs.length → hamC (fun l => wayB rs.length rs l) rs.length f l = goC rs f (gi l (l.length - 1)).toNat (setTo l l.length)
  | 0, l, _, _ => rfl
  | f + 1, l, hw, hl => by
    have hV := (wayB_true.1 hw).1
    show sumIf _ _ _ = sumIf _ _ _
    refine sumIf_congr _ fun v hv => ?_
    have e1 : (!inB l (v : Int) && wayB rs.length rs (l ++ [(v : Int)])) = (!(setTo l l.length).testBit v && (gn rs (gi l (l.length - 1)).toNat).testBit v) := by
      rw [wayB_snoc hw, decide_eq_true hv, inB_bit hV]
      cases (setTo l l.length).testBit v <;> simp
    refine ⟨e1, fun h => ?_⟩
    rw [Bool.and_eq_true, Bool.not_eq_true'] at h
    have hN := g.le
    have hlt := setTo_lt hV l.length (Nat.le_refl _)
    have h128 : setTo l l.length < 128 := Nat.lt_of_lt_of_le hlt (by have := Nat.pow_le_pow_right (n := 2) (by decide) hN; omega)
    have hb := h.1
    rw [inB_bit hV] at hb
    have ec := (cnt_more ⟨v, by omega⟩ ⟨setTo l l.length, h128⟩ hb).2
    rw [ham_same rs g f _ h.2 (by simp; omega), setTo_snoc, show (l ++ [(v : Int)]).length - 1 = l.length by simp]
    rw [show gi (l ++ [(v : Int)]) l.length = v by simp [gi], Int.toNat_natCast]
    rw [ec]

/-- What CountHamiltonPaths says. -/
def hamV (n : Int) (rs : List Int) : Int := if isGraphB n rs = true then sumIf (fun _ => true) (fun v => goC rs (rs.length - 1) v (2 ^ v)) rs.length else 0
theorem hamV_no {n : Int} {rs : List Int} (h : isGraphB n rs = false) : hamV n rs = 0 := by unfold hamV; rw [h]; rfl
theorem hamV_of {n : Int} {rs : List Int} (h : isGraphB n rs = true) : hamV n rs = sumIf (fun _ => true) (fun v => goC rs (rs.length - 1) v (2 ^ v)) rs.length := by unfold hamV; rw [if_pos h]
theorem hamV_impl {rs : List Int} (h : isGraphB rs.length rs = true) : hamV rs.length rs = hamC (fun l => wayB rs.length rs l) rs.length rs.length [] := by
  have g := (VG.of h).2
  have hp := g.pos
  rw [hamV_of h]
  obtain ⟨f, hf⟩ : ∃ f, rs.length = f + 1 := ⟨rs.length - 1, by omega⟩
  have e : hamC (fun l => wayB rs.length rs l) rs.length (f + 1) [] = sumIf (fun v => !inB [] (v : Int) && wayB rs.length rs ([] ++ [(v : Int)])) (fun v => hamC (fun l => wayB rs.length rs l) rs.length f ([] ++ [(v : Int)])) rs.length := rfl
  have e2 : hamC (fun l => wayB rs.length rs l) rs.length rs.length [] = hamC (fun l => wayB rs.length rs l) rs.length (f + 1) [] := congrArg (fun k => hamC (fun l => wayB rs.length rs l) rs.length k []) hf
  rw [e2, e]
  congr 1
  refine sumIf_congr _ fun v hv => ?_
  have hV0 : vertsB rs.length rs [] = true := vertsB_true.2 ⟨h, fun j hj => absurd hj (by simp)⟩
  have h1 : inB [] (v : Int) = false := by rw [← Bool.not_eq_true, inB_true]; rintro ⟨j, hj, _⟩; simp at hj
  have h2 : wayB rs.length rs ([] ++ [(v : Int)]) = true := by
    rw [wayB_true]
    refine ⟨by rw [vertsB_snoc hV0, h1, decide_eq_true hv]; rfl, by simp, fun j hj hj1 => by simp at hj; omega⟩
  refine ⟨by rw [h1, h2]; rfl, fun _ => ?_⟩
  rw [ham_same rs g f _ h2 (by simp; omega)]
  have hs := setTo_snoc [] v
  rw [hs]
  show goC rs (rs.length - 1) v (2 ^ v) = goC rs f (gi [(v : Int)] 0).toNat (setTo [] 0 + 2 ^ v)
  rw [show gi [(v : Int)] 0 = v from rfl, Int.toNat_natCast, show setTo [] 0 = 0 from rfl, Nat.zero_add, show rs.length - 1 = f by omega]

end Go.Proofs.Ytodknojhlnpboaa
