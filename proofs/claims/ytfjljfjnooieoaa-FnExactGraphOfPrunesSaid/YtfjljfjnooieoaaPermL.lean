/-
  Lists that hold each number below their length once: the two ways to tell. Then impl.sorted, isShuffle, IsPermutation of both sides. For at most 2^20 elements.
-/
import Derived.Test.YtfjljfjnooieoaaSortLaid
import Derived.Test.YtfjljfjnooieoaaLater
import Derived.Lib.SmallJoins
namespace Go.Proofs.Ytfjljfjnooieoaa
open Go.RowKit

/-- The list in rising order. -/
def sortI (l : List Int) : List Int := l.mergeSort fun x y => decide (x ≤ y)
theorem sortI_len (l : List Int) : (sortI l).length = l.length := List.length_mergeSort l
def idL (n : Nat) : List Int := (List.range n).map fun i : Nat => (i : Int)
theorem idL_mem {n : Nat} {x : Int} : x ∈ idL n ↔ 0 ≤ x ∧ x < n := by
  unfold idL
  simp only [List.mem_map, List.mem_range]
  constructor
  · rintro ⟨a, h, rfl⟩; omega
  · rintro ⟨h1, h2⟩; exact ⟨x.toNat, by omega, by omega⟩
theorem idL_pw (n : Nat) : (idL n).Pairwise (· < ·) := by
  unfold idL
  rw [List.pairwise_map]
  exact List.pairwise_lt_range.imp fun h => by omega
theorem idL_nodup (n : Nat) : (idL n).Nodup := (idL_pw n).imp fun h => by omega
theorem sortI_pw (l : List Int) : (sortI l).Pairwise (· ≤ ·) := by
  refine (List.pairwise_mergeSort (le := fun x y : Int => decide (x ≤ y)) (fun a b c h1 h2 => ?_) (fun a b => ?_) l).imp fun {a b} h => by simpa using h
  · simp only [decide_eq_true_eq] at *; omega
  · simp only [Bool.or_eq_true, decide_eq_true_eq]; omega
theorem sortI_id {l : List Int} : sortI l = idL l.length ↔ l.Perm (idL l.length) := by
  constructor
  · intro h
    exact (List.mergeSort_perm l _).symm.trans (by show (sortI l).Perm _; rw [h])
  · intro h
    exact List.Perm.eq_of_pairwise (le := fun a b => a ≤ b) (fun a b _ _ h1 h2 => by omega) (sortI_pw l) ((idL_pw _).imp fun h => by omega) ((List.mergeSort_perm l _).trans h)
theorem gi_get {l : List Int} {j : Nat} (h : j < l.length) : gi l j = l[j] := by simp [gi, h]
theorem gi_mem {l : List Int} {x : Int} : x ∈ l ↔ ∃ j, j < l.length ∧ gi l j = x := by
  rw [List.mem_iff_getElem]
  exact ⟨fun ⟨j, h, e⟩ => ⟨j, h, by rw [gi_get h, e]⟩, fun ⟨j, h, e⟩ => ⟨j, h, by rw [← gi_get h, e]⟩⟩
theorem setOk_iff {l : List Int} : setOk l = true ↔ (∀ j, j < l.length → 0 ≤ gi l j ∧ gi l j ≤ 6) ∧ l.Nodup := by
  rw [List.nodup_iff_pairwise_ne, List.pairwise_iff_getElem]
  constructor
  · intro h
    have h' : ∀ k, k < l.length → diffAt l k = true := by unfold setOk at h; simpa using h
    have hr : ∀ j, j < l.length → 0 ≤ gi l j ∧ gi l j ≤ 6 := fun j hj => by
      have := h' j hj
      unfold diffAt at this
      simp only [Bool.and_eq_true, decide_eq_true_eq] at this
      exact this.1
    refine ⟨hr, fun i j hi hj hij e => ?_⟩
    have := h' j hj
    unfold diffAt at this
    simp only [Bool.and_eq_true, Bool.not_eq_true'] at this
    have h2 := ((setTo_bits (l := l) (k := j) fun t ht => h' t (by omega)).2 (gi l j).toNat).2 ⟨i, hij, by rw [gi_get hi, gi_get hj, e]⟩
    rw [this.2] at h2; cases h2
  · rintro ⟨hr, hn⟩
    have hd : ∀ k, k ≤ l.length → ∀ j, j < k → diffAt l j = true := fun k => by
      induction k with
      | zero => exact fun _ j h => absurd h (by omega)
      | succ k ih =>
        intro hk j hj
        have ih' := ih (by omega)
        rcases Nat.lt_succ_iff_lt_or_eq.1 hj with h | rfl
        · exact ih' j h
        · unfold diffAt
          have := hr j (by omega)
          rw [decide_eq_true this.1, decide_eq_true this.2, Bool.and_self, Bool.true_and, Bool.not_eq_true', Bool.eq_false_iff]
          intro hb
          obtain ⟨i, hi, e⟩ := ((setTo_bits (l := l) (k := j) ih').2 _).1 hb
          have hi2 := hr i (by omega)
          refine hn i j (by omega) (by omega) hi ?_
          rw [← gi_get (by omega), ← gi_get (by omega)]; omega
    unfold setOk
    rw [decide_eq_true_eq]
    exact fun k hk => hd l.length (Nat.le_refl _) k hk
theorem ones_bit (n v : Nat) : (2 ^ n - 1).testBit v = decide (v < n) := Nat.testBit_two_pow_sub_one ..
/-- The two ways. -/
theorem perm_same {l : List Int} (h7 : l.length ≤ 7) : (setOk l && decide (setV l = ((2 ^ l.length - 1 : Nat) : Int))) = decide (sortI l = idL l.length) := by
  rw [Bool.eq_iff_iff, Bool.and_eq_true, decide_eq_true_eq, decide_eq_true_eq, sortI_id]
  constructor
  · rintro ⟨h1, h2⟩
    rw [setV_all h1] at h2
    have h2' : setTo l l.length = 2 ^ l.length - 1 := by omega
    obtain ⟨hr, hn⟩ := setOk_iff.1 h1
    refine (List.perm_ext_iff_of_nodup hn (idL_nodup _)).2 fun x => ?_
    have hb := (setTo_bits (l := l) (k := l.length) (fun j hj => by unfold setOk at h1; simpa using (of_decide_eq_true h1) j hj)).2
    rw [gi_mem, idL_mem]
    constructor
    · rintro ⟨j, hj, rfl⟩
      have h3 := (hb (gi l j).toNat).2 ⟨j, hj, rfl⟩
      rw [h2', ones_bit, decide_eq_true_eq] at h3
      have := hr j hj
      omega
    · rintro ⟨h3, h4⟩
      obtain ⟨j, hj, e⟩ := (hb x.toNat).1 (by rw [h2', ones_bit, decide_eq_true_eq]; omega)
      have := hr j hj
      exact ⟨j, hj, by omega⟩
  · intro hp
    have hm : ∀ j, j < l.length → 0 ≤ gi l j ∧ gi l j < l.length := fun j hj => idL_mem.1 ((hp.mem_iff).1 (gi_mem.2 ⟨j, hj, rfl⟩))
    have h1 : setOk l = true := setOk_iff.2 ⟨fun j hj => by have := hm j hj; omega, hp.nodup_iff.2 (idL_nodup _)⟩
    refine ⟨h1, ?_⟩
    rw [setV_all h1]
    have hb := (setTo_bits (l := l) (k := l.length) (fun j hj => by unfold setOk at h1; simpa using (of_decide_eq_true h1) j hj)).2
    congr 1
    apply Nat.eq_of_testBit_eq
    intro v
    rw [ones_bit, Bool.eq_iff_iff, hb, decide_eq_true_eq]
    constructor
    · rintro ⟨j, hj, rfl⟩; have := hm j hj; omega
    · intro hv
      obtain ⟨j, hj, e⟩ := gi_mem.1 ((hp.mem_iff).2 (idL_mem.2 (show 0 ≤ (v : Int) ∧ (v : Int) < l.length by omega)))
      exact ⟨j, hj, by omega⟩
theorem idL_iff {l ys : List Int} (hl : ys.length = l.length) : ys = idL l.length ↔ ∀ i, i < l.length → gi ys i = (i : Int) := by
  have hn : (idL l.length).length = l.length := by simp [idL]
  have hg : ∀ i, i < l.length → gi (idL l.length) i = (i : Int) := fun i hi => by simp [idL, gi, hi]
  constructor
  · intro h i hi; rw [h, hg i hi]
  · intro h; exact gi_ext (by rw [hl, hn]) fun i hi => by rw [h i (by omega), hg i (by omega)]

/-- Is the list a permutation of 1 to 7 numbers? -/
def permB (l : List Int) : Bool := (decide ((1 : Int) ≤ l.length) && decide ((l.length : Int) ≤ 7)) && decide (sortI l = idL l.length)
theorem permB_true {l : List Int} (h : permB l = true) : 1 ≤ l.length ∧ l.length ≤ 7 ∧ (∀ j, j < l.length → 0 ≤ gi l j ∧ gi l j < l.length) ∧ l.Nodup := by
  unfold permB at h
  simp only [Bool.and_eq_true, decide_eq_true_eq] at h
  have hp := sortI_id.1 h.2
  exact ⟨by omega, by omega, fun j hj => idL_mem.1 ((hp.mem_iff).1 (gi_mem.2 ⟨j, hj, rfl⟩)), hp.nodup_iff.2 (idL_nodup _)⟩

end Go.Proofs.Ytfjljfjnooieoaa
