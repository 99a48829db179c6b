/-
  LaterNeighbours of the reference and of the program, SetOf of the program. For at most 2^20 rows and list elements; the order is right and the vertex is in it.
-/
import Derived.Test.YtgklgheaojoimaaDoorBandB
import Derived.Test.YtgklgheaojoimaaDoorRelG
namespace Go.Proofs.YtgklgheaojoimaaDoor
open Go.RowKit

/-- What stands from place i on. -/
def behindN (rs l : List Int) (i : Nat) : Nat := nDiff (2 ^ rs.length - 1) (setTo l i)
def laterN (rs l : List Int) (i : Nat) : Nat := gn rs (gi l i).toNat &&& behindN rs l i
theorem behind_lt (rs l : List Int) (i : Nat) : behindN rs l i < 2 ^ rs.length := nDiff_lt (by have := Nat.two_pow_pos rs.length; omega)
theorem later_lt (rs l : List Int) (i : Nat) : laterN rs l i < 2 ^ rs.length := Nat.lt_of_le_of_lt Nat.and_le_right (behind_lt rs l i)
theorem setTo_sub {n : Int} {rs l : List Int} (h : vertsB n rs l = true) {k : Nat} (hk : k ≤ l.length) : subN (setTo l k) (2 ^ rs.length - 1) := fun i hi => by
  rw [Nat.testBit_two_pow_sub_one]
  exact decide_eq_true (testBit_lt (setTo_lt h k hk) hi)
theorem behind_minus {n : Int} {rs l : List Int} (h : vertsB n rs l = true) (h7 : rs.length ≤ 7) {k : Nat} (hk : k ≤ l.length) : behindN rs l k = 2 ^ rs.length - 1 - setTo l k :=
  nDiff_minus (by have := Nat.pow_le_pow_right (n := 2) (by decide) h7; have := Nat.two_pow_pos rs.length; omega) (setTo_sub h hk)
theorem setTo_bit {n : Int} {rs l : List Int} (h : vertsB n rs l = true) {k v : Nat} (hk : k ≤ l.length) : (setTo l k).testBit v = true ↔ ∃ j, j < k ∧ gi l j = (v : Int) := by
  have hs := h
  unfold vertsB at hs
  simp only [Bool.and_eq_true] at hs
  have hd : ∀ j, j < l.length → diffAt l j = true := by have := hs.2.1; unfold setOk at this; simpa using this
  rw [(setTo_bits (k := k) (fun j hj => hd j (by omega))).2 v]
  constructor
  · rintro ⟨j, hj, e⟩
    obtain ⟨u, hu, -⟩ := vert_at h (j := j) (by omega)
    exact ⟨j, hj, by rw [hu] at e ⊢; simp at e; rw [e]⟩
  · rintro ⟨j, hj, e⟩
    exact ⟨j, hj, by rw [e]; simp⟩


theorem IntsAt.drop {w : World} {b off : Nat} {xs : List Int} (h : IntsAt w (some ⟨b, off, none⟩) xs) (i : Nat) : IntsAt w (some ⟨b, off + i, none⟩) (xs.drop i) := fun h0 => by
  rw [List.length_drop] at h0
  obtain ⟨b2, off2, e, h1, h2⟩ := h (by omega)
  simp only [Option.some.injEq, Addr.mk.injEq] at e
  obtain ⟨rfl, rfl, -⟩ := e
  refine ⟨b, off + i, rfl, h1, fun k hk => ?_⟩
  rw [List.length_drop] at hk
  have := h2 (i + k) (by omega)
  rw [Nat.add_assoc, this]
  simp [gi, show k < xs.length - i by omega, show i + k < xs.length by omega]


theorem gi_drop {l : List Int} {i j : Nat} (h : i + j < l.length) : gi (l.drop i) j = gi l (i + j) := by
  simp [gi, h, show j < l.length - i by omega]
theorem behind_bit {n : Int} {rs l : List Int} (h : vertsB n rs l = true) {i v : Nat} (hi : i ≤ l.length) : (behindN rs l i).testBit v = true ↔ v < rs.length ∧ ¬∃ j, j < i ∧ gi l j = (v : Int) := by
  unfold behindN
  rw [nDiff_bit, Nat.testBit_two_pow_sub_one, decide_eq_true_eq, ← setTo_bit h hi, Bool.eq_false_iff]
theorem drop_set {rs l : List Int} (h : orderB rs.length rs l = true) {i : Nat} (hi : i < l.length) : setOk (l.drop i) = true ∧ setV (l.drop i) = (behindN rs l i : Int) := by
  obtain ⟨hv, -, g, hlen⟩ := orderB_true h
  have hvd : vertsB rs.length rs (l.drop i) = true := by
    obtain ⟨h1, h2⟩ := vertsB_true.1 hv
    refine vertsB_true.2 ⟨h1, fun j hj => ?_⟩
    rw [List.length_drop] at hj
    rw [gi_drop (by omega)]
    refine ⟨(h2 (i + j) (by omega)).1, fun k hk => ?_⟩
    rw [gi_drop (by omega)]
    exact (h2 (i + j) (by omega)).2 (i + k) (by omega)
  have hs : setOk (l.drop i) = true := by
    unfold vertsB at hvd
    simp only [Bool.and_eq_true] at hvd
    exact hvd.2.1
  refine ⟨hs, ?_⟩
  rw [setV_all hs]
  congr 1
  apply Nat.eq_of_testBit_eq
  intro v
  rw [Bool.eq_iff_iff, setTo_bit hvd (Nat.le_refl _), behind_bit hv (by omega), List.length_drop]
  constructor
  · rintro ⟨j, hj, e⟩
    rw [gi_drop (by omega)] at e
    obtain ⟨u, hu, hul⟩ := vert_at hv (j := i + j) (by omega)
    refine ⟨by omega, ?_⟩
    rintro ⟨k, hk, e2⟩
    have := order_inj hv (i := k) (j := i + j) (by omega) (by omega) (by rw [e, e2])
    omega
  · rintro ⟨hvl, hno⟩
    obtain ⟨k, hk, e⟩ := order_place h hvl
    have : i ≤ k := by
      rcases Nat.lt_or_ge k i with hki | hki
      · exact absurd ⟨k, hki, e⟩ hno
      · exact hki
    exact ⟨k - i, by omega, by rw [gi_drop (by omega), show i + (k - i) = k by omega]; exact e⟩


end Go.Proofs.YtgklgheaojoimaaDoor
