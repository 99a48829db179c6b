/-
  The walks of slices.Index and slices.Contains at []int. For at most 2^20 elements.
-/
import Derived.Test.YtgklgheaojoimaaDoorConv
namespace Go.Proofs.YtgklgheaojoimaaDoor
open Go.RowKit

theorem retIB {a a' : Int} {b b' : Bool} (h1 : a = a') (h2 : b = b') : Ending.returned (.tuple #[.int .i64 a, .bool b]) = .returned (.tuple #[.int .i64 a', .bool b']) := by rw [h1, h2]

/-- The place of v in xs. -/
def idxN (xs : List Int) (v : Int) : Option Nat := firstB (fun j => v == gi xs j) xs.length
def idxV (o : Option Nat) : Int := match o with | none => -1 | some k => k
def inB (xs : List Int) (v : Int) : Bool := (idxN xs v).isSome
theorem idxV_hit {xs : List Int} {v : Int} {k : Nat} (hk : k < xs.length) (h : ∀ j, j < k → (v == gi xs j) = false) (hv : (v == gi xs k) = true) : (k : Int) = idxV (idxN xs v) := by
  unfold idxN; rw [firstB_hit hk h hv]; rfl
theorem idxV_none {xs : List Int} {v : Int} (h : ∀ j, j < xs.length → (v == gi xs j) = false) : -1 = idxV (idxN xs v) := by
  unfold idxN; rw [firstB_none h]; rfl
theorem idxV_nonneg (o : Option Nat) : decide (0 ≤ idxV o) = o.isSome := by cases o <;> simp [idxV]
theorem idxV_bound (xs : List Int) (v : Int) : -1 ≤ idxV (idxN xs v) := by cases idxN xs v <;> simp [idxV] <;> omega
theorem inB_true {xs : List Int} {v : Int} : inB xs v = true ↔ ∃ j, j < xs.length ∧ gi xs j = v := by
  unfold inB idxN firstB
  rw [List.find?_isSome]
  simp only [List.mem_range, beq_iff_eq]
  exact ⟨fun ⟨j, h1, h2⟩ => ⟨j, h1, h2.symm⟩, fun ⟨j, h1, h2⟩ => ⟨j, h1, h2.symm⟩⟩



/-- The first i elements lie where the list lies. -/
theorem IntsAt.take {w : World} {ao : Option Addr} {xs : List Int} (h : IntsAt w ao xs) (i : Nat) : IntsAt w ao (xs.take i) := fun h0 => by
  have hl : (xs.take i).length = min i xs.length := List.length_take
  obtain ⟨b, off, h1, h2, h3⟩ := h (by omega)
  refine ⟨b, off, h1, h2, fun k hk => ?_⟩
  have hk1 : k < i := by omega
  have e : gi (xs.take i) k = gi xs k := by simp [gi, hk1]
  rw [e]; exact h3 k (by omega)
theorem gi_take {xs : List Int} {i k : Nat} (hk : k < i) : gi (xs.take i) k = gi xs k := by simp [gi, hk]

end Go.Proofs.YtgklgheaojoimaaDoor
