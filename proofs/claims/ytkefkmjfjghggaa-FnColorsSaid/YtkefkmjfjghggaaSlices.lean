/-
  The walks of slices.Index and slices.Contains at []int. For at most 2^20 elements.
-/
import Derived.Test.YtkefkmjfjghggaaConv
namespace Go.Proofs.Ytkefkmjfjghggaa
open Go.RowKit

theorem retIB {a a' : Int} {b b' : Bool} (h1 : a = a') (h2 : b = b') : Ending.returned (.tuple #[.int .i64 a, .bool b]) = .returned (.tuple #[.int .i64 a', .bool b']) := by rw [h1, h2]

/-- The place of v in xs. -/
def idxN (xs : List Int) (v : Int) : Option Nat := firstB (fun j => v == gi xs j) xs.length
def idxV (o : Option Nat) : Int := match o with | none => -1 | some k => k
def inB (xs : List Int) (v : Int) : Bool := (idxN xs v).isSome
theorem idxV_hit {xs : List Int} {v : Int} {k : Nat} (hk : k < xs.length) (h : ∀ j, j < k → (v == gi xs j) = false) (hv : (v == gi xs k) = true) : (k : Int) = idxV (idxN xs v) := by
  unfold idxN; rw [firstB_hit hk h hv]; rfl
theorem idxV_none {xs : List Int} {v : Int} (h : ∀ j, j < xs.length → (v == gi xs j) = false) : -1 = idxV (idxN xs v) := by
  unfold idxN; rw [firstB_none h]; rfl
theorem idxV_nonneg (o : Option Nat) : decide (0 ≤ idxV o) = o.isSome := by cases o <;> simp [idxV]
theorem idxV_bound (xs : List Int) (v : Int) : -1 ≤ idxV (idxN xs v) := by cases idxN xs v <;> simp [idxV] <;> omega
theorem inB_true {xs : List Int} {v : Int} : inB xs v = true ↔ ∃ j, j < xs.length ∧ gi xs j = v := by
  unfold inB idxN firstB
  rw [List.find?_isSome]
  simp only [List.mem_range, beq_iff_eq]
  exact ⟨fun ⟨j, h1, h2⟩ => ⟨j, h1, h2.symm⟩, fun ⟨j, h1, h2⟩ => ⟨j, h1, h2.symm⟩⟩

set_option maxHeartbeats 400000 in
theorem index_any (xs : List Int) (v : Int) (ao : Option Addr) (n c : Nat) (w : World) (hx : IntsAt w ao xs) (hn : xs.length = n) (hl : n ≤ 1048576) :
    Calls Try.prog 159 #[.slice ao n c, .int .i64 v] w fun e w' => e = .returned (.int .i64 (idxV (idxN xs v))) ∧ Below w.heap.size w w' := by
  subst hn
  go_enter Try.func159, Try.ntmps159
  go_wp2_with fail
  go_loopw [8] (fun i wr => (∃ m : Later w, wr = m.w) ∧ ∃ k : Nat, k ≤ xs.length ∧ i = .int .i64 k ∧ ∀ j, j < k → (v == gi xs j) = false) (fun i _ => xs.length - (intOf i).toNat)
  case atStart => exact ⟨⟨Later.refl _, rfl⟩, 0, by omega, rfl, fun j h => by omega⟩
  case round =>
    obtain ⟨⟨m, rfl⟩, k, hk, rfl, hP⟩ := hrel
    have HhP := Lib.hid hP
    clear hP
    by_cases hlt : k < xs.length
    · obtain ⟨b, off, rfl, hbl, hc⟩ := hx (by omega)
      cases he : (v == gi xs k)
      all_goals
        go_wp2_with fail
      · go_roundw
        case rel => exact ⟨⟨m, rfl⟩, k + 1, by omega, by go_num, all_succ HhP.out he⟩
        case measure => simp [intOf]; omega
      · go_ret
        exact ⟨retI (idxV_hit hlt HhP.out he), m.below⟩
    · go_wp2_with fail
      go_ret
      exact ⟨retI (idxV_none (fun j h => HhP.out j (by omega))), m.below⟩

set_option maxHeartbeats 400000 in
theorem contains_list (xs : List Int) (v : Int) (ao : Option Addr) (n c : Nat) (w : World) (hx : IntsAt w ao xs) (hn : xs.length = n) (hl : n ≤ 1048576) :
    Calls Try.prog 148 #[.slice ao n c, .int .i64 v] w fun e w' => e = .returned (.bool (inB xs v)) ∧ Below w.heap.size w w' := by
  go_enter Try.func148, Try.ntmps148
  go_wp2_with fail
  refine (index_any _ _ _ _ _ _ hx hn hl).mono ?_
  rintro e w' ⟨rfl, hB⟩
  go_wp2_with fail
  go_ret
  exact ⟨retB (idxV_nonneg _), hB⟩

/-- The first i elements lie where the list lies. -/
theorem IntsAt.take {w : World} {ao : Option Addr} {xs : List Int} (h : IntsAt w ao xs) (i : Nat) : IntsAt w ao (xs.take i) := fun h0 => by
  have hl : (xs.take i).length = min i xs.length := List.length_take
  obtain ⟨b, off, h1, h2, h3⟩ := h (by omega)
  refine ⟨b, off, h1, h2, fun k hk => ?_⟩
  have hk1 : k < i := by omega
  have e : gi (xs.take i) k = gi xs k := by simp [gi, hk1]
  rw [e]; exact h3 k (by omega)
theorem gi_take {xs : List Int} {i k : Nat} (hk : k < i) : gi (xs.take i) k = gi xs k := by simp [gi, hk]

end Go.Proofs.Ytkefkmjfjghggaa
