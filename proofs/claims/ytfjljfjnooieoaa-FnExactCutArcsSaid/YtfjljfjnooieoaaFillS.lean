/-
  l6Filled and WidthOfOrder of the reference. For at most 2^20 rows and list elements.
-/
import Derived.Test.YtfjljfjnooieoaaFill
import Derived.Test.YtfjljfjnooieoaaAddE
import Derived.Deep.RegionWith
namespace Go.Proofs.Ytfjljfjnooieoaa
open Go.RowKit

/-- A list of vertices out of a block from 'base' on. -/
def NatsB (base : Nat) (w : World) (ao : Option Addr) (l : List Nat) : Prop :=
  0 < l.length → ∃ g, ao = some ⟨g, 0, none⟩ ∧ base ≤ g ∧ g < w.heap.size ∧ ∀ k, k < l.length → w.cell? ⟨g, k, none⟩ = some (.int .i64 (eln l k : Int))
theorem NatsB.of {w : World} {base cap : Nat} {ao : Option Addr} {l : List Nat} (h : OwnL w base (.slice ao (l.map Int.ofNat).length cap) (l.map Int.ofNat)) : NatsB base w ao l := fun h0 => by
  obtain ⟨g, h1, h2, h3⟩ := (OwnE.own h).row (by simpa using h0)
  refine ⟨g, h1, h2, h3.lt, fun k hk => ?_⟩
  rw [h3.cell k (by simpa using hk), gi_map l k hk]
theorem specListB_any (S : Nat) (h : S < 128) (w : World) : Calls Try.prog 35 #[.int .i64 S] w fun e w' => ∃ ao cap, e = .returned (.slice ao (cnt S) cap) ∧ Below w.heap.size w w' ∧ NatsB w.heap.size w' ao (els S) :=
  (specListOf_any (S : Int) w).mono fun e w' ⟨ao, cap, he, hb, ho⟩ => by
    rw [listOf_nat h] at he ho
    exact ⟨ao, cap, by rw [he, List.length_map]; rfl, hb, NatsB.of ho⟩
theorem implListB_any (S : Nat) (h : S < 128) (w : World) : Calls Try.prog 40 #[.int .i64 S] w fun e w' => ∃ ao cap, e = .returned (.slice ao (cnt S) cap) ∧ Below w.heap.size w w' ∧ NatsB w.heap.size w' ao (els S) :=
  (implListOf_any (S : Int) w).mono fun e w' ⟨ao, cap, he, hb, ho⟩ => by
    rw [listOf_nat h] at he ho
    exact ⟨ao, cap, by rw [he, List.length_map]; rfl, hb, NatsB.of ho⟩

theorem pair_ok {rs : List Int} (g : VG rs) {a b : Nat} (ha : a < rs.length) (hb : b < rs.length) (hne : a ≠ b) : pairB rs.length rs a b = true := by
  unfold pairB
  rw [g.graph, decide_eq_true (by omega), decide_eq_true (by omega), decide_eq_true (by omega), decide_eq_true (by omega)]
  simp; omega
theorem RowAt.ints {w : World} {g cap : Nat} {xs : List Int} (h : RowAt w g cap xs) : IntsAt w (some ⟨g, 0, none⟩) xs := (h.own (base := 0) (Nat.zero_le _)).ints
theorem IntsAt.only {w w' : World} {ao : Option Addr} {xs : List Int} {X : Nat → Prop} (h : IntsAt w ao xs) (hO : Only X w.heap.size w w') (hx : ∀ b off, ao = some ⟨b, off, none⟩ → ¬X b) : IntsAt w' ao xs := fun h0 => by
  obtain ⟨b, off, e, hlt, hc⟩ := h h0
  exact ⟨b, off, e, Nat.lt_of_lt_of_le hlt hO.size, fun k hk => by rw [hO.cell (p := ⟨b, off + k, none⟩) hlt (hx b off e)]; exact hc k hk⟩



end Go.Proofs.Ytfjljfjnooieoaa
