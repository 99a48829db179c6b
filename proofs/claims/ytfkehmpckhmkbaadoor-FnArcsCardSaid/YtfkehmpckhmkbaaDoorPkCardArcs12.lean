/-
  How the laws' arguments are opened: a slice of integers, inside a struct or by itself. No conditions.
-/
import Derived.Test.YtfkehmpckhmkbaaDoorPkCardArcs02
import Derived.ProofKit
import Derived.OpenShut
import Derived.ChangeOld
import Derived.Lib.SmallJoins
namespace Go.Proofs.YtfkehmpckhmkbaaDoor
open Go.RowKit Go.ChangeShapes Go.WideShapes Go.ChangeAt

theorem own : ownKnob Tryd.prog.godebug = none := by kernel_rfl
theorem laidOut : laidOutB Tryd.prog = true := by kernel_rfl
theorem cells_int : Tryd.prog.cellsOf 3 = 1 := by kernel_rfl

theorem ints_of_trod {H : Type} {enc : TypeId × Value → H} {w : World} {base : Nat} {spare : Nat → Bool} {held : Bool} {fuel : Nat} {v : Value} {y : DataW H × List MemPlace}
    (h : DataW.trod enc Tryd.prog w base spare held fuel 24 [v] = some y) : ∃ ao xs c, v = .slice ao xs.length c ∧ IntsAt w ao xs ∧ xs.length ≤ 9223372036854775807 := by
  rcases open_ints Tryd.underlying24 Tryd.underlying3 cells_int h with ⟨hcs, _⟩ | ⟨x, l, c, zs, hcs, _, hl, hm, hz, _, hcell, _⟩
  · obtain rfl : v = _ := by simpa using hcs
    exact ⟨none, [], 0, rfl, fun h => by simp at h, by simp⟩
  · obtain rfl : v = _ := by simpa using hcs
    have hlz : l ≤ zs.length := by rw [hz]; split <;> omega
    have hlen : (zs.take l).length = l := by rw [List.length_take]; omega
    refine ⟨some x, zs.take l, c, by rw [hlen], fun h0 => ?_, by unfold maxLen at hm; omega⟩
    obtain ⟨b, off, spot⟩ := x
    have hc := hcell 0 (by omega)
    have hspot : spot = none := by simpa [Addr.add] using World.cell?_spot hc
    subst hspot
    refine ⟨b, off, rfl, World.block_lt_of_cell? w _ (hcell 0 (by omega)), fun k hk => ?_⟩
    rw [hlen] at hk
    have := hcell k (by omega)
    have e : gi (zs.take l) k = zs.getD k 0 := by simp [gi, hk]
    rw [e, ← this]
    congr 1
    simp only [Addr.add]
    split <;> simp_all

end Go.Proofs.YtfkehmpckhmkbaaDoor
