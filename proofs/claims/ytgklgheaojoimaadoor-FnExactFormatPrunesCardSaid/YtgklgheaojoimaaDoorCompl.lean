/-
  copyGraph and ComplementOf of the program. For at most 2^20 rows.
-/
import Derived.Test.YtgklgheaojoimaaDoorMark
import Derived.Test.YtgklgheaojoimaaDoorSets
import Derived.Deep.RegionHeld3
namespace Go.Proofs.YtgklgheaojoimaaDoor
open Go.RowKit

theorem RowAt.otherCell {w : World} {g cap : Nat} {xs : List Int} (h : RowAt w g cap xs) {a : Addr} {v : Value} (hne : g ≠ a.block) : RowAt (w.setCell a v) g cap xs := by
  obtain ⟨cur, hb, hr⟩ := h
  exact ⟨cur, hb.other v hne, hr⟩

/-- The row of v in the complement. -/
def complRow (rs : List Int) (v : Nat) : Nat := nDiff (nDiff (2 ^ rs.length - 1) (gn rs v)) (2 ^ v)
def compl (rs : List Int) : List Int := (List.range rs.length).map fun v : Nat => (complRow rs v : Int)
theorem compl_len (rs : List Int) : (compl rs).length = rs.length := by simp [compl]
theorem compl_at {rs : List Int} {v : Nat} (h : v < rs.length) : gi (compl rs) v = (complRow rs v : Int) := by simp [compl, gi, h]


theorem RowAt.below {w w' : World} {g cap : Nat} {xs : List Int} (h : RowAt w g cap xs) (hb : Below w.heap.size w w') : RowAt w' g cap xs := by
  obtain ⟨cur, h1, h2⟩ := h
  exact ⟨cur, h1.below hb h1.lt, h2⟩
theorem LateX.setOn {X : Nat → Prop} {W : World} (m : LateX X W) {a : Addr} (hx : X a.block) (v : Value) : ∃ m' : LateX X W, m'.w = m.w.setCell a v := ⟨⟨_, m.only.setCell (.inl hx) v⟩, rfl⟩



end Go.Proofs.YtgklgheaojoimaaDoor
