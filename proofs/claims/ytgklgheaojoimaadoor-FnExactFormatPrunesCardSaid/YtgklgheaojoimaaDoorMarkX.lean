/-
  The walks of the laws' helpers that write into results and read them again, from whatever number on: markIntS, heldIntS; markArcs, markGraph, heldGraph, markIntervals, heldIntervals over them. For lists of at most 2^20 elements.
-/
import Derived.Test.YtgklgheaojoimaaDoorMark
import Derived.Test.YtgklgheaojoimaaDoorConvGraph
import Derived.Test.YtgklgheaojoimaaDoorConvArcs
namespace Go.Proofs.YtgklgheaojoimaaDoor
open Go.RowKit

/-- The marks a, a + 1, .. -/
def marksF (a : Int) (n : Nat) : List Int := (List.range n).map fun i : Nat => a + (i : Int)
theorem marksF_len (a : Int) (n : Nat) : (marksF a n).length = n := by simp [marksF]
theorem marksF_at {a : Int} {n k : Nat} (h : k < n) : gi (marksF a n) k = a + (k : Int) := by simp [marksF, gi, h]
theorem Only.monoX {X Y : Nat → Prop} {B : Nat} {w w' : World} (h : Only X B w w') (hX : ∀ b, X b → Y b) : Only Y B w w' := h.mono (Nat.le_refl _) fun b _ => hX b



/-- The block that a list lies in, where it has elements. -/
def XR (ao : Option Addr) (xs : List Int) (b : Nat) : Prop := 0 < xs.length ∧ ∃ off, ao = some ⟨b, off, none⟩
theorem OwnE.xr {w : World} {base cap b : Nat} {ao : Option Addr} {xs : List Int} (h : OwnE w base ao cap xs) (hb : XR ao xs b) : base ≤ b ∧ b < w.heap.size := by
  obtain ⟨h0, off, e⟩ := hb
  obtain ⟨g, e2, hg, hR⟩ := h.row h0
  rw [e2] at e
  simp only [Option.some.injEq, Addr.mk.injEq] at e
  obtain ⟨rfl, -⟩ := e
  exact ⟨hg, hR.lt⟩
theorem OwnE.onlyX {w w' : World} {base cap : Nat} {ao : Option Addr} {xs : List Int} {X : Nat → Prop} (h : OwnE w base ao cap xs) (k : Only X w.heap.size w w') (hX : ∀ b, X b → b < base) : OwnE w' base ao cap xs := by
  rcases h with ⟨hl, h1 | ⟨g, cp, cur, hv, hg, hb, hr⟩⟩ | h
  · exact .inl ⟨hl, .inl h1⟩
  · exact .inl ⟨hl, .inr ⟨g, cp, cur, hv, hg, by rw [k.block g (Array.getElem?_eq_some_iff.1 hb).1 (fun e => by have := hX g e; omega)]; exact hb, hr⟩⟩
  · exact .inr h

theorem IntsAt.onlyD {w w' : World} {ao : Option Addr} {xs : List Int} {X : Nat → Prop} (h : IntsAt w ao xs) (k : Only X w.heap.size w w') (hX : ∀ b, X b → ¬XR ao xs b) : IntsAt w' ao xs := fun h0 => by
  obtain ⟨b, off, e, hlt, hc⟩ := h h0
  exact ⟨b, off, e, Nat.lt_of_lt_of_le hlt k.size, fun j hj => by rw [k.cell (p := ⟨b, off + j, none⟩) hlt (fun hx => hX b hx ⟨h0, off, e⟩)]; exact hc j hj⟩
theorem OwnE.onlyD {w w' : World} {base cap : Nat} {ao : Option Addr} {xs : List Int} {X : Nat → Prop} (h : OwnE w base ao cap xs) (k : Only X w.heap.size w w') (hX : ∀ b, X b → ¬XR ao xs b) (h0 : 0 < xs.length) : OwnE w' base ao cap xs := by
  obtain ⟨g, rfl, hg, cur, hb, hr⟩ := h.row h0
  exact RowAt.own ⟨cur, k.blk hb hb.lt (fun hx => hX g hx ⟨h0, 0, rfl⟩), hr⟩ hg








end Go.Proofs.YtgklgheaojoimaaDoor
