/-
  Lists of slices ([][]int) that a call itself makes and appends to.
-/
import Derived.Test.YtgklgheaojoimaaDoorLists
namespace Go.Proofs.YtgklgheaojoimaaDoor
open Go.RowKit

theorem info_row : (Tryd.prog.info? 24).map (fun i => (i.zero, i.size, i.bytes)) = some (some (.slice none 0 0), 1, 24) := by kernel_rfl

/-- The slice value v owns the slices xs in a row of the call's own, from block 'base' on. -/
def OwnV (w : World) (base : Nat) (v : Value) (xs : List Value) : Prop := w.ownsRow base 24 1 v xs.length xs

theorem OwnV.cells {w : World} {base n cap : Nat} {ao : Option Addr} {xs : List Value} (h : OwnV w base (.slice ao n cap) xs) (h0 : 0 < xs.length) : ∃ g, ao = some ⟨g, 0, none⟩ ∧ base ≤ g ∧ g < w.heap.size ∧ ∀ k u, xs[k]? = some u → w.cell? ⟨g, k, none⟩ = some u := by
  obtain ⟨hl, h1 | ⟨g, cp, cur, hv, hg, hb, hn, hm, hsz, ht⟩⟩ := h
  · omega
  · simp only [Value.slice.injEq] at hv
    obtain ⟨rfl, -, -⟩ := hv
    refine ⟨g, rfl, hg, (Array.getElem?_eq_some_iff.1 hb).1, fun k u hk => ?_⟩
    obtain ⟨hkl, -⟩ := List.getElem?_eq_some_iff.1 hk
    have : cur[k]? = some u := by
      have e : (cur.toList.take (xs.length * 1))[k]? = xs[k]? := by rw [ht]
      rw [List.getElem?_take, if_pos (by omega), Array.getElem?_toList] at e
      rw [e]; exact hk
    simp only [World.cell?, hb]
    simpa using this

theorem OwnV.form {w : World} {base : Nat} {v : Value} {xs : List Value} (h : OwnV w base v xs) : ∃ ao cap, v = .slice ao xs.length cap := by
  obtain ⟨hl, ⟨h1, h2⟩ | ⟨g, cp, cur, hv, -⟩⟩ := h
  · exact ⟨none, 0, by rw [h1, h2]⟩
  · exact ⟨_, _, hv⟩

theorem OwnV.alloc {w : World} {base : Nat} {v : Value} {xs : List Value} (h : OwnV w base v xs) (o : Obj) : OwnV (w.alloc o) base v xs := World.ownsRow.alloc h o

theorem OwnV.below {w w' : World} {base : Nat} {v : Value} {xs : List Value} (h : OwnV w base v xs) (hb : Below w.heap.size w w') : OwnV w' base v xs := by
  obtain ⟨h0, h1 | ⟨g, cap, cur, hv, hg, hh, r⟩⟩ := h
  · exact ⟨h0, .inl h1⟩
  · exact ⟨h0, .inr ⟨g, cap, cur, hv, hg, by rw [hb.block g (Array.getElem?_eq_some_iff.1 hh).1]; exact hh, r⟩⟩

/-- '[][]int{}' -/
theorem OwnV.empty (w : World) : OwnV (w.alloc (.cells #[] 24)) w.heap.size (.slice (some ⟨w.heap.size, 0, none⟩) 0 0) [] :=
  ⟨by simp, .inr ⟨w.heap.size, 0, #[], rfl, Nat.le_refl _, by show (w.heap.push _)[w.heap.size]? = _; simp, Nat.le_refl _, by simp, by simp, by simp⟩⟩

theorem OwnV.own {w : World} {base : Nat} {v : Value} {xs : List Value} (h : OwnV w base v xs) : ∀ k, v.ownBlock = some k → base ≤ k := by
  intro k hk
  obtain ⟨hl, ⟨h1, h2⟩ | ⟨g, cp, cur, hv, hg, -⟩⟩ := h
  · rw [h1] at hk; cases hk
  · rw [hv] at hk
    simp only [Value.ownBlock, Option.some.injEq] at hk
    omega


end Go.Proofs.YtgklgheaojoimaaDoor
