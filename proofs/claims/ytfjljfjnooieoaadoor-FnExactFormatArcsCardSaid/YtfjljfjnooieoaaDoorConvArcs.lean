/-
  The walks of the laws' helpers on Arcs: szArcs, toArcs, eqArcs. The lists have at most 2^20 elements where copies are made.
-/
import Derived.Test.YtfjljfjnooieoaaDoorConv
namespace Go.Proofs.YtfjljfjnooieoaaDoor
open Go.RowKit

def szTwo (n m : Nat) : Int := if 1048576 < n + m then -1 else 1048576 - n - m

set_option maxHeartbeats 400000 in
theorem szArcs_any (x : Int) (n fc m lc : Nat) (fo lo : Option Addr) (hn : n ≤ 9223372036854775807) (hm : m ≤ 9223372036854775807) (w : World) :
    Calls Tryd.prog 5 #[.agg #[.int .i64 x, .slice fo n fc, .slice lo m lc], .int .i64 1048576] w fun e w' => e = .returned (.int .i64 (szTwo n m)) ∧ Below w.heap.size w w' := by
  by_cases h1 : (1048576 : Int) < n
  · have hs : -1 = szTwo n m := by unfold szTwo; rw [if_pos (by omega)]
    have HS := Lib.hid hs
    clear hs
    go_enter Tryd.func5, Tryd.ntmps5
    go_wp2_with (first | (go_at_call 15; refine (szIntS_any _ _ _ _ (by omega) (by omega) (by omega) _).mono ?_; rintro e w' ⟨rfl, rfl⟩))
    go_ret
    exact ⟨retI HS.out, (Below.refl _ _).alloc (Nat.le_refl _) _⟩
  · by_cases h2 : (1048576 : Int) - n < m
    · have hs : -1 = szTwo n m := by unfold szTwo; rw [if_pos (by omega)]
      have HS := Lib.hid hs
      clear hs
      go_enter Tryd.func5, Tryd.ntmps5
      go_wp2_with (first | (go_at_call 15; refine (szIntS_any _ _ _ _ (by omega) (by omega) (by omega) _).mono ?_; rintro e w' ⟨rfl, rfl⟩))
      go_ret
      exact ⟨retI HS.out, (Below.refl _ _).alloc (Nat.le_refl _) _⟩
    · have hs : (1048576 : Int) - n - m = szTwo n m := by unfold szTwo; rw [if_neg (by omega)]
      have HS := Lib.hid hs
      clear hs
      go_enter Tryd.func5, Tryd.ntmps5
      go_wp2_with (first | (go_at_call 15; refine (szIntS_any _ _ _ _ (by omega) (by omega) (by omega) _).mono ?_; rintro e w' ⟨rfl, rfl⟩))
      go_ret
      exact ⟨retI HS.out, (Below.refl _ _).alloc (Nat.le_refl _) _⟩

set_option maxHeartbeats 400000 in
theorem toArcs_any (x : Int) (f l : List Int) (fc lc : Nat) (fo lo : Option Addr) (w : World) (hf : IntsAt w fo f) (hl : IntsAt w lo l) (hn : f.length ≤ 1048576) (hm : l.length ≤ 1048576) :
    Calls Tryd.prog 7 #[.agg #[.int .i64 x, .slice fo f.length fc, .slice lo l.length lc]] w fun e w' => ∃ b1 b2, e = .returned (.agg #[.int .i64 x, .slice (some ⟨b1, 0, none⟩) f.length f.length, .slice (some ⟨b2, 0, none⟩) l.length l.length]) ∧
      Below w.heap.size w w' ∧ w.heap.size ≤ b1 ∧ w.heap.size ≤ b2 ∧ b1 ≠ b2 ∧ OwnInts w' b1 f ∧ OwnInts w' b2 l := by
  go_enter Tryd.func7, Tryd.ntmps7
  go_wp2_with fail
  generalize hW : ((w.alloc _).alloc _).alloc _ = W1
  obtain ⟨hB, hS, k0, k1, k2⟩ := alloc3 hW
  clear hW
  refine (toIntS_any _ _ _ _ (hf.below hB) hn).mono ?_
  rintro e w1 ⟨rfl, hO1, hB1⟩
  generalize hb1 : W1.heap.size = b1 at *
  replace k0 := k0.below hB1 (by omega)
  replace k1 := k1.below hB1 (by omega)
  replace k2 := k2.below hB1 (by omega)
  replace hB1 := hB.trans (hB1.mono (by omega))
  have hl1 := hl.below hB1
  have hS1 := hO1.lt
  have f0 := k2.frozen 1
  have c0 := k2.cell 1
  have c1 := k0.cell 2
  simp at c0 c1
  have HhS := Lib.hid hS
  clear hS
  have Hhb1 := Lib.hid hb1
  clear hb1
  have Hhl := Lib.hid hl
  clear hl
  go_wp2_with fail
  generalize hW2 : w1.setCell _ _ = W2
  have hB2 := below_setCellW hB1 hW2 (by show w.heap.size ≤ w.heap.size + 1 + 1; omega)
  have e0 := size_setCellW hW2
  replace k1 := k1.otherW hW2 (by simp)
  replace k2 := k2.storeW hW2
  replace hO1 := hO1.otherW hW2 (by have := HhS.out; have := Hhb1.out; simp; omega)
  clear hW2 hl1 f0 c0 c1 hB1 k0
  refine (toIntS_any _ _ _ _ (Hhl.out.below hB2) hm).mono ?_
  rintro e w2 ⟨rfl, hO2, hB3⟩
  generalize hb2 : W2.heap.size = b2 at *
  have hne : b1 < b2 := by omega
  have := HhS.out
  have := Hhb1.out
  replace k1 := k1.below hB3 (by omega)
  replace k2 := k2.below hB3 (by omega)
  replace hO1 := hO1.below hB3 (by omega)
  replace hB3 := hB2.trans (hB3.mono (by omega))
  have f2 := k2.frozen 2
  have f10 := k1.frozen 0
  have f11 := k1.frozen 1
  have f12 := k1.frozen 2
  have c20 := k2.cell 0
  have c21 := k2.cell 1
  have c22 := k2.cell 2
  have c10 := k1.cell 0
  have c11 := k1.cell 1
  have c12 := k1.cell 2
  simp at c20 c21 c22 c10 c11 c12
  clear k1 k2
  go_wp2_with fail
  refine bodyPost_ret (v := .agg #[.int .i64 x, .slice (some ⟨w.heap.size + 3, 0, none⟩) f.length f.length, .slice (some ⟨w1.heap.size, 0, none⟩) l.length l.length]) (by simp [results, Tryd.results7, go_sem, c10, c11, c12]) rfl ?_
  refine ⟨_, _, rfl, ?_, by omega, by omega, by omega, ?_, ?_⟩
  · exact (((hB3.setCell (by simp; omega) _).setCell (by simp) _).setCell (by simp) _).setCell (by simp) _
  · have h : OwnInts w2 (w.heap.size + 3) f := HhS.out ▸ hO1
    exact (((h.other _ (by simp)).other _ (by simp)).other _ (by simp)).other _ (by simp)
  · have h : OwnInts w2 w1.heap.size l := e0 ▸ hO2
    exact (((h.other _ (by simp; omega)).other _ (by simp; omega)).other _ (by simp; omega)).other _ (by simp; omega)

set_option maxHeartbeats 400000 in
theorem eqArcs_same (x : Int) (f l : List Int) (fc lc fc' lc' : Nat) (fo lo fo' lo' : Option Addr) (w : World) (hf : IntsAt w fo f) (hl : IntsAt w lo l) (hf' : IntsAt w fo' f) (hl' : IntsAt w lo' l) (hn : f.length ≤ 1048576) (hm : l.length ≤ 1048576) :
    Calls Tryd.prog 9 #[.agg #[.int .i64 x, .slice fo f.length fc, .slice lo l.length lc], .agg #[.int .i64 x, .slice fo' f.length fc', .slice lo' l.length lc']] w fun e w' => e = .returned (.bool true) ∧ Below w.heap.size w w' := by
  go_enter Tryd.func9, Tryd.ntmps9
  go_wp2_with fail
  generalize hW : (w.alloc _).alloc _ = W1
  obtain ⟨hB, hS, k0, k1⟩ := alloc2 hW
  have b0 := k0.lt
  have b1 := k1.lt
  have c00 := k0.cell 0
  have c01 := k0.cell 1
  have c02 := k0.cell 2
  have c10 := k1.cell 0
  have c11 := k1.cell 1
  have c12 := k1.cell 2
  simp at c00 c01 c02 c10 c11 c12
  replace hf := Lib.hid (hf.below hB)
  replace hl := Lib.hid (hl.below hB)
  replace hf' := Lib.hid (hf'.below hB)
  replace hl' := Lib.hid (hl'.below hB)
  have HhB := Lib.hid hB
  clear hB
  have HhS := Lib.hid hS
  clear hS
  clear k0 k1 hW
  have hr1 := sameInts_refl f
  have hr2 := sameInts_refl l
  obtain ⟨m, hm0⟩ : ∃ m : Later W1, m.w = W1 := ⟨Later.refl _, rfl⟩
  refine (fun h => hm0 ▸ h) ?_
  clear hm0
  refine (Calls.later m (eqIntS_any _ _ _ _ _ _ _ (hf.out.later m) (hf'.out.later m) (by omega) (by omega))).mono ?_
  rintro e w' ⟨rfl, m, rfl⟩
  go_wp2_with fail
  refine (Calls.later m (eqIntS_any _ _ _ _ _ _ _ (hl.out.later m) (hl'.out.later m) (by omega) (by omega))).mono ?_
  rintro e w' ⟨rfl, m, rfl⟩
  go_wp2_with fail
  go_ret
  exact ⟨rfl, below_later HhB.out m⟩

end Go.Proofs.YtfjljfjnooieoaaDoor
