/-
  The walks of the laws' helpers on Graph: szGraph, toGraph, eqGraph. The rows are at most 2^20 where copies are made.
-/
import Derived.Test.YtdbaflimcbidjaaConv
namespace Go.Proofs.Ytdbaflimcbidjaa
open Go.RowKit

def szOne (n : Nat) : Int := if 1048576 < n then -1 else 1048576 - n

set_option maxHeartbeats 400000 in
theorem szGraph_any (x : Int) (n fc : Nat) (fo : Option Addr) (hn : n ≤ 9223372036854775807) (w : World) :
    Calls Try.prog 26 #[.agg #[.int .i64 x, .slice fo n fc], .int .i64 1048576] w fun e w' => e = .returned (.int .i64 (szOne n)) ∧ Below w.heap.size w w' := by
  by_cases h1 : (1048576 : Int) < n
  · have hs : -1 = szOne n := by unfold szOne; rw [if_pos (by omega)]
    have Hhs := Lib.hid hs
    clear hs
    go_enter Try.func26, Try.ntmps26
    go_wp2_with (first | (go_at_call 51; refine (szIntS_any _ _ _ _ (by omega) (by omega) (by omega) _).mono ?_; rintro e w' ⟨rfl, rfl⟩))
    go_ret
    exact ⟨retI Hhs.out, (Below.refl _ _).alloc (Nat.le_refl _) _⟩
  · have hs : (1048576 : Int) - n = szOne n := by unfold szOne; rw [if_neg (by omega)]
    have Hhs := Lib.hid hs
    clear hs
    go_enter Try.func26, Try.ntmps26
    go_wp2_with (first | (go_at_call 51; refine (szIntS_any _ _ _ _ (by omega) (by omega) (by omega) _).mono ?_; rintro e w' ⟨rfl, rfl⟩))
    go_ret
    exact ⟨retI Hhs.out, (Below.refl _ _).alloc (Nat.le_refl _) _⟩

set_option maxHeartbeats 400000 in
theorem toGraph_any (x : Int) (f : List Int) (fc : Nat) (fo : Option Addr) (w : World) (hf : IntsAt w fo f) (hn : f.length ≤ 1048576) :
    Calls Try.prog 28 #[.agg #[.int .i64 x, .slice fo f.length fc]] w fun e w' => ∃ b1, e = .returned (.agg #[.int .i64 x, .slice (some ⟨b1, 0, none⟩) f.length f.length]) ∧
      Below w.heap.size w w' ∧ w.heap.size ≤ b1 ∧ OwnInts w' b1 f := by
  go_enter Try.func28, Try.ntmps28
  go_wp2_with fail
  generalize hW : ((w.alloc _).alloc _).alloc _ = W1
  obtain ⟨hB, hS, k0, k1, k2⟩ := alloc3 hW
  clear hW k0
  refine (toIntS_any _ _ _ _ (hf.below hB) hn).mono ?_
  rintro e w1 ⟨rfl, hO1, hB1⟩
  generalize hb1 : W1.heap.size = b1 at *
  replace k1 := k1.below hB1 (by omega)
  replace k2 := k2.below hB1 (by omega)
  replace hB1 := hB.trans (hB1.mono (by omega))
  have f2 := k2.frozen 1
  have f10 := k1.frozen 0
  have f11 := k1.frozen 1
  have c20 := k2.cell 0
  have c21 := k2.cell 1
  have c10 := k1.cell 0
  have c11 := k1.cell 1
  simp at c20 c21 c10 c11
  clear k1 k2
  have HhS := Lib.hid hS
  clear hS
  have Hhb1 := Lib.hid hb1
  clear hb1
  go_wp2_with fail
  refine bodyPost_ret (v := .agg #[.int .i64 x, .slice (some ⟨b1, 0, none⟩) f.length f.length]) (by simp [results, Try.results28, go_sem, c10, c11]) rfl ?_
  have := HhS.out
  refine ⟨_, rfl, ?_, by omega, ?_⟩
  · exact ((hB1.setCell (by simp; omega) _).setCell (by simp) _).setCell (by simp) _
  · exact ((hO1.other _ (by simp; omega)).other _ (by simp; omega)).other _ (by simp; omega)

set_option maxHeartbeats 400000 in
theorem eqGraph_same (x : Int) (f : List Int) (fc fc' : Nat) (fo fo' : Option Addr) (w : World) (hf : IntsAt w fo f) (hf' : IntsAt w fo' f) (hn : f.length ≤ 1048576) :
    Calls Try.prog 23 #[.agg #[.int .i64 x, .slice fo f.length fc], .agg #[.int .i64 x, .slice fo' f.length fc']] w fun e w' => e = .returned (.bool true) ∧ Below w.heap.size w w' := by
  go_enter Try.func23, Try.ntmps23
  go_wp2_with fail
  generalize hW : (w.alloc _).alloc _ = W1
  obtain ⟨hB, hS, k0, k1⟩ := alloc2 hW
  have b0 := k0.lt
  have b1 := k1.lt
  have c00 := k0.cell 0
  have c01 := k0.cell 1
  have c10 := k1.cell 0
  have c11 := k1.cell 1
  simp at c00 c01 c10 c11
  replace hf := Lib.hid (hf.below hB)
  replace hf' := Lib.hid (hf'.below hB)
  have HhB := Lib.hid hB
  clear hB
  have HhS := Lib.hid hS
  clear hS
  clear k0 k1 hW
  have hr1 := sameInts_refl f
  obtain ⟨m, hm0⟩ : ∃ m : Later W1, m.w = W1 := ⟨Later.refl _, rfl⟩
  refine (fun h => hm0 ▸ h) ?_
  clear hm0
  refine (Calls.later m (eqIntS_any _ _ _ _ _ _ _ (hf.out.later m) (hf'.out.later m) (by omega) (by omega))).mono ?_
  rintro e w' ⟨rfl, m, rfl⟩
  go_wp2_with fail
  go_ret
  exact ⟨rfl, below_later HhB.out m⟩

end Go.Proofs.Ytdbaflimcbidjaa
