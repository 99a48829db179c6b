/-
  The walks of the laws' helpers on Graph: szGraph, toGraph, eqGraph. The rows are at most 2^20 where copies are made.
-/
import Derived.Test.YtfjljfjnooieoaaConv
namespace Go.Proofs.Ytfjljfjnooieoaa
open Go.RowKit

def szOne (n : Nat) : Int := if 1048576 < n then -1 else 1048576 - n



set_option maxHeartbeats 400000 in
theorem eqGraph_same (x : Int) (f : List Int) (fc fc' : Nat) (fo fo' : Option Addr) (w : World) (hf : IntsAt w fo f) (hf' : IntsAt w fo' f) (hn : f.length ≤ 1048576) :
    Calls Try.prog 18 #[.agg #[.int .i64 x, .slice fo f.length fc], .agg #[.int .i64 x, .slice fo' f.length fc']] w fun e w' => e = .returned (.bool true) ∧ Below w.heap.size w w' := by
  go_enter Try.func18, Try.ntmps18
  go_wp2_with fail
  generalize hW : (w.alloc _).alloc _ = W1
  obtain ⟨hB, hS, k0, k1⟩ := alloc2 hW
  have b0 := k0.lt
  have b1 := k1.lt
  have c00 := k0.cell 0
  have c01 := k0.cell 1
  have c10 := k1.cell 0
  have c11 := k1.cell 1
  simp at c00 c01 c10 c11
  replace hf := Lib.hid (hf.below hB)
  replace hf' := Lib.hid (hf'.below hB)
  have HhB := Lib.hid hB
  clear hB
  have HhS := Lib.hid hS
  clear hS
  clear k0 k1 hW
  have hr1 := sameInts_refl f
  obtain ⟨m, hm0⟩ : ∃ m : Later W1, m.w = W1 := ⟨Later.refl _, rfl⟩
  refine (fun h => hm0 ▸ h) ?_
  clear hm0
  refine (Calls.later m (eqIntS_any _ _ _ _ _ _ _ (hf.out.later m) (hf'.out.later m) (by omega) (by omega))).mono ?_
  rintro e w' ⟨rfl, m, rfl⟩
  go_wp2_with fail
  go_ret
  exact ⟨rfl, below_later HhB.out m⟩

end Go.Proofs.Ytfjljfjnooieoaa
