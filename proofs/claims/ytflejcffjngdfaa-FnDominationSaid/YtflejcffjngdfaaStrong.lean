/-
  IsStronglyChordal on both sides. For at most 2^20 rows.
-/
import Derived.Test.YtflejcffjngdfaaOrderI
namespace Go.Proofs.Ytflejcffjngdfaa
open Go.RowKit

def strongB (n : Int) (rs : List Int) : Bool := (ordV n rs).isSome

set_option maxHeartbeats 1000000 in
theorem specStrong_any (n : Int) (rs : List Int) (ro : Option Addr) (rc : Nat) (w : World) (hr : IntsAt w ro rs) (hrl : rs.length ≤ 1048576) :
    Calls Try.prog 21 #[.agg #[.int .i64 n, .slice ro rs.length rc]] w fun e w' => e = .returned (.bool (strongB n rs)) ∧ Below w.heap.size w w' := by
  go_enter Try.func21, Try.ntmps21
  go_wp2_with fail
  generalize hW : w.alloc _ = W1
  obtain ⟨hB, -, k0⟩ := alloc1 hW
  replace hr := hr.below hB
  have hb0 := k0.lt
  have hc0 := k0.cell 0
  have hc1 := k0.cell 1
  simp at hc0 hc1
  clear hW k0
  have HhB := Lib.hid hB
  clear hB
  refine (specOrder_any n rs ro rc W1 hr hrl).mono ?_
  rintro e w2 ⟨ao, cap, rfl, hB2, -⟩
  have HE : Hid (strongB n rs = (ordV n rs).isSome) := rfl
  have hBB := below_more' HhB.out hB2
  clear hB2
  generalize ordV n rs = O at *
  have HhBB := Lib.hid hBB
  clear hBB
  go_wp2_with fail
  go_ret
  exact ⟨retB HE.out.symm, HhBB.out⟩

set_option maxHeartbeats 1000000 in
theorem implStrong_any (n : Int) (rs : List Int) (ro : Option Addr) (rc : Nat) (w : World) (hr : IntsAt w ro rs) (hrl : rs.length ≤ 1048576) :
    Calls Try.prog 74 #[.agg #[.int .i64 n, .slice ro rs.length rc]] w fun e w' => e = .returned (.bool (strongB n rs)) ∧ Below w.heap.size w w' := by
  go_enter Try.func74, Try.ntmps74
  go_wp2_with fail
  generalize hW : w.alloc _ = W1
  obtain ⟨hB, -, k0⟩ := alloc1 hW
  replace hr := hr.below hB
  have hb0 := k0.lt
  have hc0 := k0.cell 0
  have hc1 := k0.cell 1
  simp at hc0 hc1
  clear hW k0
  have HhB := Lib.hid hB
  clear hB
  refine (implOrder_any n rs ro rc W1 hr hrl).mono ?_
  rintro e w2 ⟨ao, cap, rfl, hB2, -⟩
  have HE : Hid (strongB n rs = (ordV n rs).isSome) := rfl
  have hBB := below_more' HhB.out hB2
  clear hB2
  generalize ordV n rs = O at *
  have HhBB := Lib.hid hBB
  clear hBB
  go_wp2_with fail
  go_ret
  exact ⟨retB HE.out.symm, HhBB.out⟩

end Go.Proofs.Ytflejcffjngdfaa
