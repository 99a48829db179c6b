/-
  The walks of DominationGap on both sides. For at most 2^20 rows.
-/
import Derived.Test.YtflejcffjngdfaaBest
namespace Go.Proofs.Ytflejcffjngdfaa
open Go.RowKit

def gapV (n : Int) (rs : List Int) : Int := if isGraphB n rs = true then ((listOf (fewestV n rs fun S => domB rs.length rs S)).length : Int) - (listOf (largestV n rs fun S => packB rs.length rs S)).length else -1
theorem gapV_no {n : Int} {rs : List Int} (h : isGraphB n rs = false) : gapV n rs = -1 := by unfold gapV; rw [h]; rfl
theorem gapV_of {n : Int} {rs : List Int} (h : isGraphB n rs = true) : gapV n rs = ((listOf (fewestV n rs fun S => domB rs.length rs S)).length : Int) - (listOf (largestV n rs fun S => packB rs.length rs S)).length := by unfold gapV; rw [if_pos h]

set_option maxRecDepth 100000 in
set_option maxHeartbeats 1000000 in
theorem specGap_any (n : Int) (rs : List Int) (ro : Option Addr) (rc : Nat) (w : World) (hr : IntsAt w ro rs) (hrl : rs.length ≤ 1048576) :
    Calls Try.prog 15 #[.agg #[.int .i64 n, .slice ro rs.length rc]] w fun e w' => e = .returned (.int .i64 (gapV n rs)) ∧ Below w.heap.size w w' := by
  go_enter Try.func15, Try.ntmps15
  go_wp2_with fail
  generalize hW : w.alloc _ = W1
  obtain ⟨hB, -, k0⟩ := alloc1 hW
  replace hr := hr.below hB
  have hb0 := k0.lt
  have hc0 := k0.cell 0
  have hc1 := k0.cell 1
  simp at hc0 hc1
  clear hW k0
  have HhB := Lib.hid hB
  clear hB
  obtain ⟨m, hm0⟩ : ∃ m : Later W1, m.w = W1 := ⟨Later.refl _, rfl⟩
  refine (fun h => hm0 ▸ h) ?_
  clear hm0
  cases hv : isGraphB n rs
  · have HE := Lib.hid (gapV_no hv)
    go_wp2_with (first | (go_at_call 16; refine (Calls.later m (specIsGraph_any _ _ _ _ _ (hr.later m) hrl)).mono ?_; rintro e w' ⟨rfl, m, rfl⟩))
    go_ret
    exact ⟨retI (by rw [HE.out]), below_later HhB.out m⟩
  · have HE := Lib.hid (gapV_of hv)
    have h1 := listOf_len (fewestV n rs fun S => domB rs.length rs S)
    have h2 := listOf_len (largestV n rs fun S => packB rs.length rs S)
    have k1 := fun m : Later W1 => specFewestDominating_any n rs ro rc m.w (hr.later m) hrl
    have k2 := fun m : Later W1 => specLargestPacking_any n rs ro rc m.w (hr.later m) hrl
    generalize fewestV n rs (fun S => domB rs.length rs S) = A at *
    generalize largestV n rs (fun S => packB rs.length rs S) = B at *
    go_wp2_with (first | (go_at_call 16; refine (Calls.later m (specIsGraph_any _ _ _ _ _ (hr.later m) hrl)).mono ?_; rintro e w' ⟨rfl, m, rfl⟩))
    refine wp_region_later m rfl (by kernel_rfl) (by kernel_rfl) ?_
    repeat (go_big_quiet_step ((first | (go_at_call 13; exact Calls.later _ (k1 _)) | (go_at_call 14; exact Calls.later _ (k2 _)) | (go_at_call 22; exact Calls.later _ (specCountSet_any _ _)))))
    refine wpQuiet_nil ?_
    rintro _ ⟨m, rfl⟩
    go_wp2_with fail
    go_ret
    exact ⟨retI (by rw [HE.out]), below_later HhB.out m⟩

set_option maxRecDepth 100000 in
set_option maxHeartbeats 1000000 in
theorem implGap_any (n : Int) (rs : List Int) (ro : Option Addr) (rc : Nat) (w : World) (hr : IntsAt w ro rs) (hrl : rs.length ≤ 1048576) :
    Calls Try.prog 12 #[.agg #[.int .i64 n, .slice ro rs.length rc]] w fun e w' => e = .returned (.int .i64 (gapV n rs)) ∧ Below w.heap.size w w' := by
  go_enter Try.func12, Try.ntmps12
  go_wp2_with fail
  generalize hW : w.alloc _ = W1
  obtain ⟨hB, -, k0⟩ := alloc1 hW
  replace hr := hr.below hB
  have hb0 := k0.lt
  have hc0 := k0.cell 0
  have hc1 := k0.cell 1
  simp at hc0 hc1
  clear hW k0
  have HhB := Lib.hid hB
  clear hB
  obtain ⟨m, hm0⟩ : ∃ m : Later W1, m.w = W1 := ⟨Later.refl _, rfl⟩
  refine (fun h => hm0 ▸ h) ?_
  clear hm0
  cases hv : isGraphB n rs
  · have HE := Lib.hid (gapV_no hv)
    go_wp2_with (first | (go_at_call 110; refine (Calls.later m (implIsGraph_any _ _ _ _ _ (hr.later m) hrl)).mono ?_; rintro e w' ⟨rfl, m, rfl⟩))
    go_ret
    exact ⟨retI (by rw [HE.out]), below_later HhB.out m⟩
  · have HE := Lib.hid (gapV_of hv)
    have h1 := listOf_len (fewestV n rs fun S => domB rs.length rs S)
    have h2 := listOf_len (largestV n rs fun S => packB rs.length rs S)
    have k1 := fun m : Later W1 => implFewestDominating_any n rs ro rc m.w (hr.later m) hrl
    have k2 := fun m : Later W1 => implLargestPacking_any n rs ro rc m.w (hr.later m) hrl
    generalize fewestV n rs (fun S => domB rs.length rs S) = A at *
    generalize largestV n rs (fun S => packB rs.length rs S) = B at *
    go_wp2_with (first | (go_at_call 110; refine (Calls.later m (implIsGraph_any _ _ _ _ _ (hr.later m) hrl)).mono ?_; rintro e w' ⟨rfl, m, rfl⟩))
    refine wp_region_later m rfl (by kernel_rfl) (by kernel_rfl) ?_
    repeat (go_big_quiet_step ((first | (go_at_call 10; exact Calls.later _ (k1 _)) | (go_at_call 11; exact Calls.later _ (k2 _)) | (go_at_call 111; exact Calls.later _ (implCountSet_any _ _)))))
    refine wpQuiet_nil ?_
    rintro _ ⟨m, rfl⟩
    go_wp2_with fail
    go_ret
    exact ⟨retI (by rw [HE.out]), below_later HhB.out m⟩

end Go.Proofs.Ytflejcffjngdfaa
