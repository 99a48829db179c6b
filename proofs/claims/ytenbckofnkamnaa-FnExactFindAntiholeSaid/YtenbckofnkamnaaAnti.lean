/-
  FindAntihole and PerfectObstacle on both sides. For at most 2^20 rows.
-/
import Derived.Test.YtenbckofnkamnaaOddHoleF
import Derived.Test.YtenbckofnkamnaaComplS
namespace Go.Proofs.Ytenbckofnkamnaa
open Go.RowKit

/-- What FindAntihole says. -/
def antiV (n : Int) (rs : List Int) : Option (List Int) := if isGraphB n rs = true then oddHoleV rs.length (compl rs) else none
theorem antiV_no {n : Int} {rs : List Int} (h : isGraphB n rs = false) : antiV n rs = none := by unfold antiV; rw [h]; rfl
theorem antiV_of {n : Int} {rs : List Int} (h : isGraphB n rs = true) : antiV n rs = oddHoleV rs.length (compl rs) := by unfold antiV; rw [if_pos h]
theorem antiV_len (n : Int) (rs : List Int) : ((antiV n rs).getD []).length ≤ 1048576 := by
  unfold antiV; split
  · exact oddHoleV_len _ _
  · simp
theorem oddHole_zero : oddHoleV 0 [] = none := by
  have : isGraphB 0 [] = false := by unfold isGraphB; simp
  unfold oddHoleV; rw [this]; rfl
/-- What PerfectObstacle says. -/
def obstV (n : Int) (rs : List Int) : Option (List Int) := match oddHoleV n rs with | some x => some x | none => antiV n rs
theorem obstV_len (n : Int) (rs : List Int) : ((obstV n rs).getD []).length ≤ 1048576 := by
  unfold obstV; split
  · rename_i x h; have := oddHoleV_len n rs; rw [h] at this; exact this
  · exact antiV_len n rs

set_option maxRecDepth 100000 in
set_option maxHeartbeats 1000000 in
theorem implAnti_any (n : Int) (rs : List Int) (ro : Option Addr) (rc : Nat) (w : World) (hr : IntsAt w ro rs) (hrl : rs.length ≤ 1048576) :
    Calls Try.prog 45 #[.agg #[.int .i64 n, .slice ro rs.length rc]] w (RetO w (antiV n rs)) := by
  go_enter Try.func45, Try.ntmps45
  go_wp2_with fail
  generalize hW : w.alloc _ = W1
  obtain ⟨hB, -, k0⟩ := alloc1 hW
  replace hr := hr.below hB
  have hb0 := k0.lt
  have hc0 := k0.cell 0
  have hc1 := k0.cell 1
  simp at hc0 hc1
  clear hW k0
  have HhB := Lib.hid hB
  clear hB
  cases hv : isGraphB n rs
  · have HE := Lib.hid (antiV_no hv)
    refine (implCompl_bad n rs ro rc W1 hr hrl hv).mono ?_
    rintro e w2 ⟨rfl, hB2⟩
    go_wp2_with fail
    generalize hW3 : World.alloc _ _ = W3
    obtain ⟨hB3, -, -⟩ := alloc1 hW3
    refine (implOddHole_any 0 [] none 0 W3 (fun h => absurd h (by simp)) (by simp)).mono ?_
    rintro e w4 ⟨ao, cap, rfl, hB4, hO⟩
    rw [oddHole_zero] at hO ⊢
    have hBB : Below w.heap.size w w4 := below_more' (below_more' (below_more' HhB.out hB2) hB3) hB4
    have hEE := hO.mono' (Nat.le_trans HhB.out.size (Nat.le_trans hB2.size hB3.size))
    clear hB2 hB3 hB4 hO hW3
    have HhBB := Lib.hid hBB
    clear hBB
    have HhEE := Lib.hid hEE
    clear hEE
    go_wp2_with fail
    go_ret2
    exact ⟨ao, cap, by rw [HE.out]; rfl, HhBB.out, by rw [HE.out]; exact HhEE.out⟩
  · obtain ⟨rfl, g⟩ := VG.of hv
    have HE := Lib.hid (antiV_of hv)
    refine (implCompl_any rs ro rc W1 hr hv).mono ?_
    rintro e w2 ⟨g1, c1, rfl, hB2, hI2⟩
    go_wp2_with fail
    generalize hW3 : World.alloc _ _ = W3
    obtain ⟨hB3, -, -⟩ := alloc1 hW3
    have hc := implOddHole_any rs.length (compl rs) (some ⟨g1, 0, none⟩) c1 W3 (hI2.below hB3) (by rw [compl_len]; exact hrl)
    rw [compl_len] at hc
    refine hc.mono ?_
    rintro e w4 ⟨ao, cap, rfl, hB4, hO⟩
    have hBB : Below w.heap.size w w4 := below_more' (below_more' (below_more' HhB.out hB2) hB3) hB4
    have hEE := hO.mono' (Nat.le_trans HhB.out.size (Nat.le_trans hB2.size hB3.size))
    rw [← HE.out] at hEE ⊢
    clear hB2 hB3 hB4 hO hW3 hI2 hc
    generalize antiV rs.length rs = O at *
    have HhBB := Lib.hid hBB
    clear hBB
    have HhEE := Lib.hid hEE
    clear hEE
    go_wp2_with fail
    go_ret2
    exact ⟨ao, cap, rfl, HhBB.out, HhEE.out⟩

set_option maxRecDepth 100000 in
set_option maxHeartbeats 1000000 in
theorem specAnti_any (n : Int) (rs : List Int) (ro : Option Addr) (rc : Nat) (w : World) (hr : IntsAt w ro rs) (hrl : rs.length ≤ 1048576) :
    Calls Try.prog 44 #[.agg #[.int .i64 n, .slice ro rs.length rc]] w (RetI w (antiV n rs)) := by
  go_enter Try.func44, Try.ntmps44
  go_wp2_with fail
  generalize hW : w.alloc _ = W1
  obtain ⟨hB, -, k0⟩ := alloc1 hW
  replace hr := hr.below hB
  have hb0 := k0.lt
  have hc0 := k0.cell 0
  have hc1 := k0.cell 1
  simp at hc0 hc1
  clear hW k0
  have HhB := Lib.hid hB
  clear hB
  cases hv : isGraphB n rs
  · have HE := Lib.hid (antiV_no hv)
    refine (specCompl_bad n rs ro rc W1 hr hrl hv).mono ?_
    rintro e w2 ⟨rfl, hB2⟩
    have hBB : Below w.heap.size w w2 := below_more' HhB.out hB2
    clear hB2
    have HhBB := Lib.hid hBB
    clear hBB
    go_wp2_with fail
    go_ret2
    exact ⟨_, _, by rw [HE.out]; rfl, (HhBB.out.alloc HhBB.out.size _).alloc (by have := HhBB.out.size; simp; omega) _, by rw [HE.out]; exact fun h => absurd h (by simp)⟩
  · obtain ⟨rfl, g⟩ := VG.of hv
    have HE := Lib.hid (antiV_of hv)
    refine (specCompl_any rs ro rc W1 hr hv).mono ?_
    rintro e w2 ⟨g1, c1, rfl, hB2, hI2⟩
    go_wp2_with fail
    generalize hW3 : World.alloc _ _ = W3
    obtain ⟨hB3, -, -⟩ := alloc1 hW3
    have hc := specOddHole_any rs.length (compl rs) g1 c1 W3 (hI2.below hB3) (by rw [compl_len]; exact hrl)
    rw [compl_len] at hc
    refine hc.mono ?_
    rintro e w4 ⟨ao, cap, rfl, hB4, hO⟩
    have hBB : Below w.heap.size w w4 := below_more' (below_more' (below_more' HhB.out hB2) hB3) hB4
    rw [← HE.out] at hO ⊢
    clear hB2 hB3 hB4 hW3 hI2 hc
    generalize antiV rs.length rs = O at *
    have HhBB := Lib.hid hBB
    clear hBB
    have HhO := Lib.hid hO
    clear hO
    go_wp2_with fail
    go_ret2
    exact ⟨ao, cap, rfl, HhBB.out, HhO.out⟩

set_option maxRecDepth 100000 in
set_option maxHeartbeats 1000000 in
theorem implObst_any (n : Int) (rs : List Int) (ro : Option Addr) (rc : Nat) (w : World) (hr : IntsAt w ro rs) (hrl : rs.length ≤ 1048576) :
    Calls Try.prog 49 #[.agg #[.int .i64 n, .slice ro rs.length rc]] w (RetO w (obstV n rs)) := by
  go_enter Try.func49, Try.ntmps49
  go_wp2_with fail
  generalize hW : w.alloc _ = W1
  obtain ⟨hB, -, k0⟩ := alloc1 hW
  replace hr := hr.below hB
  have hb0 := k0.lt
  have hc0 := k0.cell 0
  have hc1 := k0.cell 1
  simp at hc0 hc1
  clear hW k0
  have HhB := Lib.hid hB
  clear hB
  have HE : Hid (obstV n rs = match oddHoleV n rs with | some x => some x | none => antiV n rs) := rfl
  refine (implOddHole_any n rs ro rc W1 hr hrl).mono ?_
  rintro e w2 ⟨ao, cap, rfl, hB2, hO⟩
  obtain ⟨m, rfl⟩ : ∃ m2 : Later W1, m2.w = w2 := ⟨⟨w2, hB2⟩, rfl⟩
  generalize oddHoleV n rs = O at *
  rcases O with _ | x
  · clear hO hB2
    go_wp2_with fail
    refine (implAnti_any n rs ro rc m.w (hr.later m) hrl).mono ?_
    rintro e w4 ⟨ao, cap, rfl, hB4, hO⟩
    have hBB : Below w.heap.size w w4 := below_more' (below_later HhB.out m) hB4
    have hEE := hO.mono' (below_later HhB.out m).size
    clear hB4 hO
    have HhBB := Lib.hid hBB
    clear hBB
    have HhEE := Lib.hid hEE
    clear hEE
    go_wp2_with fail
    go_ret2
    exact ⟨ao, cap, by rw [HE.out]; rfl, HhBB.out, by rw [HE.out]; exact HhEE.out⟩
  · have hEE := hO.mono' HhB.out.size
    clear hO hB2
    have HhEE := Lib.hid hEE
    clear hEE
    go_wp2_with fail
    go_ret2
    exact ⟨ao, cap, by rw [HE.out]; rfl, below_later HhB.out m, by rw [HE.out]; exact HhEE.out⟩

set_option maxRecDepth 100000 in
set_option maxHeartbeats 1000000 in
theorem specObst_any (n : Int) (rs : List Int) (ro : Option Addr) (rc : Nat) (w : World) (hr : IntsAt w ro rs) (hrl : rs.length ≤ 1048576) :
    Calls Try.prog 48 #[.agg #[.int .i64 n, .slice ro rs.length rc]] w (RetI w (obstV n rs)) := by
  go_enter Try.func48, Try.ntmps48
  go_wp2_with fail
  generalize hW : w.alloc _ = W1
  obtain ⟨hB, -, k0⟩ := alloc1 hW
  replace hr := hr.below hB
  have hb0 := k0.lt
  have hc0 := k0.cell 0
  have hc1 := k0.cell 1
  simp at hc0 hc1
  clear hW k0
  have HhB := Lib.hid hB
  clear hB
  have HE : Hid (obstV n rs = match oddHoleV n rs with | some x => some x | none => antiV n rs) := rfl
  refine (specOddHole_any n rs ro rc W1 hr hrl).mono ?_
  rintro e w2 ⟨ao, cap, rfl, hB2, hO⟩
  obtain ⟨m, rfl⟩ : ∃ m2 : Later W1, m2.w = w2 := ⟨⟨w2, hB2⟩, rfl⟩
  generalize oddHoleV n rs = O at *
  rcases O with _ | x
  · clear hO hB2
    go_wp2_with fail
    refine (specAnti_any n rs ro rc m.w (hr.later m) hrl).mono ?_
    rintro e w4 ⟨ao, cap, rfl, hB4, hO⟩
    have hBB : Below w.heap.size w w4 := below_more' (below_later HhB.out m) hB4
    clear hB4
    have HhBB := Lib.hid hBB
    clear hBB
    have HhO := Lib.hid hO
    clear hO
    go_wp2_with fail
    go_ret2
    exact ⟨ao, cap, by rw [HE.out]; rfl, HhBB.out, by rw [HE.out]; exact HhO.out⟩
  · clear hB2
    have HhO := Lib.hid hO
    clear hO
    go_wp2_with fail
    go_ret2
    exact ⟨ao, cap, by rw [HE.out]; rfl, below_later HhB.out m, by rw [HE.out]; exact HhO.out⟩

end Go.Proofs.Ytenbckofnkamnaa
