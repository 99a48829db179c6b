/-
  StrongObstacle on both sides. For at most 2^20 rows.
-/
import Derived.Test.YtfknahckicnaaaaHoleF
import Derived.Test.YtfknahckicnaaaaFindSunS
namespace Go.Proofs.Ytfknahckicnaaaa
open Go.RowKit

def obst2V (n : Int) (rs : List Int) : Option (List Int) := match holeV n rs with | some x => some x | none => sunV n rs
theorem obst2V_len (n : Int) (rs : List Int) : ((obst2V n rs).getD []).length ≤ 1048576 := by
  unfold obst2V; split
  · rename_i x h; have := holeV_len n rs; rw [h] at this; exact this
  · exact sunV_len n rs

set_option maxRecDepth 100000 in
set_option maxHeartbeats 1000000 in
theorem implObst2_any (n : Int) (rs : List Int) (ro : Option Addr) (rc : Nat) (w : World) (hr : IntsAt w ro rs) (hrl : rs.length ≤ 1048576) :
    Calls Try.prog 15 #[.agg #[.int .i64 n, .slice ro rs.length rc]] w (RetO w (obst2V n rs)) := by
  go_enter Try.func15, Try.ntmps15
  go_wp2_with fail
  generalize hW : w.alloc _ = W1
  obtain ⟨hB, -, k0⟩ := alloc1 hW
  replace hr := hr.below hB
  have hb0 := k0.lt
  have hc0 := k0.cell 0
  have hc1 := k0.cell 1
  simp at hc0 hc1
  clear hW k0
  have HhB := Lib.hid hB
  clear hB
  have HE : Hid (obst2V n rs = match holeV n rs with | some x => some x | none => sunV n rs) := rfl
  refine (implHole_any n rs ro rc W1 hr hrl).mono ?_
  rintro e w2 ⟨ao, cap, rfl, hB2, hO⟩
  obtain ⟨m, rfl⟩ : ∃ m2 : Later W1, m2.w = w2 := ⟨⟨w2, hB2⟩, rfl⟩
  generalize holeV n rs = O at *
  rcases O with _ | x
  · clear hO hB2
    go_wp2_with fail
    refine (implFindSun_any n rs ro rc m.w (hr.later m) hrl).mono ?_
    rintro e w4 ⟨ao, cap, rfl, hB4, hO⟩
    have hBB : Below w.heap.size w w4 := below_more' (below_later HhB.out m) hB4
    have hEE := hO.mono' (below_later HhB.out m).size
    clear hB4 hO
    have HhBB := Lib.hid hBB
    clear hBB
    have HhEE := Lib.hid hEE
    clear hEE
    go_wp2_with fail
    go_ret2
    exact ⟨ao, cap, by rw [HE.out]; rfl, HhBB.out, by rw [HE.out]; exact HhEE.out⟩
  · have hEE := hO.mono' HhB.out.size
    clear hO hB2
    have HhEE := Lib.hid hEE
    clear hEE
    go_wp2_with fail
    go_ret2
    exact ⟨ao, cap, by rw [HE.out]; rfl, below_later HhB.out m, by rw [HE.out]; exact HhEE.out⟩

set_option maxRecDepth 100000 in
set_option maxHeartbeats 1000000 in
theorem specObst2_any (n : Int) (rs : List Int) (ro : Option Addr) (rc : Nat) (w : World) (hr : IntsAt w ro rs) (hrl : rs.length ≤ 1048576) :
    Calls Try.prog 14 #[.agg #[.int .i64 n, .slice ro rs.length rc]] w (RetI w (obst2V n rs)) := by
  go_enter Try.func14, Try.ntmps14
  go_wp2_with fail
  generalize hW : w.alloc _ = W1
  obtain ⟨hB, -, k0⟩ := alloc1 hW
  replace hr := hr.below hB
  have hb0 := k0.lt
  have hc0 := k0.cell 0
  have hc1 := k0.cell 1
  simp at hc0 hc1
  clear hW k0
  have HhB := Lib.hid hB
  clear hB
  have HE : Hid (obst2V n rs = match holeV n rs with | some x => some x | none => sunV n rs) := rfl
  refine (specHole_any n rs ro rc W1 hr hrl).mono ?_
  rintro e w2 ⟨ao, cap, rfl, hB2, hO⟩
  obtain ⟨m, rfl⟩ : ∃ m2 : Later W1, m2.w = w2 := ⟨⟨w2, hB2⟩, rfl⟩
  generalize holeV n rs = O at *
  rcases O with _ | x
  · clear hO hB2
    go_wp2_with fail
    refine (specFindSun_any n rs ro rc m.w (hr.later m) hrl).mono ?_
    rintro e w4 ⟨ao, cap, rfl, hB4, hO⟩
    have hBB : Below w.heap.size w w4 := below_more' (below_later HhB.out m) hB4
    clear hB4
    have HhBB := Lib.hid hBB
    clear hBB
    have HhO := Lib.hid hO
    clear hO
    go_wp2_with fail
    go_ret2
    exact ⟨ao, cap, by rw [HE.out]; rfl, HhBB.out, by rw [HE.out]; exact HhO.out⟩
  · clear hB2
    have HhO := Lib.hid hO
    clear hO
    go_wp2_with fail
    go_ret2
    exact ⟨ao, cap, by rw [HE.out]; rfl, below_later HhB.out m, by rw [HE.out]; exact HhO.out⟩

end Go.Proofs.Ytfknahckicnaaaa
