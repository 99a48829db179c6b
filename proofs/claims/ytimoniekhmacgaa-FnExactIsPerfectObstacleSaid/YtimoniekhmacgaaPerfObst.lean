/-
  IsPerfectObstacle on both sides. For at most 2^20 rows and list elements.
-/
import Derived.Test.YtimoniekhmacgaaHoleS
import Derived.Test.YtimoniekhmacgaaComplS
namespace Go.Proofs.Ytimoniekhmacgaa
open Go.RowKit

def perfB (n : Int) (rs l : List Int) : Bool := isGraphB n rs && (decide (l.length % 2 = 1) && (holeB n rs l || holeB rs.length (compl rs) l))
theorem perfB_no {n : Int} {rs l : List Int} (h : isGraphB n rs = false) : perfB n rs l = false := by unfold perfB; rw [h]; rfl
theorem perfB_even {n : Int} {rs l : List Int} (h : ¬l.length % 2 = 1) : perfB n rs l = false := by unfold perfB; rw [decide_eq_false h]; simp
theorem perfB_of {n : Int} {rs l : List Int} (h : isGraphB n rs = true) (h2 : l.length % 2 = 1) : perfB n rs l = (holeB n rs l || holeB rs.length (compl rs) l) := by unfold perfB; rw [h, decide_eq_true h2]; rfl

set_option maxRecDepth 100000 in
set_option maxHeartbeats 1000000 in
theorem specPerf_any (n : Int) (rs l : List Int) (ro lo : Option Addr) (rc lc : Nat) (w : World) (hr : IntsAt w ro rs) (hrl : rs.length ≤ 1048576) (hl : IntsAt w lo l) (hll : l.length ≤ 1048576) :
    Calls Try.prog 16 #[.agg #[.int .i64 n, .slice ro rs.length rc], .slice lo l.length lc] w fun e w' => e = .returned (.bool (perfB n rs l)) ∧ Below w.heap.size w w' := by
  go_enter Try.func16, Try.ntmps16
  go_wp2_with fail
  generalize hW : w.alloc _ = W1
  obtain ⟨hB, -, k0⟩ := alloc1 hW
  replace hr := hr.below hB
  replace hl := hl.below hB
  have hb0 := k0.lt
  have hc0 := k0.cell 0
  have hc1 := k0.cell 1
  simp at hc0 hc1
  clear hW k0
  have HhB := Lib.hid hB
  clear hB
  cases hv : isGraphB n rs
  · have HE := Lib.hid (perfB_no (l := l) hv)
    refine (specCompl_bad n rs ro rc W1 hr hrl hv).mono ?_
    rintro e w2 ⟨rfl, hB2⟩
    have hBB : Below w.heap.size w w2 := below_more' HhB.out hB2
    clear hB2
    have HhBB := Lib.hid hBB
    clear hBB
    go_wp2_with fail
    go_ret
    exact ⟨retB (by rw [HE.out]), HhBB.out.alloc HhBB.out.size _⟩
  · obtain ⟨rfl, g⟩ := VG.of hv
    refine (specCompl_any rs ro rc W1 hr hv).mono ?_
    rintro e w2 ⟨g1, c1, rfl, hB2, hI2⟩
    have hlt : w.heap.size < w2.heap.size := Nat.lt_of_lt_of_le hb0 hB2.size
    have y0 := (hB2.cell (p := ⟨w.heap.size, 0, none⟩) hb0).trans hc0
    have y1 := (hB2.cell (p := ⟨w.heap.size, 1, none⟩) hb0).trans hc1
    have hr2 := hr.below hB2
    have hl2 := hl.below hB2
    have hBB : Below w.heap.size w w2 := below_more' HhB.out hB2
    by_cases h2 : l.length % 2 = 1
    · have HE := Lib.hid (perfB_of (n := rs.length) hv h2)
      have d2 : ((l.length : Int) % 2 == 1) = true := by rw [beq_iff_eq]; omega
      clear h2 hB2
      have HhBB := Lib.hid hBB
      clear hBB
      go_wp2_with fail
      generalize hW3 : World.alloc _ _ = W3
      obtain ⟨hB3, -, k3⟩ := alloc1 hW3
      have x0 := k3.cell 0
      have x1 := k3.cell 1
      have xl := k3.lt
      simp at x0 x1
      have hI3 := hI2.below hB3
      have hl3 := hl2.below hB3
      have hB4 := below_more' HhBB.out hB3
      refine (Calls.later (Later.refl W3) (specIsHole_any rs.length rs l ro lo rc lc W3 (hr2.below hB3) hrl hl3 hll)).mono ?_
      rintro e w4 ⟨rfl, m, rfl⟩
      clear hW3 hB3 k3 d2
      have HhB4 := Lib.hid hB4
      clear hB4
      generalize w2.heap.size = B2 at *
      cases hh : holeB rs.length rs l
      · go_wp2_with fail
        have hc := specIsHole_any rs.length (compl rs) l g1 lo c1 lc m.w (hI3.later m) (by rw [compl_len]; exact hrl) (hl3.later m) hll
        rw [compl_len] at hc
        refine (Calls.later m hc).mono ?_
        rintro e w5 ⟨rfl, m, rfl⟩
        go_wp2_with fail
        go_ret
        exact ⟨retB (by rw [HE.out, hh]; rfl), below_later HhB4.out m⟩
      · go_wp2_with fail
        go_ret
        exact ⟨retB (by rw [HE.out, hh]; rfl), below_later HhB4.out m⟩
    · have HE := Lib.hid (perfB_even (n := rs.length) (rs := rs) h2)
      have d2 : ((l.length : Int) % 2 == 1) = false := by rw [beq_eq_false_iff_ne]; omega
      clear h2 hB2
      have HhBB := Lib.hid hBB
      clear hBB
      go_wp2_with fail
      go_ret
      exact ⟨retB (by rw [HE.out]), HhBB.out.alloc HhBB.out.size _⟩

set_option maxRecDepth 100000 in
set_option maxHeartbeats 1000000 in
theorem implPerf_any (n : Int) (rs l : List Int) (ro lo : Option Addr) (rc lc : Nat) (w : World) (hr : IntsAt w ro rs) (hrl : rs.length ≤ 1048576) (hl : IntsAt w lo l) (hll : l.length ≤ 1048576) (hcap : l.length ≤ lc) :
    Calls Try.prog 19 #[.agg #[.int .i64 n, .slice ro rs.length rc], .slice lo l.length lc] w fun e w' => e = .returned (.bool (perfB n rs l)) ∧ Below w.heap.size w w' := by
  go_enter Try.func19, Try.ntmps19
  go_wp2_with fail
  generalize hW : w.alloc _ = W1
  obtain ⟨hB, -, k0⟩ := alloc1 hW
  replace hr := hr.below hB
  replace hl := hl.below hB
  have hb0 := k0.lt
  have hc0 := k0.cell 0
  have hc1 := k0.cell 1
  simp at hc0 hc1
  clear hW k0
  have HhB := Lib.hid hB
  clear hB
  cases hv : isGraphB n rs
  · have HE := Lib.hid (perfB_no (l := l) hv)
    refine (implCompl_bad n rs ro rc W1 hr hrl hv).mono ?_
    rintro e w2 ⟨rfl, hB2⟩
    have hBB : Below w.heap.size w w2 := below_more' HhB.out hB2
    clear hB2
    have HhBB := Lib.hid hBB
    clear hBB
    go_wp2_with fail
    go_ret
    exact ⟨retB (by rw [HE.out]), HhBB.out.alloc HhBB.out.size _⟩
  · obtain ⟨rfl, g⟩ := VG.of hv
    refine (implCompl_any rs ro rc W1 hr hv).mono ?_
    rintro e w2 ⟨g1, c1, rfl, hB2, hI2⟩
    have hlt : w.heap.size < w2.heap.size := Nat.lt_of_lt_of_le hb0 hB2.size
    have y0 := (hB2.cell (p := ⟨w.heap.size, 0, none⟩) hb0).trans hc0
    have y1 := (hB2.cell (p := ⟨w.heap.size, 1, none⟩) hb0).trans hc1
    have hr2 := hr.below hB2
    have hl2 := hl.below hB2
    have hBB : Below w.heap.size w w2 := below_more' HhB.out hB2
    by_cases h2 : l.length % 2 = 1
    · have HE := Lib.hid (perfB_of (n := rs.length) hv h2)
      have d2 : ((l.length : Int) % 2 == 1) = true := by rw [beq_iff_eq]; omega
      clear h2 hB2
      have HhBB := Lib.hid hBB
      clear hBB
      go_wp2_with fail
      generalize hW3 : World.alloc _ _ = W3
      obtain ⟨hB3, -, k3⟩ := alloc1 hW3
      have x0 := k3.cell 0
      have x1 := k3.cell 1
      have xl := k3.lt
      simp at x0 x1
      have hI3 := hI2.below hB3
      have hl3 := hl2.below hB3
      have hB4 := below_more' HhBB.out hB3
      refine (Calls.later (Later.refl W3) (implIsHole_any rs.length rs l ro lo rc lc W3 (hr2.below hB3) hrl hl3 hll hcap)).mono ?_
      rintro e w4 ⟨rfl, m, rfl⟩
      clear hW3 hB3 k3 d2
      have HhB4 := Lib.hid hB4
      clear hB4
      generalize w2.heap.size = B2 at *
      cases hh : holeB rs.length rs l
      · go_wp2_with fail
        have hc := implIsHole_any rs.length (compl rs) l (some ⟨g1, 0, none⟩) lo c1 lc m.w (hI3.later m) (by rw [compl_len]; exact hrl) (hl3.later m) hll hcap
        rw [compl_len] at hc
        refine (Calls.later m hc).mono ?_
        rintro e w5 ⟨rfl, m, rfl⟩
        go_wp2_with fail
        go_ret
        exact ⟨retB (by rw [HE.out, hh]; rfl), below_later HhB4.out m⟩
      · go_wp2_with fail
        go_ret
        exact ⟨retB (by rw [HE.out, hh]; rfl), below_later HhB4.out m⟩
    · have HE := Lib.hid (perfB_even (n := rs.length) (rs := rs) h2)
      have d2 : ((l.length : Int) % 2 == 1) = false := by rw [beq_eq_false_iff_ne]; omega
      clear h2 hB2
      have HhBB := Lib.hid hBB
      clear hBB
      go_wp2_with fail
      go_ret
      exact ⟨retB (by rw [HE.out]), HhBB.out.alloc HhBB.out.size _⟩

end Go.Proofs.Ytimoniekhmacgaa
