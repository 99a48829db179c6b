/-
  IsInducedPath of the program. For at most 2^20 rows and list elements.
-/
import Derived.Test.YtfknahckicnaaaaHoleC
namespace Go.Proofs.Ytfknahckicnaaaa
open Go.RowKit

theorem pathPat (W : World) (n : Nat) (hn : n ≤ 1048576) : PatC 91 #[] W n pathP := by
  intro m j i hj hi
  show Calls Try.prog 91 #[.int .i64 j, .int .i64 i] m.w _
  have HE : Hid (pathP j i = ((i : Int) == (j : Int) + 1)) := by show pathP j i = _; unfold pathP; rw [Bool.eq_iff_iff, decide_eq_true_eq, beq_iff_eq]; omega
  go_enter Try.func91, Try.ntmps91
  go_wp2_with fail
  go_ret
  exact ⟨retB (by rw [HE.out]), rfl⟩

set_option maxRecDepth 100000 in
set_option maxHeartbeats 1000000 in
theorem implIsPath_any (n : Int) (rs l : List Int) (ro lo : Option Addr) (rc lc : Nat) (w : World) (hr : IntsAt w ro rs) (hrl : rs.length ≤ 1048576) (hl : IntsAt w lo l) (hll : l.length ≤ 1048576) (hcap : l.length ≤ lc) :
    Calls Try.prog 68 #[.agg #[.int .i64 n, .slice ro rs.length rc], .slice lo l.length lc] w fun e w' => e = .returned (.bool (pathB n rs l)) ∧ Below w.heap.size w w' := by
  by_cases h0 : 0 < l.length
  · have HE : Hid (pathB n rs l = joinB n rs l pathP) := by show pathB n rs l = _; unfold pathB; rw [decide_eq_true h0]; rfl
    have d0 : decide ((0 : Int) < (l.length : Int)) = true := decide_eq_true (by omega)
    go_enter Try.func68, Try.ntmps68
    go_wp2_with fail
    generalize hW : w.alloc _ = W1
    obtain ⟨hB, -, k0⟩ := alloc1 hW
    replace hr := hr.below hB
    replace hl := hl.below hB
    have hb0 := k0.lt
    have hc0 := k0.cell 0
    have hc1 := k0.cell 1
    simp at hc0 hc1
    clear hW k0
    have HhB := Lib.hid hB
    clear hB
    obtain ⟨m, hm0⟩ : ∃ m : Later W1, m.w = W1 := ⟨Later.refl _, rfl⟩
    refine (fun h => hm0 ▸ h) ?_
    clear hm0
    go_wp2_with (first | (go_at_call 73; refine (Calls.later m (areJoinedC_any _ _ _ _ _ _ _ _ #[] _ _ (hr.later m) hrl (hl.later m) hll hcap (fun _ _ => rfl) (pathPat _ _ hll))).mono ?_; rintro e w' ⟨rfl, m, rfl⟩))
    go_ret
    exact ⟨retB (by rw [HE.out]), below_later HhB.out m⟩
  · have HE : Hid (pathB n rs l = false) := by show pathB n rs l = _; unfold pathB; rw [decide_eq_false h0]; rfl
    have d0 : decide ((0 : Int) < (l.length : Int)) = false := decide_eq_false (by omega)
    go_enter Try.func68, Try.ntmps68
    go_wp2_with fail
    go_ret
    exact ⟨retB (by rw [HE.out]), (Below.refl _ _).alloc (Nat.le_refl _) _⟩

end Go.Proofs.Ytfknahckicnaaaa
