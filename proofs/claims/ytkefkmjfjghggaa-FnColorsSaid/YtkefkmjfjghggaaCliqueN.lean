/-
  LargestClique and CliqueNumber on both sides. For at most 2^20 rows.
-/
import Derived.Test.YtkefkmjfjghggaaBest
import Derived.Test.YtkefkmjfjghggaaClique
namespace Go.Proofs.Ytkefkmjfjghggaa
open Go.RowKit

theorem largestTo_lt (p : Nat → Bool) : ∀ k, 1 ≤ k → largestTo p k < k
  | 0, h => by omega
  | k + 1, _ => by
    unfold largestTo
    split
    · omega
    · have := largestTo_le p k; omega

/-- How many vertices the largest clique has. -/
def clqN (n : Int) (rs : List Int) : Int := if isGraphB n rs = true then (cnt (largestTo (fun S => cliqueB rs.length rs S) (2 ^ rs.length)) : Int) else -1
theorem clqN_no {n : Int} {rs : List Int} (h : isGraphB n rs = false) : clqN n rs = -1 := by unfold clqN; rw [if_neg (by rw [h]; decide)]
theorem clqN_of {n : Int} {rs : List Int} (h : isGraphB n rs = true) : clqN n rs = (cnt (largestTo (fun S => cliqueB rs.length rs S) (2 ^ rs.length)) : Int) := by unfold clqN; rw [if_pos h]

set_option maxRecDepth 100000 in
set_option maxHeartbeats 1000000 in
theorem specLargestClique_any (n : Int) (rs : List Int) (ro : Option Addr) (rc : Nat) (w : World) (hr : IntsAt w ro rs) (hrl : rs.length ≤ 1048576) :
    Calls Try.prog 70 #[.agg #[.int .i64 n, .slice ro rs.length rc]] w fun e w' => e = .returned (.int .i64 (largestV n rs fun S => cliqueB rs.length rs S)) ∧ Below w.heap.size w w' := by
  go_enter Try.func70, Try.ntmps70
  go_wp2_with fail
  generalize hW : w.alloc _ = W1
  obtain ⟨hB, -, k0⟩ := alloc1 hW
  replace hr := hr.below hB
  have hb0 := k0.lt
  have hc0 := k0.cell 0
  have hc1 := k0.cell 1
  simp at hc0 hc1
  clear hW k0
  have HhB := Lib.hid hB
  clear hB
  cases hv : isGraphB n rs
  · have HE : Hid (largestV n rs (fun S => cliqueB rs.length rs S) = 0) := by show largestV n rs _ = 0; unfold largestV; rw [hv]; rfl
    go_loopw [3, 4] (fun b i wr => (∃ m : Later W1, wr = m.w) ∧ b = .int .i64 0 ∧ i = .int .i64 1) (fun _ _ _ => 0)
    case atStart => exact ⟨⟨Later.refl _, rfl⟩, rfl, rfl⟩
    case round =>
      obtain ⟨⟨m, rfl⟩, rfl, rfl⟩ := hrel
      go_wp2_with (first | (go_at_call 18; refine (Calls.later m (specIsGraph_any _ _ _ _ _ (hr.later m) hrl)).mono ?_; rintro e w' ⟨rfl, m, rfl⟩))
      go_ret
      exact ⟨retI (by rw [HE.out]), below_later HhB.out m⟩
  · obtain ⟨rfl, g⟩ := VG.of hv
    have hg1 := g.pos
    have hg2 := g.le
    obtain ⟨hp1, hp2⟩ := g.pow
    have hq := pwN_small rs.length (by omega)
    have HE : Hid (largestV rs.length rs (fun S => cliqueB rs.length rs S) = largestTo (fun S => cliqueB rs.length rs S) (2 ^ rs.length)) := by show largestV rs.length rs _ = _; unfold largestV; rw [if_pos hv]
    generalize 2 ^ rs.length = T at *
    generalize hP : (fun S : Nat => cliqueB rs.length rs S) = p at *
    have hpk : ∀ S : Nat, cliqueB rs.length rs S = p S := fun S => by rw [← hP]
    have HhP := Lib.hid hP
    clear hP
    go_loopw [3, 4] (fun b i wr => (∃ m : Later W1, wr = m.w) ∧ ∃ k : Nat, 1 ≤ k ∧ k ≤ T ∧ b = .int .i64 (largestTo p k) ∧ i = .int .i64 k) (fun _ i _ => T - (intOf i).toNat)
    case atStart => exact ⟨⟨Later.refl _, rfl⟩, 1, by omega, by omega, by rw [largestTo_one]; rfl, rfl⟩
    case round =>
      obtain ⟨⟨m, rfl⟩, k, hk1, hk, rfl, rfl⟩ := hrel
      by_cases hlt : k < T
      · have hl := largestTo_le p k
        have HN : Hid (largestTo p (k + 1) = if cnt (largestTo p k) < cnt k ∧ p k = true then k else largestTo p k) := rfl
        have hn1 := cnt_le k
        have hn2 := cnt_le (largestTo p k)
        generalize hN : largestTo p (k + 1) = L' at *
        have HhN := Lib.hid hN
        clear hN
        generalize largestTo p k = L at *
        have hIS := fun m : Later W1 => specIsClique_any rs.length rs k ro rc m.w (hr.later m) hrl
        rw [hpk k] at hIS
        by_cases hc : cnt L < cnt k
        · cases hp : p k <;> simp only [hp] at hIS
          · go_wp2_with (first | (go_at_call 18; refine (Calls.later m (specIsGraph_any _ _ _ _ _ (hr.later m) hrl)).mono ?_; rintro e w' ⟨rfl, m, rfl⟩) | (go_at_call 20; refine (Calls.later m (specCount_any _ (by omega) _)).mono ?_; rintro e w' ⟨rfl, m, rfl⟩) | (go_at_call 89; refine (Calls.later m (hIS m)).mono ?_; rintro e w' ⟨rfl, m, rfl⟩))
            go_roundw
            case rel => exact ⟨⟨m, rfl⟩, k + 1, by omega, by omega, by rw [HhN.out, HN.out, if_neg (fun h => by rw [hp] at h; exact absurd h.2 (by decide))], by go_num⟩
            case measure => simp [intOf]; omega
          · go_wp2_with (first | (go_at_call 18; refine (Calls.later m (specIsGraph_any _ _ _ _ _ (hr.later m) hrl)).mono ?_; rintro e w' ⟨rfl, m, rfl⟩) | (go_at_call 20; refine (Calls.later m (specCount_any _ (by omega) _)).mono ?_; rintro e w' ⟨rfl, m, rfl⟩) | (go_at_call 89; refine (Calls.later m (hIS m)).mono ?_; rintro e w' ⟨rfl, m, rfl⟩))
            go_roundw
            case rel => exact ⟨⟨m, rfl⟩, k + 1, by omega, by omega, by rw [HhN.out, HN.out, if_pos ⟨hc, hp⟩], by go_num⟩
            case measure => simp [intOf]; omega
        · go_wp2_with (first | (go_at_call 18; refine (Calls.later m (specIsGraph_any _ _ _ _ _ (hr.later m) hrl)).mono ?_; rintro e w' ⟨rfl, m, rfl⟩) | (go_at_call 20; refine (Calls.later m (specCount_any _ (by omega) _)).mono ?_; rintro e w' ⟨rfl, m, rfl⟩))
          go_roundw
          case rel => exact ⟨⟨m, rfl⟩, k + 1, by omega, by omega, by rw [HhN.out, HN.out, if_neg (fun h => hc h.1)], by go_num⟩
          case measure => simp [intOf]; omega
      · go_wp2_with (first | (go_at_call 18; refine (Calls.later m (specIsGraph_any _ _ _ _ _ (hr.later m) hrl)).mono ?_; rintro e w' ⟨rfl, m, rfl⟩))
        go_ret
        obtain rfl : k = T := by omega
        exact ⟨retI (by rw [HhP.out, HE.out]), below_later HhB.out m⟩


set_option maxRecDepth 100000 in
set_option maxHeartbeats 1000000 in
theorem specClqN_any (n : Int) (rs : List Int) (ro : Option Addr) (rc : Nat) (w : World) (hr : IntsAt w ro rs) (hrl : rs.length ≤ 1048576) :
    Calls Try.prog 10 #[.agg #[.int .i64 n, .slice ro rs.length rc]] w fun e w' => e = .returned (.int .i64 (clqN n rs)) ∧ Below w.heap.size w w' := by
  go_enter Try.func10, Try.ntmps10
  go_wp2_with fail
  generalize hW : w.alloc _ = W1
  obtain ⟨hB, -, k0⟩ := alloc1 hW
  replace hr := hr.below hB
  have hb0 := k0.lt
  have hc0 := k0.cell 0
  have hc1 := k0.cell 1
  simp at hc0 hc1
  clear hW k0
  have HhB := Lib.hid hB
  clear hB
  obtain ⟨m, hm0⟩ : ∃ m : Later W1, m.w = W1 := ⟨Later.refl _, rfl⟩
  refine (fun h => hm0 ▸ h) ?_
  clear hm0
  have hL := fun m : Later W1 => specLargestClique_any n rs ro rc m.w (hr.later m) hrl
  cases hv : isGraphB n rs
  · have HE := Lib.hid (clqN_no hv)
    go_wp2_with (first | (go_at_call 18; refine (Calls.later m (specIsGraph_any _ _ _ _ _ (hr.later m) hrl)).mono ?_; rintro e w' ⟨rfl, m, rfl⟩))
    go_ret
    exact ⟨retI (by rw [HE.out]), below_later HhB.out m⟩
  · have HE := Lib.hid (clqN_of hv)
    obtain ⟨rfl, g⟩ := VG.of hv
    obtain ⟨hp1, hp2⟩ := g.pow
    have hlt := largestTo_lt (fun S => cliqueB rs.length rs S) (2 ^ rs.length) (by omega)
    have hV : largestV rs.length rs (fun S => cliqueB rs.length rs S) = (largestTo (fun S => cliqueB rs.length rs S) (2 ^ rs.length) : Int) := by unfold largestV; rw [if_pos hv]
    rw [hV] at hL
    clear hV
    generalize largestTo (fun S : Nat => cliqueB rs.length rs S) (2 ^ rs.length) = L at *
    go_wp2_with (first | (go_at_call 18; refine (Calls.later m (specIsGraph_any _ _ _ _ _ (hr.later m) hrl)).mono ?_; rintro e w' ⟨rfl, m, rfl⟩) | (go_at_call 70; refine (Calls.later m (hL _)).mono ?_; rintro e w' ⟨rfl, m, rfl⟩) | (go_at_call 20; refine (Calls.later m (specCount_any _ (by omega) _)).mono ?_; rintro e w' ⟨rfl, m, rfl⟩))
    go_ret
    exact ⟨retI (by rw [HE.out]), below_later HhB.out m⟩


end Go.Proofs.Ytkefkmjfjghggaa
